/-
  Plain: what is erased is blank; what is blank takes any words; what is written twice is as once.
-/
import Derived.Test.YtmeegehmbphooaaSetP
namespace Go.Proofs.Ytmeegehmbphooaa
theorem wand_full {x : Int} (h1 : 0 ≤ x) (h2 : x < 4294967296) : wand x 4294967295 = x := by
  unfold wand
  have : x.toNat &&& (4294967295 : Int).toNat = x.toNat := by
    show x.toNat &&& 4294967295 = x.toNat
    have := Nat.and_two_pow_sub_one_eq_mod x.toNat 32
    rw [show 2 ^ 32 - 1 = 4294967295 from rfl] at this
    rw [this]; omega
  rw [this]; omega
theorem wand_full' {x : Int} (h1 : 0 ≤ x) (h2 : x < 4294967296) : wand 4294967295 x = x := by
  have := wand_full h1 h2
  unfold wand at this ⊢
  rw [Nat.and_comm]; exact this
theorem wand_self {x : Int} (h1 : 0 ≤ x) : wand x x = x := by
  unfold wand; rw [Nat.and_self]; omega
theorem lay_length' (xs : List Int) : ∀ (l : List Int) (i : Nat), (NorS.lay l i xs).length = l.length := by
  induction xs with
  | nil => intro l i; rfl
  | cons x r ih => intro l i; show (NorS.lay (l.set i x) (i + 1) r).length = _; rw [ih]; simp
theorem lay_at (xs : List Int) : ∀ (l : List Int) (i j : Nat), i + xs.length ≤ l.length → (NorS.lay l i xs).getD j 0 = if i ≤ j ∧ j < i + xs.length then xs.getD (j - i) 0 else l.getD j 0 := by
  induction xs with
  | nil => intro l i j h; rw [if_neg (by simp only [List.length_nil]; omega)]; rfl
  | cons x r ih =>
    intro l i j h
    show (NorS.lay (l.set i x) (i + 1) r).getD j 0 = _
    rw [List.length_cons] at h ⊢
    rw [ih _ _ _ (by simp; omega)]
    by_cases h1 : i + 1 ≤ j ∧ j < i + 1 + r.length
    · rw [if_pos h1, if_pos (by omega), show j - i = (j - (i + 1)) + 1 from by omega, List.getD_cons_succ]
    · rw [if_neg h1]
      by_cases h2 : j = i
      · subst h2
        rw [if_pos (by omega)]
        simp [List.getD_eq_getElem?_getD, show j < l.length from by omega]
      · rw [if_neg (by omega)]
        simp [List.getD_eq_getElem?_getD, show i ≠ j from fun e => h2 e.symm]
namespace DrvS
variable {d : DrvS} {s : NorS}
/-- a flash that is up, and not armed -/
structure Calm (s : NorS) : Prop where
  dn : s.down = false
  ar : s.arm = -1
theorem Calm.steps (h : Calm s) : s.steps = true := by unfold NorS.steps; rw [h.ar]; rfl
theorem Calm.step (h : Calm s) : s.step = s := by
  unfold NorS.step
  rw [if_neg (by rw [h.ar]; decide)]
  have e : max (s.arm - 1) (-1) = s.arm := by rw [h.ar]; decide
  rw [e]
theorem Calm.progs (h : Calm s) (xs : List Int) : s.progs xs = true := by
  rw [NorS.progs_iff xs s (by rw [h.ar]; decide)]
  unfold NorS.doneN; rw [h.ar]; rfl
theorem Calm.prog (h : Calm s) (xs : List Int) : ∀ i, Calm (s.prog i xs) ∧ (s.prog i xs).l = NorS.andL s.l i xs := by
  intro i
  refine ⟨⟨by rw [NorS.prog_down, h.dn, h.progs]; rfl, ?_⟩, ?_⟩
  · have key : ∀ (xs : List Int) (s : NorS) (i : Nat), s.arm = -1 → (s.prog i xs).arm = -1 := by
      intro xs
      induction xs with
      | nil => intro s i h; exact h
      | cons x r ih =>
        intro s i h
        show (if s.steps = true then _ else _ : NorS).arm = -1
        have hs : s.step.arm = -1 := by unfold NorS.step; rw [if_neg (by rw [h]; decide)]; show max (s.arm - 1) (-1) = -1; rw [h]; rfl
        split
        · exact ih _ _ hs
        · exact hs
    exact key xs s i h.ar
  · rw [NorS.prog_l xs s i (by rw [h.ar]; decide)]
    have := (NorS.progs_iff xs s (by rw [h.ar]; decide)).1 (h.progs xs)
    rw [this, List.take_length]
theorem calm_crash (s : NorS) (ks : List Bool) : Calm (s.crash ks) := ⟨rfl, rfl⟩
/-- an erasing -/
theorem calm_er (h : Calm s) (hs : s.Ok) (hd : d.Ok s) {k : Nat} (hk : k < d.many) : d.erE s k = 0 ∧ Calm (d.er s k) ∧ (d.er s k).n = s.n ∧
    (∀ j, (d.er s k).wd j = if (d.first + k) * 64 ≤ j ∧ j < (d.first + k) * 64 + 64 then 4294967295 else s.wd j) := by
  have hn := hd.n
  have hup : s.up ((d.first : Int) + k) 0 0 = 0 := by
    unfold NorS.up NorS.there
    rw [if_neg (by rw [h.dn]; simp), if_pos]
    simp only [Bool.and_eq_true, decide_eq_true_eq]
    omega
  have hE : d.er s k = { s.step with l := NorS.lay s.l (NorS.at_ ((d.first : Int) + k) 0) (List.replicate 64 4294967295) } := by
    unfold er NorS.erase
    rw [if_pos (by omega), if_pos hup, if_pos h.steps]
  have hat : NorS.at_ ((d.first : Int) + k) 0 = (d.first + k) * 64 := by unfold NorS.at_; omega
  have hlen := hs.len
  refine ⟨?_, ?_, ?_, fun j => ?_⟩
  · unfold erE NorS.eraseE
    rw [if_pos (by omega), if_pos hup, if_pos h.steps]
  · rw [hE, h.step]; exact ⟨h.dn, h.ar⟩
  · rw [hE, h.step]
  · have hrep : ∀ i, i < 64 → (List.replicate 64 (4294967295 : Int)).getD i 0 = 4294967295 := fun i hi => by
      rw [List.getD_eq_getElem?_getD, List.getElem?_replicate, if_pos hi]; rfl
    have key := lay_at (List.replicate 64 (4294967295 : Int)) s.l ((d.first + k) * 64) j (by rw [List.length_replicate]; omega)
    rw [List.length_replicate] at key
    unfold NorS.wd
    rw [hE]
    simp only
    rw [hat, key]
    split
    · exact hrep _ (by omega)
    · rfl
/-- a writing that sets no bit -/
theorem calm_wr (h : Calm s) (hs : s.Ok) (hd : d.Ok s) {a : Nat} {l : List Int} (hl : a + l.length ≤ d.many * 64) (hw : ∀ i, i < l.length → wand (l.getD i 0) (s.wd (d.base + a + i)) = l.getD i 0) : d.wrE s a l = 0 ∧ Calm (d.wr s a l) ∧ (d.wr s a l).n = s.n ∧ (d.wr s a l).Ok ∧
    (∀ j, (d.wr s a l).wd j = if d.base + a ≤ j ∧ j < d.base + a + l.length then l.getD (j - (d.base + a)) 0 else s.wd j) := by
  have hn := hd.n
  have hlen := hs.len
  have hb : d.base = d.first * 64 := rfl
  have hmul : (d.first + d.many) * 64 ≤ s.n * 64 := Nat.mul_le_mul_right _ hd.n
  have hE0 : d.rdE s a l.length = 0 := rdE_ok h.dn ⟨by omega, by omega, by omega, by omega⟩
  have hset : d.sets s a l = false := by
    unfold sets
    rw [List.any_eq_false]
    intro i hi
    rw [hw i (List.mem_range.1 hi)]; simp
  have hW : d.wr s a l = s.prog (d.base + a) l := by
    unfold wr
    rw [if_pos hE0]
    show (if d.sets s a l = true then s else _) = _
    rw [hset, if_neg (by simp)]; rfl
  refine ⟨?_, ?_, ?_, ?_, fun j => ?_⟩
  · unfold wrE
    rw [if_pos hE0]
    show (if d.sets s a l = true then (50 : Int) else _) = 0
    rw [hset, if_neg (by simp), if_pos (h.progs l)]
  · rw [hW]; exact (h.prog l _).1
  · rw [hW]; exact (NorS.prog_same l s _).1
  · rw [hW]; exact NorS.Ok.prog' l s _ hs
  · rw [hW]
    show (s.prog (d.base + a) l).l.getD j 0 = _
    rw [(h.prog l _).2, NorS.andL_get _ _ _ _ (by omega)]
    split
    · rename_i hj
      have := hw (j - (d.base + a)) (by omega)
      rw [show d.base + a + (j - (d.base + a)) = j from by omega] at this
      unfold NorS.wd at this
      unfold wand at this ⊢
      rw [Nat.and_comm]; exact this
    · rfl
/-- blank -/
theorem calm_blank (h : Calm s) (hs : s.Ok) (hd : d.Ok s) {a m : Nat} (hl : a + m ≤ d.many * 64) (hw : ∀ i, i < m → s.wd (d.base + a + i) = 4294967295) : d.blank s a m = true := by
  have hE0 : d.rdE s a m = 0 := rdE_ok h.dn ⟨by omega, by omega, by omega, by omega⟩
  unfold blank rd
  rw [if_pos hE0, decide_eq_true hE0, Bool.true_and, List.all_eq_true]
  intro x hx
  have hx : x ∈ d.words s a m := hx
  obtain ⟨i, hi, rfl⟩ := List.getElem_of_mem hx
  have hlw := words_length hs hd (a := a) (m := m) hl
  have := words_get (d := d) (s := s) (a := a) (m := m) (i := i) (by omega)
  rw [List.getD_eq_getElem?_getD, List.getElem?_eq_getElem hi, Option.getD_some] at this
  rw [this, hw i (by omega)]; rfl
/-- behind an erasing: the words twice -/
theorem erases2 {k : Nat} {x : List Int} (h : Calm s) (hs : s.Ok) (hd : d.Ok s) (hk : k < d.many) (h1 : (d.er s k).Ok) (hx : x.length ≤ 64) (ux : U32 x) :
    d.blank (d.er s k) ((64 * k : Nat) : Int) ((64 : Nat) : Int) = true ∧ d.wrE (d.er s k) ((64 * k : Nat) : Int) x = 0 ∧ d.wrE (d.wr (d.er s k) ((64 * k : Nat) : Int) x) ((64 * k : Nat) : Int) x = 0 ∧
    Calm (d.wr (d.wr (d.er s k) ((64 * k : Nat) : Int) x) ((64 * k : Nat) : Int) x) ∧ d.Ok (d.er s k) ∧ d.Ok (d.wr (d.er s k) ((64 * k : Nat) : Int) x) ∧ d.Ok (d.wr (d.wr (d.er s k) ((64 * k : Nat) : Int) x) ((64 * k : Nat) : Int) x) ∧
    (∀ j m, j < m → (d.words (d.wr (d.wr (d.er s k) ((64 * k : Nat) : Int) x) ((64 * k : Nat) : Int) x) 0 m).getD j 0 = if j / 64 = k then (if j % 64 < x.length then x.getD (j % 64) 0 else 4294967295) else (d.words s 0 m).getD j 0) := by
  obtain ⟨-, c1, n1, w1⟩ := calm_er h hs hd hk
  have hb : d.base = d.first * 64 := rfl
  have d1 : d.Ok (d.er s k) := ⟨hd.m, by rw [n1]; exact hd.n⟩
  have e1 : ∀ i, i < 64 → (d.er s k).wd (d.base + 64 * k + i) = 4294967295 := fun i hi => by rw [w1, if_pos (by omega)]
  have f1 := calm_wr c1 h1 d1 (a := 64 * k) (l := x) (by omega) (fun i hi => by rw [e1 i (by omega)]; exact wand_full (ux.get i).1 (ux.get i).2)
  obtain ⟨g1, c2, n2, ok2, w2⟩ := f1
  have d2 : d.Ok (d.wr (d.er s k) ((64 * k : Nat) : Int) x) := ⟨hd.m, by rw [n2]; exact d1.n⟩
  have e2 : ∀ i, i < x.length → (d.wr (d.er s k) ((64 * k : Nat) : Int) x).wd (d.base + 64 * k + i) = x.getD i 0 := fun i hi => by
    rw [w2, if_pos (by omega), show d.base + 64 * k + i - (d.base + 64 * k) = i from by omega]
  have f2 := calm_wr c2 ok2 d2 (a := 64 * k) (l := x) (by omega) (fun i hi => by rw [e2 i hi]; exact wand_self (ux.get i).1)
  obtain ⟨g2, c3, n3, ok3, w3⟩ := f2
  refine ⟨calm_blank c1 h1 d1 (by omega) e1, g1, g2, c3, d1, d2, ⟨hd.m, by rw [n3]; exact d2.n⟩, fun j m hj => ?_⟩
  rw [words_get hj, words_get hj, w3]
  by_cases q : j / 64 = k
  · rw [if_pos q]
    by_cases r : j % 64 < x.length
    · rw [if_pos r, if_pos (by omega), show d.base + 0 + j - (d.base + 64 * k) = j % 64 from by omega]
    · rw [if_neg r, if_neg (by omega), w2, if_neg (by omega), w1, if_pos (by omega)]
  · rw [if_neg q, if_neg (by omega), w2, if_neg (by omega), w1, if_neg (by omega)]
end DrvS
end Go.Proofs.Ytmeegehmbphooaa
