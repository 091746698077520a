/-
  Texts of this claim, joined: SeqP, DrvP, SetP, DrvEraseP, DrvKeepsP, TalP, TalP2, TalP3, TalQ, TalR.
-/
import Derived.Laws.BitsAllLaws
import Derived.Lib.BitFns
import Derived.Test.YtiapoalkkhpmlaaCelJ1
/-
  Plain: words that are programmed one behind the other; how many of them, till the power fails.
-/
namespace Go.Proofs.Ytiapoalkkhpmlaa
namespace NorS
theorem prog_append (xs ys : List Int) : ∀ (s : NorS) (i : Nat), s.prog i (xs ++ ys) = if s.progs xs = true then (s.prog i xs).prog (i + xs.length) ys else s.prog i xs := by
  induction xs with
  | nil => intro s i; simp [NorS.prog, progs]
  | cons x r ih =>
    intro s i
    show (if s.steps = true then _ else _) = if (if s.steps = true then _ else _) = true then (if s.steps = true then _ else _ : NorS).prog _ _ else (if s.steps = true then _ else _)
    by_cases hs : s.steps = true
    · rw [if_pos hs, if_pos hs, if_pos hs, List.append_eq, ih, progs_put, show i + 1 + r.length = i + (x :: r).length from by simp; omega]
    · rw [if_neg hs, if_neg hs, if_neg hs, if_neg (by simp)]
theorem progs_append (xs ys : List Int) : ∀ (s : NorS) (i : Nat), s.progs (xs ++ ys) = (s.progs xs && (s.prog i xs).progs ys) := by
  induction xs with
  | nil => intro s i; simp [NorS.prog, progs]
  | cons x r ih =>
    intro s i
    show (if s.steps = true then _ else _) = ((if s.steps = true then _ else _) && (if s.steps = true then _ else _ : NorS).progs _)
    by_cases hs : s.steps = true
    · rw [if_pos hs, if_pos hs, if_pos hs, List.append_eq, ih s.step i]
      congr 1
      have e : ∀ (zs : List Int) (a b : NorS) (k k' : Nat), a.arm = b.arm → (a.prog k zs).arm = (b.prog k' zs).arm := by
        intro zs
        induction zs with
        | nil => intro a b k k' h; exact h
        | cons z t ih2 =>
          intro a b k k' h
          have hst : a.steps = b.steps := by unfold NorS.steps; rw [h]
          have hsa : a.step.arm = b.step.arm := by unfold NorS.step; rw [h]; split <;> rfl
          show (if a.steps = true then _ else _ : NorS).arm = (if b.steps = true then _ else _ : NorS).arm
          rw [hst]
          split
          · exact ih2 _ _ _ _ hsa
          · exact hsa
      have e2 : ∀ (zs : List Int) (a b : NorS), a.arm = b.arm → a.progs zs = b.progs zs := by
        intro zs
        induction zs with
        | nil => intro a b h; rfl
        | cons z t ih2 =>
          intro a b h
          have hst : a.steps = b.steps := by unfold NorS.steps; rw [h]
          have hsa : a.step.arm = b.step.arm := by unfold NorS.step; rw [h]; split <;> rfl
          show (if a.steps = true then _ else _) = if b.steps = true then _ else _
          rw [hst, ih2 _ _ hsa]
      exact e2 ys _ _ (e r _ _ _ _ rfl)
    · rw [if_neg hs, if_neg hs, if_neg hs]; rfl
/-- how many of m words are programmed -/
def doneN (s : NorS) (m : Nat) : Nat := if s.arm < 0 then m else min s.arm.toNat m
theorem doneN_le (s : NorS) (m : Nat) : s.doneN m ≤ m := by unfold doneN; split <;> omega
theorem steps_arm {s : NorS} : s.steps = true ↔ s.arm ≠ 0 := by unfold NorS.steps; simp
theorem step_arm {s : NorS} (ha : -1 ≤ s.arm) : s.step.arm = if s.arm ≤ 0 then -1 else s.arm - 1 := by
  unfold NorS.step
  split
  · rename_i h; rw [h]; rfl
  · show max _ _ = _; split <;> omega
theorem doneN_step {s : NorS} (ha : -1 ≤ s.arm) (h : s.arm ≠ 0) (m : Nat) : s.doneN (m + 1) = s.step.doneN m + 1 := by
  unfold doneN
  rw [step_arm ha]
  by_cases h0 : s.arm < 0
  · rw [if_pos h0, if_pos (by split <;> omega)]
  · rw [if_neg h0, if_neg (show ¬ s.arm ≤ 0 by omega), if_neg (by omega)]; omega
theorem step_arm_lo {s : NorS} (ha : -1 ≤ s.arm) : -1 ≤ s.step.arm := by rw [step_arm ha]; split <;> omega
theorem prog_l (xs : List Int) : ∀ (s : NorS) (i : Nat), -1 ≤ s.arm → (s.prog i xs).l = andL s.l i (xs.take (s.doneN xs.length)) := by
  induction xs with
  | nil => intro s i ha; simp [NorS.prog, andL]
  | cons x r ih =>
    intro s i ha
    show (if s.steps = true then _ else _ : NorS).l = _
    by_cases hs : s.steps = true
    · rw [if_pos hs, ih (s.step.put i (wand (s.wd i) x)) (i + 1) (step_arm_lo ha)]
      have := doneN_step ha (steps_arm.1 hs) r.length
      rw [List.length_cons, this, List.take_succ_cons]
      show andL (s.step.l.set i _) _ _ = andL (s.l.set i _) _ _
      rw [step_l]
      rfl
    · have h0 : s.arm = 0 := Classical.not_not.1 (fun e => hs (steps_arm.2 e))
      rw [if_neg hs, step_l]
      have : s.doneN (x :: r).length = 0 := by unfold doneN; rw [h0]; simp
      rw [this]; rfl
theorem progs_iff (xs : List Int) : ∀ (s : NorS), -1 ≤ s.arm → (s.progs xs = true ↔ s.doneN xs.length = xs.length) := by
  induction xs with
  | nil => intro s ha; unfold doneN; simp [progs]
  | cons x r ih =>
    intro s ha
    show (if s.steps = true then _ else _) = true ↔ _
    by_cases hs : s.steps = true
    · rw [if_pos hs, ih _ (step_arm_lo ha), List.length_cons, doneN_step ha (steps_arm.1 hs)]; omega
    · have h0 : s.arm = 0 := Classical.not_not.1 (fun e => hs (steps_arm.2 e))
      rw [if_neg hs]
      have : s.doneN (x :: r).length = 0 := by unfold doneN; rw [h0]; simp
      rw [this]; simp
theorem step_down (s : NorS) : s.step.down = (s.down || !s.steps) := by
  unfold NorS.step NorS.steps
  split
  · rename_i h; rw [h]; simp
  · rename_i h; simp [h]
theorem prog_down (xs : List Int) : ∀ (s : NorS) (i : Nat), (s.prog i xs).down = (s.down || !s.progs xs) := by
  induction xs with
  | nil => intro s i; simp [NorS.prog, progs]
  | cons x r ih =>
    intro s i
    show (if s.steps = true then _ else _ : NorS).down = (s.down || !(if s.steps = true then _ else _))
    by_cases hs : s.steps = true
    · rw [if_pos hs, if_pos hs, ih, progs_put]
      show (s.step.down || _) = _
      rw [step_down, hs]; simp
    · rw [if_neg hs, if_neg hs, step_down]
      have : s.steps = false := by simpa using hs
      rw [this]
theorem step_half (s : NorS) : s.step.half = s.half := by unfold NorS.step; split <;> rfl
theorem prog_same (xs : List Int) : ∀ (s : NorS) (i : Nat), (s.prog i xs).n = s.n ∧ (s.prog i xs).guard = s.guard ∧ (s.prog i xs).half = s.half := by
  induction xs with
  | nil => intro s i; exact ⟨rfl, rfl, rfl⟩
  | cons x r ih =>
    intro s i
    show (if s.steps = true then _ else _ : NorS).n = _ ∧ (if s.steps = true then _ else _ : NorS).guard = _ ∧ (if s.steps = true then _ else _ : NorS).half = _
    by_cases hs : s.steps = true
    · rw [if_pos hs]
      obtain ⟨a, b, c⟩ := ih (s.step.put i (wand (s.wd i) x)) (i + 1)
      exact ⟨a.trans (step_n s), b.trans (step_guard s), c.trans (step_half s)⟩
    · rw [if_neg hs]; exact ⟨step_n s, step_guard s, step_half s⟩
theorem Ok.prog' (xs : List Int) : ∀ (s : NorS) (i : Nat), s.Ok → (s.prog i xs).Ok := by
  induction xs with
  | nil => intro s i h; exact h
  | cons x r ih =>
    intro s i h
    show (if s.steps = true then _ else _ : NorS).Ok
    by_cases hs : s.steps = true
    · rw [if_pos hs]; exact ih _ _ (h.step.put _ (wand_u32 (h.wd _)))
    · rw [if_neg hs]; exact h.step
end NorS
end Go.Proofs.Ytiapoalkkhpmlaa

/-
  Plain: what a drive does, over a flash.
-/
namespace Go.Proofs.Ytiapoalkkhpmlaa
/-- A drive: its first sector, how many. -/
structure DrvS where
  first : Nat
  many : Nat
namespace DrvS
structure Ok (d : DrvS) (s : NorS) : Prop where
  m : 1 ≤ d.many
  n : d.first + d.many ≤ s.n
/-- the place of its first word -/
def base (d : DrvS) : Nat := d.first * 64
def rdE (d : DrvS) (s : NorS) (a m : Int) : Int := if 0 ≤ a ∧ 0 ≤ m ∧ a ≤ d.many * 64 ∧ m ≤ d.many * 64 - a then (if s.down = true then 40 else 0) else 2
def words (d : DrvS) (s : NorS) (a m : Nat) : List Int := (s.l.drop (d.base + a)).take m
def rd (d : DrvS) (s : NorS) (a m : Int) : List Int := if d.rdE s a m = 0 then d.words s a.toNat m.toNat else []
/-- would a bit have to be set? -/
def sets (d : DrvS) (s : NorS) (a : Nat) (l : List Int) : Bool := (List.range l.length).any fun i => !(wand (l.getD i 0) (s.wd (d.base + a + i)) == l.getD i 0)
def wrE (d : DrvS) (s : NorS) (a : Int) (l : List Int) : Int :=
  if d.rdE s a l.length = 0 then (if d.sets s a.toNat l = true then 50 else if s.progs l = true then 0 else 40) else d.rdE s a l.length
def wr (d : DrvS) (s : NorS) (a : Int) (l : List Int) : NorS :=
  if d.rdE s a l.length = 0 then (if d.sets s a.toNat l = true then s else s.prog (d.base + a.toNat) l) else s
def erE (d : DrvS) (s : NorS) (sec : Int) : Int := if 0 ≤ sec ∧ sec < d.many then s.eraseE (d.first + sec) else 2
def er (d : DrvS) (s : NorS) (sec : Int) : NorS := if 0 ≤ sec ∧ sec < d.many then s.erase (d.first + sec) else s
def blank (d : DrvS) (s : NorS) (a m : Int) : Bool := decide (d.rdE s a m = 0) && (d.rd s a m).all (fun x => x == 4294967295)

theorem rdE_zero {d : DrvS} {s : NorS} {a m : Int} (h : d.rdE s a m = 0) : s.down = false ∧ 0 ≤ a ∧ 0 ≤ m ∧ a ≤ d.many * 64 ∧ m ≤ d.many * 64 - a := by
  unfold rdE at h
  split at h
  · split at h
    · cases h
    · exact ⟨by rename_i h2; simpa using h2, by assumption⟩
  · cases h
theorem rdE_ok {d : DrvS} {s : NorS} {a m : Int} (hd : s.down = false) (h : 0 ≤ a ∧ 0 ≤ m ∧ a ≤ d.many * 64 ∧ m ≤ d.many * 64 - a) : d.rdE s a m = 0 := by
  unfold rdE; rw [if_pos h, if_neg (by rw [hd]; simp)]
theorem words_length {d : DrvS} {s : NorS} (hs : s.Ok) (hd : d.Ok s) {a m : Nat} (h : a + m ≤ d.many * 64) : (d.words s a m).length = m := by
  have := hs.len; have := hd.n
  unfold words base
  simp
  have : (d.first + d.many) * 64 ≤ s.n * 64 := Nat.mul_le_mul_right _ hd.n
  omega
theorem words_get {d : DrvS} {s : NorS} {a m i : Nat} (h : i < m) : (d.words s a m).getD i 0 = s.wd (d.base + a + i) := by
  unfold words NorS.wd
  simp only [List.getD_eq_getElem?_getD]
  rw [List.getElem?_take_of_lt h, List.getElem?_drop]
theorem words_u32 {d : DrvS} {s : NorS} (hs : s.Ok) (a m : Nat) : U32 (d.words s a m) := (hs.u.drop _).take _
/-- what was written is read -/
theorem readback {d : DrvS} {s : NorS} (hs : s.Ok) (hd : d.Ok s) {a : Nat} {l : List Int} (hl : a + l.length ≤ d.many * 64) (hset : d.sets s a l = false) (hp : s.progs l = true) :
    d.words (s.prog (d.base + a) l) a l.length = l := by
  have hlen := hs.len
  have h1 : (d.first + d.many) * 64 ≤ s.n * 64 := Nat.mul_le_mul_right _ hd.n
  have hb : d.base = d.first * 64 := rfl
  have hd' : d.Ok (s.prog (d.base + a) l) := ⟨hd.m, by rw [(NorS.prog_same l s _).1]; exact hd.n⟩
  apply NorS.ext_getD
  · exact words_length (NorS.Ok.prog' l s _ hs) hd' hl
  · intro i hi
    rw [words_length (NorS.Ok.prog' l s _ hs) hd' hl] at hi
    rw [words_get hi]
    unfold NorS.wd
    rw [NorS.prog_l l s _ hs.a0, (NorS.progs_iff l s hs.a0).1 hp, List.take_length, NorS.andL_get _ _ _ _ (by omega), if_pos (by omega)]
    have h2 : (List.range l.length).any (fun i => !(wand (l.getD i 0) (s.wd (d.base + a + i)) == l.getD i 0)) = false := hset
    rw [List.any_eq_false] at h2
    have h3 := h2 i (List.mem_range.2 hi)
    simp only [Bool.not_eq_true', Bool.not_eq_false, beq_iff_eq] at h3
    rw [show d.base + a + i - (d.base + a) = i from by omega]
    have h4 : wand (l.getD i 0) (s.wd (d.base + a + i)) = l.getD i 0 := by simpa using h3
    unfold NorS.wd at h4
    unfold wand at h4 ⊢
    rw [Nat.and_comm]; exact h4
end DrvS
end Go.Proofs.Ytiapoalkkhpmlaa

/-
  Plain: would a bit have to be set; words that are programmed in pieces.
-/
namespace Go.Proofs.Ytiapoalkkhpmlaa
theorem and_not_zero (a b : Nat) (ha : a < 4294967296) (hb : b < 4294967296) : a &&& (4294967295 - b) = 0 ↔ a &&& b = a := by
  have hc : ∀ i, (4294967295 - b).testBit i = (decide (i < 32) && !b.testBit i) := fun i => by
    have := Nat.testBit_two_pow_sub_succ (n := 32) (x := b) (by simpa using hb) i
    rwa [show 2 ^ 32 - (b + 1) = 4294967295 - b from by omega] at this
  constructor
  · intro h
    apply Nat.eq_of_testBit_eq
    intro i
    have h1 : (a &&& (4294967295 - b)).testBit i = false := by rw [h]; simp
    rw [Nat.testBit_and, hc] at h1
    rw [Nat.testBit_and]
    by_cases hi : i < 32
    · simp [hi] at h1
      cases hx : a.testBit i
      · simp
      · simp [h1 hx]
    · have : a.testBit i = false := Nat.testBit_lt_two_pow (Nat.lt_of_lt_of_le ha (by simpa using Nat.pow_le_pow_right (show 0 < 2 by omega) (show 32 ≤ i by omega)))
      simp [this]
  · intro h
    apply Nat.eq_of_testBit_eq
    intro i
    have h1 : (a &&& b).testBit i = a.testBit i := by rw [h]
    rw [Nat.testBit_and] at h1
    rw [Nat.testBit_and, hc]
    cases hx : a.testBit i
    · simp
    · rw [hx] at h1; simp at h1; simp [h1]
theorem andNot_ne {x y : Int} (h1 : 0 ≤ x) (h2 : x < 4294967296) (h3 : 0 ≤ y) (h4 : y < 4294967296) : (bits .andNot .u32 x y != 0) = !(wand x y == x) := by
  rw [u32_andNot x y h1 h2 h3 h4]
  have h := and_not_zero x.toNat y.toNat (by omega) (by omega)
  unfold wand
  by_cases e : x.toNat &&& y.toNat = x.toNat
  · have e1 := h.2 e
    have e2 : ((x.toNat &&& y.toNat : Nat) : Int) = x := by rw [e]; omega
    rw [e1, e2]; simp
  · have e1 : ¬ x.toNat &&& (4294967295 - y.toNat) = 0 := fun e' => e (h.1 e')
    have e2 : ¬ ((x.toNat &&& y.toNat : Nat) : Int) = x := fun e' => e (by omega)
    have a1 : (((x.toNat &&& (4294967295 - y.toNat) : Nat) : Int) != 0) = true := by simpa using e1
    have a2 : (((x.toNat &&& y.toNat : Nat) : Int) == x) = false := by simpa using e2
    rw [a1, a2]; rfl
namespace NorS
theorem take_more (l : List Int) (k m : Nat) : l.take (k + m) = l.take k ++ (l.drop k).take m := by
  rw [List.take_add]
/-- a piece more -/
theorem prog_piece {s : NorS} {i k m : Nat} {l : List Int} (h : s.progs (l.take k) = true) (hk : k ≤ l.length) : s.prog i (l.take (k + m)) = (s.prog i (l.take k)).prog (i + k) ((l.drop k).take m) ∧ s.progs (l.take (k + m)) = (s.prog i (l.take k)).progs ((l.drop k).take m) := by
  rw [take_more, prog_append, progs_append (l.take k) _ s i, h, if_pos rfl, List.length_take, Nat.min_eq_left hk]
  exact ⟨rfl, by simp⟩
/-- the power fails -/
theorem prog_stop {s : NorS} {i k : Nat} {l : List Int} (h : s.progs (l.take k) = false) : s.prog i l = s.prog i (l.take k) ∧ s.progs l = false := by
  have e : l = l.take k ++ l.drop k := (List.take_append_drop k l).symm
  refine ⟨?_, ?_⟩
  · conv => lhs; rw [e]
    rw [prog_append, h, if_neg (by simp)]
  · rw [e, progs_append (l.take k) _ s i, h]; rfl
end NorS
end Go.Proofs.Ytiapoalkkhpmlaa

/-
  Plain: what is erased is blank; what is blank takes any words; what is written twice is as once.
-/
namespace Go.Proofs.Ytiapoalkkhpmlaa
theorem wand_full {x : Int} (h1 : 0 ≤ x) (h2 : x < 4294967296) : wand x 4294967295 = x := by
  unfold wand
  have : x.toNat &&& (4294967295 : Int).toNat = x.toNat := by
    show x.toNat &&& 4294967295 = x.toNat
    have := Nat.and_two_pow_sub_one_eq_mod x.toNat 32
    rw [show 2 ^ 32 - 1 = 4294967295 from rfl] at this
    rw [this]; omega
  rw [this]; omega
theorem wand_full' {x : Int} (h1 : 0 ≤ x) (h2 : x < 4294967296) : wand 4294967295 x = x := by
  have := wand_full h1 h2
  unfold wand at this ⊢
  rw [Nat.and_comm]; exact this
theorem wand_self {x : Int} (h1 : 0 ≤ x) : wand x x = x := by
  unfold wand; rw [Nat.and_self]; omega
theorem lay_length' (xs : List Int) : ∀ (l : List Int) (i : Nat), (NorS.lay l i xs).length = l.length := by
  induction xs with
  | nil => intro l i; rfl
  | cons x r ih => intro l i; show (NorS.lay (l.set i x) (i + 1) r).length = _; rw [ih]; simp
theorem lay_at (xs : List Int) : ∀ (l : List Int) (i j : Nat), i + xs.length ≤ l.length → (NorS.lay l i xs).getD j 0 = if i ≤ j ∧ j < i + xs.length then xs.getD (j - i) 0 else l.getD j 0 := by
  induction xs with
  | nil => intro l i j h; rw [if_neg (by simp only [List.length_nil]; omega)]; rfl
  | cons x r ih =>
    intro l i j h
    show (NorS.lay (l.set i x) (i + 1) r).getD j 0 = _
    rw [List.length_cons] at h ⊢
    rw [ih _ _ _ (by simp; omega)]
    by_cases h1 : i + 1 ≤ j ∧ j < i + 1 + r.length
    · rw [if_pos h1, if_pos (by omega), show j - i = (j - (i + 1)) + 1 from by omega, List.getD_cons_succ]
    · rw [if_neg h1]
      by_cases h2 : j = i
      · subst h2
        rw [if_pos (by omega)]
        simp [List.getD_eq_getElem?_getD, show j < l.length from by omega]
      · rw [if_neg (by omega)]
        simp [List.getD_eq_getElem?_getD, show i ≠ j from fun e => h2 e.symm]
namespace DrvS
variable {d : DrvS} {s : NorS}
/-- a flash that is up, and not armed -/
structure Calm (s : NorS) : Prop where
  dn : s.down = false
  ar : s.arm = -1
theorem Calm.steps (h : Calm s) : s.steps = true := by unfold NorS.steps; rw [h.ar]; rfl
theorem Calm.step (h : Calm s) : s.step = s := by
  unfold NorS.step
  rw [if_neg (by rw [h.ar]; decide)]
  have e : max (s.arm - 1) (-1) = s.arm := by rw [h.ar]; decide
  rw [e]
theorem Calm.progs (h : Calm s) (xs : List Int) : s.progs xs = true := by
  rw [NorS.progs_iff xs s (by rw [h.ar]; decide)]
  unfold NorS.doneN; rw [h.ar]; rfl
theorem Calm.prog (h : Calm s) (xs : List Int) : ∀ i, Calm (s.prog i xs) ∧ (s.prog i xs).l = NorS.andL s.l i xs := by
  intro i
  refine ⟨⟨by rw [NorS.prog_down, h.dn, h.progs]; rfl, ?_⟩, ?_⟩
  · have key : ∀ (xs : List Int) (s : NorS) (i : Nat), s.arm = -1 → (s.prog i xs).arm = -1 := by
      intro xs
      induction xs with
      | nil => intro s i h; exact h
      | cons x r ih =>
        intro s i h
        show (if s.steps = true then _ else _ : NorS).arm = -1
        have hs : s.step.arm = -1 := by unfold NorS.step; rw [if_neg (by rw [h]; decide)]; show max (s.arm - 1) (-1) = -1; rw [h]; rfl
        split
        · exact ih _ _ hs
        · exact hs
    exact key xs s i h.ar
  · rw [NorS.prog_l xs s i (by rw [h.ar]; decide)]
    have := (NorS.progs_iff xs s (by rw [h.ar]; decide)).1 (h.progs xs)
    rw [this, List.take_length]
theorem calm_crash (s : NorS) (ks : List Bool) : Calm (s.crash ks) := ⟨rfl, rfl⟩
/-- an erasing -/
theorem calm_er (h : Calm s) (hs : s.Ok) (hd : d.Ok s) {k : Nat} (hk : k < d.many) : d.erE s k = 0 ∧ Calm (d.er s k) ∧ (d.er s k).n = s.n ∧
    (∀ j, (d.er s k).wd j = if (d.first + k) * 64 ≤ j ∧ j < (d.first + k) * 64 + 64 then 4294967295 else s.wd j) := by
  have hn := hd.n
  have hup : s.up ((d.first : Int) + k) 0 0 = 0 := by
    unfold NorS.up NorS.there
    rw [if_neg (by rw [h.dn]; simp), if_pos]
    simp only [Bool.and_eq_true, decide_eq_true_eq]
    omega
  have hE : d.er s k = { s.step with l := NorS.lay s.l (NorS.at_ ((d.first : Int) + k) 0) (List.replicate 64 4294967295) } := by
    unfold er NorS.erase
    rw [if_pos (by omega), if_pos hup, if_pos h.steps]
  have hat : NorS.at_ ((d.first : Int) + k) 0 = (d.first + k) * 64 := by unfold NorS.at_; omega
  have hlen := hs.len
  refine ⟨?_, ?_, ?_, fun j => ?_⟩
  · unfold erE NorS.eraseE
    rw [if_pos (by omega), if_pos hup, if_pos h.steps]
  · rw [hE, h.step]; exact ⟨h.dn, h.ar⟩
  · rw [hE, h.step]
  · have hrep : ∀ i, i < 64 → (List.replicate 64 (4294967295 : Int)).getD i 0 = 4294967295 := fun i hi => by
      rw [List.getD_eq_getElem?_getD, List.getElem?_replicate, if_pos hi]; rfl
    have key := lay_at (List.replicate 64 (4294967295 : Int)) s.l ((d.first + k) * 64) j (by rw [List.length_replicate]; omega)
    rw [List.length_replicate] at key
    unfold NorS.wd
    rw [hE]
    simp only
    rw [hat, key]
    split
    · exact hrep _ (by omega)
    · rfl
/-- a writing that sets no bit -/
theorem calm_wr (h : Calm s) (hs : s.Ok) (hd : d.Ok s) {a : Nat} {l : List Int} (hl : a + l.length ≤ d.many * 64) (hw : ∀ i, i < l.length → wand (l.getD i 0) (s.wd (d.base + a + i)) = l.getD i 0) : d.wrE s a l = 0 ∧ Calm (d.wr s a l) ∧ (d.wr s a l).n = s.n ∧ (d.wr s a l).Ok ∧
    (∀ j, (d.wr s a l).wd j = if d.base + a ≤ j ∧ j < d.base + a + l.length then l.getD (j - (d.base + a)) 0 else s.wd j) := by
  have hn := hd.n
  have hlen := hs.len
  have hb : d.base = d.first * 64 := rfl
  have hmul : (d.first + d.many) * 64 ≤ s.n * 64 := Nat.mul_le_mul_right _ hd.n
  have hE0 : d.rdE s a l.length = 0 := rdE_ok h.dn ⟨by omega, by omega, by omega, by omega⟩
  have hset : d.sets s a l = false := by
    unfold sets
    rw [List.any_eq_false]
    intro i hi
    rw [hw i (List.mem_range.1 hi)]; simp
  have hW : d.wr s a l = s.prog (d.base + a) l := by
    unfold wr
    rw [if_pos hE0]
    show (if d.sets s a l = true then s else _) = _
    rw [hset, if_neg (by simp)]; rfl
  refine ⟨?_, ?_, ?_, ?_, fun j => ?_⟩
  · unfold wrE
    rw [if_pos hE0]
    show (if d.sets s a l = true then (50 : Int) else _) = 0
    rw [hset, if_neg (by simp), if_pos (h.progs l)]
  · rw [hW]; exact (h.prog l _).1
  · rw [hW]; exact (NorS.prog_same l s _).1
  · rw [hW]; exact NorS.Ok.prog' l s _ hs
  · rw [hW]
    show (s.prog (d.base + a) l).l.getD j 0 = _
    rw [(h.prog l _).2, NorS.andL_get _ _ _ _ (by omega)]
    split
    · rename_i hj
      have := hw (j - (d.base + a)) (by omega)
      rw [show d.base + a + (j - (d.base + a)) = j from by omega] at this
      unfold NorS.wd at this
      unfold wand at this ⊢
      rw [Nat.and_comm]; exact this
    · rfl
/-- blank -/
theorem calm_blank (h : Calm s) (hs : s.Ok) (hd : d.Ok s) {a m : Nat} (hl : a + m ≤ d.many * 64) (hw : ∀ i, i < m → s.wd (d.base + a + i) = 4294967295) : d.blank s a m = true := by
  have hE0 : d.rdE s a m = 0 := rdE_ok h.dn ⟨by omega, by omega, by omega, by omega⟩
  unfold blank rd
  rw [if_pos hE0, decide_eq_true hE0, Bool.true_and, List.all_eq_true]
  intro x hx
  have hx : x ∈ d.words s a m := hx
  obtain ⟨i, hi, rfl⟩ := List.getElem_of_mem hx
  have hlw := words_length hs hd (a := a) (m := m) hl
  have := words_get (d := d) (s := s) (a := a) (m := m) (i := i) (by omega)
  rw [List.getD_eq_getElem?_getD, List.getElem?_eq_getElem hi, Option.getD_some] at this
  rw [this, hw i (by omega)]; rfl
/-- behind an erasing: the words twice -/
theorem erases2 {k : Nat} {x : List Int} (h : Calm s) (hs : s.Ok) (hd : d.Ok s) (hk : k < d.many) (h1 : (d.er s k).Ok) (hx : x.length ≤ 64) (ux : U32 x) :
    d.blank (d.er s k) ((64 * k : Nat) : Int) ((64 : Nat) : Int) = true ∧ d.wrE (d.er s k) ((64 * k : Nat) : Int) x = 0 ∧ d.wrE (d.wr (d.er s k) ((64 * k : Nat) : Int) x) ((64 * k : Nat) : Int) x = 0 ∧
    Calm (d.wr (d.wr (d.er s k) ((64 * k : Nat) : Int) x) ((64 * k : Nat) : Int) x) ∧ d.Ok (d.er s k) ∧ d.Ok (d.wr (d.er s k) ((64 * k : Nat) : Int) x) ∧ d.Ok (d.wr (d.wr (d.er s k) ((64 * k : Nat) : Int) x) ((64 * k : Nat) : Int) x) ∧
    (∀ j m, j < m → (d.words (d.wr (d.wr (d.er s k) ((64 * k : Nat) : Int) x) ((64 * k : Nat) : Int) x) 0 m).getD j 0 = if j / 64 = k then (if j % 64 < x.length then x.getD (j % 64) 0 else 4294967295) else (d.words s 0 m).getD j 0) := by
  obtain ⟨-, c1, n1, w1⟩ := calm_er h hs hd hk
  have hb : d.base = d.first * 64 := rfl
  have d1 : d.Ok (d.er s k) := ⟨hd.m, by rw [n1]; exact hd.n⟩
  have e1 : ∀ i, i < 64 → (d.er s k).wd (d.base + 64 * k + i) = 4294967295 := fun i hi => by rw [w1, if_pos (by omega)]
  have f1 := calm_wr c1 h1 d1 (a := 64 * k) (l := x) (by omega) (fun i hi => by rw [e1 i (by omega)]; exact wand_full (ux.get i).1 (ux.get i).2)
  obtain ⟨g1, c2, n2, ok2, w2⟩ := f1
  have d2 : d.Ok (d.wr (d.er s k) ((64 * k : Nat) : Int) x) := ⟨hd.m, by rw [n2]; exact d1.n⟩
  have e2 : ∀ i, i < x.length → (d.wr (d.er s k) ((64 * k : Nat) : Int) x).wd (d.base + 64 * k + i) = x.getD i 0 := fun i hi => by
    rw [w2, if_pos (by omega), show d.base + 64 * k + i - (d.base + 64 * k) = i from by omega]
  have f2 := calm_wr c2 ok2 d2 (a := 64 * k) (l := x) (by omega) (fun i hi => by rw [e2 i hi]; exact wand_self (ux.get i).1)
  obtain ⟨g2, c3, n3, ok3, w3⟩ := f2
  refine ⟨calm_blank c1 h1 d1 (by omega) e1, g1, g2, c3, d1, d2, ⟨hd.m, by rw [n3]; exact d2.n⟩, fun j m hj => ?_⟩
  rw [words_get hj, words_get hj, w3]
  by_cases q : j / 64 = k
  · rw [if_pos q]
    by_cases r : j % 64 < x.length
    · rw [if_pos r, if_pos (by omega), show d.base + 0 + j - (d.base + 64 * k) = j % 64 from by omega]
    · rw [if_neg r, if_neg (by omega), w2, if_neg (by omega), w1, if_pos (by omega)]
  · rw [if_neg q, if_neg (by omega), w2, if_neg (by omega), w1, if_neg (by omega)]
end DrvS
end Go.Proofs.Ytiapoalkkhpmlaa

/-
  Plain: a writing that may be cut short.
-/
namespace Go.Proofs.Ytiapoalkkhpmlaa
namespace DrvS
variable {d : DrvS} {s : NorS}
theorem up_rdE (hdn : s.down = false) {a m : Nat} (hx : a + m ≤ d.many * 64) : d.rdE s a m = 0 := rdE_ok hdn ⟨by omega, by omega, by omega, by omega⟩
theorem wr_set (hdn : s.down = false) {k : Nat} {x : List Int} (hx : k + x.length ≤ d.many * 64) (hset : d.sets s k x = true) : d.wrE s k x = 50 ∧ d.wr s k x = s := by
  have h0 := up_rdE (d := d) hdn hx
  refine ⟨?_, ?_⟩
  · unfold wrE
    rw [if_pos h0]
    show (if d.sets s k x = true then (50 : Int) else _) = 50
    rw [if_pos hset]
  · unfold wr
    rw [if_pos h0]
    show (if d.sets s k x = true then s else _) = s
    rw [if_pos hset]
theorem wr_go (hdn : s.down = false) (hs : s.Ok) (hd : d.Ok s) {k : Nat} {x : List Int} (hx : k + x.length ≤ d.many * 64) (hset : d.sets s k x = false) :
    d.wrE s k x = (if s.doneN x.length = x.length then 0 else 40) ∧ (d.wr s k x).down = !(decide (s.doneN x.length = x.length)) ∧ (d.wr s k x).half = s.half ∧ (d.wr s k x).n = s.n ∧
    (∀ j, (d.wr s k x).wd j = if d.base + k ≤ j ∧ j < d.base + k + s.doneN x.length then x.getD (j - (d.base + k)) 0 else s.wd j) := by
  have h0 := up_rdE (d := d) hdn hx
  have hn := hd.n
  have hlen := hs.len
  have hb : d.base = d.first * 64 := rfl
  have hmul : (d.first + d.many) * 64 ≤ s.n * 64 := Nat.mul_le_mul_right _ hd.n
  have hW : d.wr s k x = s.prog (d.base + k) x := by
    unfold wr
    rw [if_pos h0]
    show (if d.sets s k x = true then s else _) = _
    rw [hset, if_neg (by simp)]; rfl
  have hE : d.wrE s k x = if s.progs x = true then 0 else 40 := by
    unfold wrE
    rw [if_pos h0]
    show (if d.sets s k x = true then (50 : Int) else _) = _
    rw [hset, if_neg (by simp)]
  have hp := NorS.progs_iff x s hs.a0
  have hle := NorS.doneN_le s x.length
  rw [hW, hE]
  refine ⟨?_, ?_, (NorS.prog_same x s _).2.2, (NorS.prog_same x s _).1, fun j => ?_⟩
  · by_cases e : s.doneN x.length = x.length
    · rw [if_pos e, if_pos (hp.2 e)]
    · rw [if_neg e, if_neg (fun h => e (hp.1 h))]
  · rw [NorS.prog_down, hdn, Bool.false_or]
    by_cases e : s.doneN x.length = x.length
    · rw [decide_eq_true e, hp.2 e]
    · rw [decide_eq_false e]
      have : s.progs x = false := by
        rcases Bool.eq_false_or_eq_true (s.progs x) with h | h
        · exact absurd (hp.1 h) e
        · exact h
      rw [this]
  · show (s.prog (d.base + k) x).l.getD j 0 = _
    have hl : (x.take (s.doneN x.length)).length = s.doneN x.length := by rw [List.length_take]; omega
    rw [NorS.prog_l x s _ hs.a0, NorS.andL_get _ _ _ _ (by omega), hl]
    split
    · rename_i hj
      have h2 : (List.range x.length).any (fun i => !(wand (x.getD i 0) (s.wd (d.base + k + i)) == x.getD i 0)) = false := hset
      rw [List.any_eq_false] at h2
      have h3 := h2 (j - (d.base + k)) (List.mem_range.2 (by omega))
      have h4 : wand (x.getD (j - (d.base + k)) 0) (s.wd (d.base + k + (j - (d.base + k)))) = x.getD (j - (d.base + k)) 0 := by simpa using h3
      rw [show d.base + k + (j - (d.base + k)) = j from by omega] at h4
      have h5 : (x.take (s.doneN x.length)).getD (j - (d.base + k)) 0 = x.getD (j - (d.base + k)) 0 := by
        rw [List.getD_eq_getElem?_getD, List.getElem?_take_of_lt (by omega), ← List.getD_eq_getElem?_getD]
      rw [h5]
      unfold NorS.wd at h4
      unfold wand at h4 ⊢
      rw [Nat.and_comm]; exact h4
    · rfl
theorem crash_nil_wd (h : s.half = -1) (j : Nat) : (s.crash []).wd j = s.wd j := by
  unfold NorS.wd NorS.crash
  simp only
  rw [if_neg (by rw [h]; decide)]
theorem sets_l {s' : NorS} (h : s'.l = s.l) (k : Nat) (x : List Int) : d.sets s' k x = d.sets s k x := by
  unfold sets NorS.wd; rw [h]
end DrvS
end Go.Proofs.Ytiapoalkkhpmlaa

/-
  Plain: what a tally does, over a drive of two sectors.
-/
namespace Go.Proofs.Ytiapoalkkhpmlaa
/-- how many bits of a word are 0 -/
def zer (x : Int) : Nat := Lib.popAux (4294967295 - x).toNat (4294967295 - x).toNat
/-- how many bits of the first j words behind the head are 0 -/
def zsum (f : Nat → Int) (o : Nat) : Nat → Nat
  | 0 => 0
  | j + 1 => zsum f o j + zer (f (o + 2 + j))
/-- does a sector count? -/
def cntOk (f : Nat → Int) (o : Nat) : Bool := decide (f o ≤ 2147483648 ∧ f (o + 1) = 4294967295 - f o)
/-- what it counts -/
def cntN (f : Nat → Int) (o : Nat) : Int := f o + zsum f o 62
/-- which sector is the tally's, and its count -/
def look (f : Nat → Int) : Int × Int :=
  if cntOk f 0 = true then (if cntOk f 64 = true ∧ cntN f 0 < cntN f 64 then (1, cntN f 64) else (0, cntN f 0))
  else if cntOk f 64 = true then (1, cntN f 64) else (-1, 0)
/-- the first word that has a bit; 0: there is none -/
def roomAt (f : Nat → Int) (o : Nat) : Nat → Nat → Nat
  | 0, _ => 0
  | m + 1, i => if f (o + i) = 0 then roomAt f o m (i + 1) else i
def room (f : Nat → Int) (o : Nat) : Nat := roomAt f o 62 2
/-- a word without its highest bit -/
def clr (x : Int) : Int := x - ((2 ^ Nat.log2 x.toNat : Nat) : Int)

theorem pop_add (k : Nat) : ∀ (n y : Nat), k < n → y / 2 ^ k % 2 = 0 → Lib.popAux n (y + 2 ^ k) = Lib.popAux n y + 1 := by
  induction k with
  | zero =>
    intro n y hn hy
    obtain ⟨n, rfl⟩ : ∃ m, n = m + 1 := ⟨n - 1, by omega⟩
    simp only [Lib.popAux, Nat.pow_zero] at hy ⊢
    rw [show (y + 1) / 2 = y / 2 from by omega]
    omega
  | succ k ih =>
    intro n y hn hy
    obtain ⟨n, rfl⟩ : ∃ m, n = m + 1 := ⟨n - 1, by omega⟩
    have e : 2 ^ (k + 1) = 2 * 2 ^ k := by rw [Nat.pow_succ]; omega
    have h1 : (y + 2 ^ (k + 1)) / 2 = y / 2 + 2 ^ k := by omega
    have h2 : (y + 2 ^ (k + 1)) % 2 = y % 2 := by omega
    have h3 : y / 2 / 2 ^ k % 2 = 0 := by rw [Nat.div_div_eq_div_mul, ← e]; exact hy
    simp only [Lib.popAux]
    rw [h1, h2, ih n (y / 2) (by omega) h3]
    omega
theorem pop_hi (m : Nat) : ∀ (n x : Nat), x < 2 ^ n → Lib.popAux (n + m) x = Lib.popAux n x := by
  intro n
  induction n with
  | zero =>
    intro x hx
    have hx : x = 0 := by simpa using hx
    subst hx
    rw [Nat.zero_add]
    have z : ∀ m, Lib.popAux m 0 = 0 := fun m => by
      induction m with
      | zero => rfl
      | succ m ih => simp only [Lib.popAux]; rw [ih]
    rw [z]; rfl
  | succ n ih =>
    intro x hx
    rw [show n + 1 + m = (n + m) + 1 from by omega]
    simp only [Lib.popAux]
    rw [ih (x / 2) (by rw [Nat.pow_succ] at hx; omega)]
theorem zer_eq {x : Int} (h1 : 0 ≤ x) : zer x = Lib.onesCount (4294967295 - x).toNat := by
  unfold zer Lib.onesCount
  have hy : (4294967295 - x).toNat < 2 ^ 32 := by omega
  generalize (4294967295 - x).toNat = y at hy
  rw [show (64 : Nat) = 32 + 32 from rfl, pop_hi 32 32 y hy]
  rcases Nat.lt_or_ge y 32 with h | h
  · have := pop_hi (32 - y) y y Nat.lt_two_pow_self
    rw [show y + (32 - y) = 32 from by omega] at this
    exact this.symm
  · have := pop_hi (y - 32) 32 y hy
    rwa [show 32 + (y - 32) = y from by omega] at this
theorem clr_facts {x : Int} (h1 : 0 < x) (h2 : x < 4294967296) : 0 ≤ clr x ∧ clr x < x ∧ zer (clr x) = zer x + 1 := by
  obtain ⟨n, rfl⟩ := Int.eq_ofNat_of_zero_le (a := x) (by omega)
  have hn : n ≠ 0 := by omega
  have hc0 : 0 ≤ clr (n : Int) := by
    have := Nat.log2_self_le hn
    unfold clr; rw [Int.toNat_natCast]; omega
  rw [zer_eq hc0, zer_eq (by omega)]
  clear hc0
  unfold clr
  rw [Int.toNat_natCast]
  have hl := Nat.log2_self_le hn
  have hu := Nat.lt_log2_self (n := n)
  have hk : n.log2 < 32 := (Nat.log2_lt hn).2 (by omega)
  generalize n.log2 = k at hl hu hk
  have hp : 0 < 2 ^ k := Nat.pow_pos (by omega)
  refine ⟨by omega, by omega, ?_⟩
  have e : (4294967295 - ((n : Int) - ((2 ^ k : Nat) : Int))).toNat = (4294967295 - (n : Int)).toNat + 2 ^ k := by omega
  rw [e]
  unfold Lib.onesCount
  refine pop_add k 64 _ (by omega) ?_
  have e2 : (4294967295 - (n : Int)).toNat = 4294967295 - n := by omega
  rw [e2]
  have hM : 2 ^ (31 - k) * 2 ^ k = 2147483648 := by rw [← Nat.pow_add, show 31 - k + k = 31 from by omega]
  have hu' : n < 2 * 2 ^ k := by rw [Nat.pow_succ] at hu; omega
  have hMp : 0 < 2 ^ (31 - k) := Nat.pow_pos (by omega)
  generalize 2 ^ (31 - k) = M at hM hMp
  generalize 2 ^ k = B at hM hl hu' hp
  obtain ⟨M, rfl⟩ : ∃ m, M = m + 1 := ⟨M - 1, by omega⟩
  have e3 : 4294967295 - n = B * (2 * M) + (2 * B - 1 - n) := by
    have : (M + 1) * B = M * B + B := by rw [Nat.add_mul, Nat.one_mul]
    have h5 : B * (2 * M) = 2 * (M * B) := by rw [Nat.mul_comm B, Nat.mul_assoc]
    rw [h5]
    omega
  rw [e3, Nat.mul_add_div hp, Nat.div_eq_of_lt (by omega)]
  omega
theorem pop_le (n : Nat) : ∀ x, Lib.popAux n x ≤ n := by
  induction n with
  | zero => intro x; simp [Lib.popAux]
  | succ n ih => intro x; have := ih (x / 2); simp only [Lib.popAux]; omega
theorem zer_le {x : Int} (h1 : 0 ≤ x) : zer x ≤ 32 := by
  rw [zer_eq h1]
  unfold Lib.onesCount
  rw [show (64 : Nat) = 32 + 32 from rfl, pop_hi 32 32 _ (by omega)]
  exact pop_le 32 _
theorem zer_zero : zer 0 = 32 := by rw [zer_eq (by decide)]; decide +kernel
theorem zer_ones : zer 4294967295 = 0 := by rw [zer_eq (by decide)]; decide +kernel
/-- all bits are 0: the word is -/
theorem pop_full (n : Nat) : ∀ x, x < 2 ^ n → Lib.popAux n x = n → x = 2 ^ n - 1 := by
  induction n with
  | zero => intro x hx _; simpa using hx
  | succ n ih =>
    intro x hx h
    simp only [Lib.popAux] at h
    have h1 := pop_le n (x / 2)
    have h2 := ih (x / 2) (by rw [Nat.pow_succ] at hx; omega) (by omega)
    rw [Nat.pow_succ] at hx ⊢
    have hp : 0 < 2 ^ n := Nat.pow_pos (by omega)
    omega
theorem zer_full {x : Int} (h1 : 0 ≤ x) (h2 : x < 4294967296) (h : zer x = 32) : x = 0 := by
  rw [zer_eq h1] at h
  unfold Lib.onesCount at h
  rw [show (64 : Nat) = 32 + 32 from rfl, pop_hi 32 32 _ (by omega)] at h
  have := pop_full 32 _ (by omega) h
  omega
section
variable {f g : Nat → Int} {o : Nat}
theorem zsum_congr : ∀ j, (∀ i, i < j → g (o + 2 + i) = f (o + 2 + i)) → zsum g o j = zsum f o j
  | 0, _ => rfl
  | j + 1, h => by
    simp only [zsum]
    rw [zsum_congr j (fun i hi => h i (by omega)), h j (by omega)]
theorem zsum_ones : ∀ j, (∀ i, i < j → f (o + 2 + i) = 4294967295) → zsum f o j = 0
  | 0, _ => rfl
  | j + 1, h => by
    simp only [zsum]
    rw [zsum_ones j (fun i hi => h i (by omega)), h j (by omega), zer_ones]
theorem zsum_le : ∀ j, (∀ i, i < j → 0 ≤ f (o + 2 + i)) → zsum f o j ≤ 32 * j
  | 0, _ => by simp [zsum]
  | j + 1, h => by
    have := zsum_le j (fun i hi => h i (by omega))
    have := zer_le (h j (by omega))
    simp only [zsum]
    omega
theorem zsum_full (h : ∀ i, i < 62 → 0 ≤ f (o + 2 + i) ∧ f (o + 2 + i) < 4294967296) : ∀ j, j ≤ 62 → zsum f o j = 32 * j → ∀ i, i < j → f (o + 2 + i) = 0 := by
  intro j
  induction j with
  | zero => intro _ _ i hi; exact absurd hi (Nat.not_lt_zero _)
  | succ j ih =>
    intro hj hz i hi
    have h1 := zsum_le (f := f) (o := o) j (fun i hi => (h i (by omega)).1)
    have h2 := zer_le (h j (by omega)).1
    simp only [zsum] at hz
    by_cases e : i = j
    · rw [e]
      exact zer_full (h j (by omega)).1 (h j (by omega)).2 (by omega)
    · exact ih (by omega) (by omega) i (by omega)
theorem zsum_zero : ∀ j, (∀ i, i < j → f (o + 2 + i) = 0) → zsum f o j = 32 * j
  | 0, _ => rfl
  | j + 1, h => by
    simp only [zsum]
    rw [zsum_zero j (fun i hi => h i (by omega)), h j (by omega), zer_zero]
    omega
/-- one word has a bit less -/
theorem zsum_clr {k : Nat} (hk : 0 < f (o + 2 + k) ∧ f (o + 2 + k) < 4294967296) (hg : ∀ i, g (o + 2 + i) = if i = k then clr (f (o + 2 + k)) else f (o + 2 + i)) : ∀ j, zsum g o j = zsum f o j + if k < j then 1 else 0
  | 0 => by simp [zsum]
  | j + 1 => by
    simp only [zsum]
    rw [zsum_clr hk hg j, hg j]
    by_cases e : j = k
    · subst e
      rw [if_pos rfl, (clr_facts hk.1 hk.2).2.2, if_neg (by omega), if_pos (by omega)]
      omega
    · rw [if_neg e]
      by_cases e2 : k < j
      · rw [if_pos e2, if_pos (by omega)]; omega
      · rw [if_neg e2, if_neg (by omega)]; omega
/-- words that are of more ones have no more zeros -/
theorem zsum_less : ∀ j, (∀ i, i < j → g (o + 2 + i) = f (o + 2 + i) ∨ g (o + 2 + i) = 4294967295) → zsum g o j ≤ zsum f o j
  | 0, _ => Nat.le_refl _
  | j + 1, h => by
    have h1 := zsum_less j (fun i hi => h i (by omega))
    simp only [zsum]
    rcases h j (by omega) with e | e
    · rw [e]; omega
    · rw [e, zer_ones]; omega
theorem roomAt_spec : ∀ m i, 1 ≤ i → (roomAt f o m i = 0 ∧ ∀ k, i ≤ k → k < i + m → f (o + k) = 0) ∨ (i ≤ roomAt f o m i ∧ roomAt f o m i < i + m ∧ f (o + roomAt f o m i) ≠ 0 ∧ ∀ k, i ≤ k → k < roomAt f o m i → f (o + k) = 0)
  | 0, i, _ => .inl ⟨rfl, fun k h1 h2 => by omega⟩
  | m + 1, i, hi => by
    simp only [roomAt]
    by_cases e : f (o + i) = 0
    · rw [if_pos e]
      rcases roomAt_spec m (i + 1) (by omega) with ⟨h1, h2⟩ | ⟨h1, h2, h3, h4⟩
      · refine .inl ⟨h1, fun k hk1 hk2 => ?_⟩
        by_cases e2 : k = i
        · subst e2; exact e
        · exact h2 k (by omega) (by omega)
      · refine .inr ⟨by omega, by omega, h3, fun k hk1 hk2 => ?_⟩
        by_cases e2 : k = i
        · subst e2; exact e
        · exact h4 k (by omega) (by omega)
    · rw [if_neg e]
      exact .inr ⟨Nat.le_refl _, by omega, e, fun k h1 h2 => by omega⟩
theorem room_spec (f : Nat → Int) (o : Nat) : (room f o = 0 ∧ ∀ k, 2 ≤ k → k < 64 → f (o + k) = 0) ∨ (2 ≤ room f o ∧ room f o < 64 ∧ f (o + room f o) ≠ 0 ∧ ∀ k, 2 ≤ k → k < room f o → f (o + k) = 0) :=
  roomAt_spec 62 2 (by omega)
theorem cntN_congr (h : ∀ i, i < 64 → g (o + i) = f (o + i)) : cntN g o = cntN f o := by
  unfold cntN
  have h0 : g o = f o := h 0 (by omega)
  have h1 : zsum g o 62 = zsum f o 62 := zsum_congr 62 (fun i hi => by have := h (2 + i) (by omega); rwa [← Nat.add_assoc] at this)
  rw [h0, h1]
theorem cntOk_congr (h : ∀ i, i < 64 → g (o + i) = f (o + i)) : cntOk g o = cntOk f o := by
  unfold cntOk
  have h0 : g o = f o := h 0 (by omega)
  rw [h0, h 1 (by omega)]
theorem look_congr (h : ∀ i, i < 128 → g i = f i) : look g = look f := by
  have h0 : ∀ i, i < 64 → g (0 + i) = f (0 + i) := fun i hi => h _ (by omega)
  have h1 : ∀ i, i < 64 → g (64 + i) = f (64 + i) := fun i hi => h _ (by omega)
  unfold look
  rw [cntN_congr h0, cntN_congr h1, cntOk_congr h0, cntOk_congr h1]
theorem room_congr (h : ∀ i, i < 64 → g (o + i) = f (o + i)) : room g o = room f o := by
  have : ∀ m i, i + m ≤ 64 → roomAt g o m i = roomAt f o m i := fun m => by
    induction m with
    | zero => intro i _; rfl
    | succ m ih => intro i hi; simp only [roomAt]; rw [h i (by omega), ih (i + 1) (by omega)]
  exact this 62 2 (by omega)
end
/-- The word at which the tally's sector begins. -/
def offOf (on : Int) : Nat := if on = 1 then 64 else 0
theorem look_cases (f : Nat → Int) : ((look f).1 = -1 ∧ (look f).2 = 0 ∧ cntOk f 0 = false ∧ cntOk f 64 = false) ∨
    ((look f).1 = 0 ∧ cntOk f 0 = true ∧ (look f).2 = cntN f 0 ∧ (cntOk f 64 = true → cntN f 64 ≤ cntN f 0)) ∨
    ((look f).1 = 1 ∧ cntOk f 64 = true ∧ (look f).2 = cntN f 64 ∧ (cntOk f 0 = true → cntN f 0 < cntN f 64)) := by
  unfold look
  cases h0 : cntOk f 0 with
  | true =>
    rw [if_pos rfl]
    by_cases h : cntOk f 64 = true ∧ cntN f 0 < cntN f 64
    · rw [if_pos h]; exact .inr (.inr ⟨rfl, h.1, rfl, fun _ => h.2⟩)
    · rw [if_neg h]; exact .inr (.inl ⟨rfl, rfl, rfl, fun h1 => Int.not_lt.1 (fun h2 => h ⟨h1, h2⟩)⟩)
  | false =>
    rw [if_neg (by simp)]
    cases h1 : cntOk f 64 with
    | true => rw [if_pos rfl]; exact .inr (.inr ⟨rfl, rfl, rfl, fun h => by cases h⟩)
    | false => rw [if_neg (by simp)]; exact .inl ⟨rfl, rfl, rfl, rfl⟩
end Go.Proofs.Ytiapoalkkhpmlaa

/-
  Plain: a step of a tally.
-/
namespace Go.Proofs.Ytiapoalkkhpmlaa
namespace DrvS
variable {d : DrvS} {s : NorS}
/-- the words of a drive -/
def fn (d : DrvS) (s : NorS) : Nat → Int := fun i => s.wd (d.base + i)
/-- the sector that is begun next -/
def nextS (f : Nat → Int) : Nat := if (look f).1 = 0 then 1 else 0
/-- a step: the flash then, what it tells -/
def stp (d : DrvS) (s : NorS) : NorS × Int :=
  if 2147483648 ≤ (look (d.fn s)).2 then (s, 5)
  else if 0 ≤ (look (d.fn s)).1 ∧ 0 < room (d.fn s) (offOf (look (d.fn s)).1) then
    (d.wr s ((offOf (look (d.fn s)).1 + room (d.fn s) (offOf (look (d.fn s)).1) : Nat) : Int) [clr (d.fn s (offOf (look (d.fn s)).1 + room (d.fn s) (offOf (look (d.fn s)).1)))],
     d.wrE s ((offOf (look (d.fn s)).1 + room (d.fn s) (offOf (look (d.fn s)).1) : Nat) : Int) [clr (d.fn s (offOf (look (d.fn s)).1 + room (d.fn s) (offOf (look (d.fn s)).1)))])
  else if d.erE s (nextS (d.fn s)) = 0 then
    (d.wr (d.er s (nextS (d.fn s))) ((64 * nextS (d.fn s) : Nat) : Int) [(look (d.fn s)).2 + 1, 4294967294 - (look (d.fn s)).2],
     d.wrE (d.er s (nextS (d.fn s))) ((64 * nextS (d.fn s) : Nat) : Int) [(look (d.fn s)).2 + 1, 4294967294 - (look (d.fn s)).2])
  else (d.er s (nextS (d.fn s)), d.erE s (nextS (d.fn s)))
theorem nextS_lt (f : Nat → Int) : nextS f < 2 := by unfold nextS; split <;> omega
theorem fn_u32 (hs : s.Ok) (i : Nat) : 0 ≤ d.fn s i ∧ d.fn s i < 4294967296 := hs.wd _
theorem cntN_lo (hs : s.Ok) (o : Nat) : 0 ≤ cntN (d.fn s) o := by
  have := (fn_u32 (d := d) hs o).1
  unfold cntN; omega
theorem look_lo (hs : s.Ok) : -1 ≤ (look (d.fn s)).1 ∧ (look (d.fn s)).1 ≤ 1 ∧ 0 ≤ (look (d.fn s)).2 ∧ (look (d.fn s)).2 ≤ 2147483648 + 1984 := by
  have h0 := cntN_lo (d := d) hs 0
  have h1 := cntN_lo (d := d) hs 64
  have z0 := zsum_le (f := d.fn s) (o := 0) 62 (fun i _ => (fn_u32 hs _).1)
  have z1 := zsum_le (f := d.fn s) (o := 64) 62 (fun i _ => (fn_u32 hs _).1)
  rcases look_cases (d.fn s) with ⟨a, b, c, e⟩ | ⟨a, c, b, e⟩ | ⟨a, c, b, e⟩
  · rw [a, b]; omega
  · rw [a, b]
    unfold cntOk at c
    have := of_decide_eq_true c
    unfold cntN at h0 ⊢
    omega
  · rw [a, b]
    unfold cntOk at c
    have := of_decide_eq_true c
    unfold cntN at h1 ⊢
    omega
/-- clearing one bit sets none -/
theorem wand_clr {x : Int} (h1 : 0 < x) (h2 : x < 4294967296) : wand (clr x) x = clr x := by
  obtain ⟨n, rfl⟩ := Int.eq_ofNat_of_zero_le (a := x) (by omega)
  have hn : n ≠ 0 := by omega
  have hl := Nat.log2_self_le hn
  have hu := Nat.lt_log2_self (n := n)
  unfold wand clr
  rw [Int.toNat_natCast]
  have e : ((n : Int) - ((2 ^ n.log2 : Nat) : Int)).toNat = n - 2 ^ n.log2 := by omega
  rw [e]
  generalize n.log2 = k at hl hu
  obtain ⟨r, rfl⟩ : ∃ r, n = 2 ^ k + r := ⟨n - 2 ^ k, by omega⟩
  have hr : r < 2 ^ k := by rw [Nat.pow_succ] at hu; omega
  have e3 : 2 ^ k + r = 2 ^ k ||| r := by have := Nat.two_pow_add_eq_or_of_lt hr 1; rwa [Nat.mul_one] at this
  rw [Nat.add_sub_cancel_left, e3, Nat.and_or_distrib_left, Nat.and_self]
  have z : r &&& 2 ^ k = 0 := by
    apply Nat.eq_of_testBit_eq
    intro i
    rw [Nat.testBit_and, Nat.testBit_two_pow, Nat.zero_testBit]
    by_cases e : k = i
    · subst e; rw [Nat.testBit_lt_two_pow hr]; rfl
    · simp [e]
  rw [z, Nat.zero_or, ← e3]
  omega
end DrvS
end Go.Proofs.Ytiapoalkkhpmlaa

/-
  Plain: what an erasing, and a writing, that are OK leave.
-/
namespace Go.Proofs.Ytiapoalkkhpmlaa
/-- m words from o on are of ones -/
def onesTo (f : Nat → Int) (o m : Nat) : Nat → Int := fun k => if o ≤ k ∧ k < o + m then 4294967295 else f k
/-- words are laid from place k on -/
def laidF (f : Nat → Int) (k : Nat) (l : List Int) : Nat → Int := fun j => if k ≤ j ∧ j < k + l.length then l.getD (j - k) 0 else f j
namespace DrvS
variable {d : DrvS} {s : NorS}
theorem er_ok (hs : s.Ok) (hd : d.Ok s) {i : Nat} (h : d.erE s i = 0) : i < d.many ∧ s.down = false ∧ (d.er s i).down = false ∧ (d.er s i).n = s.n ∧ (d.er s i).half = s.half ∧ (d.er s i).arm = s.step.arm ∧
    ∀ k, d.fn (d.er s i) k = onesTo (d.fn s) (64 * i) 64 k := by
  have hn := hd.n
  have hm : 0 ≤ (i : Int) ∧ (i : Int) < d.many := by
    by_cases hm : 0 ≤ (i : Int) ∧ (i : Int) < d.many
    · exact hm
    · unfold erE at h; rw [if_neg hm] at h; cases h
  have h1 : s.eraseE (d.first + i) = 0 := by unfold erE at h; rwa [if_pos hm] at h
  have hup : s.up ((d.first : Int) + i) 0 0 = 0 := by
    by_cases hu : s.up ((d.first : Int) + i) 0 0 = 0
    · exact hu
    · unfold NorS.eraseE at h1; rw [if_neg hu] at h1; exact absurd h1 hu
  have hst : s.steps = true := by
    by_cases hst : s.steps = true
    · exact hst
    · unfold NorS.eraseE at h1; rw [if_pos hup, if_neg hst] at h1; cases h1
  have hdn := (NorS.up_zero hup).1
  have hE : d.er s i = { s.step with l := NorS.lay s.l (NorS.at_ ((d.first : Int) + i) 0) (List.replicate 64 4294967295) } := by
    unfold er NorS.erase
    rw [if_pos hm, if_pos hup, if_pos hst]
  have hat : NorS.at_ ((d.first : Int) + i) 0 = (d.first + i) * 64 := by unfold NorS.at_; omega
  have hlen := hs.len
  refine ⟨by omega, hdn, ?_, ?_, ?_, by rw [hE], fun k => ?_⟩
  · rw [hE]; show s.step.down = false; rw [NorS.step_down, hdn, hst]; rfl
  · rw [hE]; exact NorS.step_n s
  · rw [hE]; exact NorS.step_half s
  · have hrep : ∀ i, i < 64 → (List.replicate 64 (4294967295 : Int)).getD i 0 = 4294967295 := fun i hi => by
      rw [List.getD_eq_getElem?_getD, List.getElem?_replicate, if_pos hi]; rfl
    have key := lay_at (List.replicate 64 (4294967295 : Int)) s.l ((d.first + i) * 64) (d.base + k) (by rw [List.length_replicate]; omega)
    rw [List.length_replicate] at key
    unfold fn onesTo NorS.wd
    rw [hE]
    simp only
    rw [hat, key]
    have hb : d.base = d.first * 64 := rfl
    by_cases hk : 64 * i ≤ k ∧ k < 64 * i + 64
    · rw [if_pos hk, if_pos (by omega)]; exact hrep _ (by omega)
    · rw [if_neg hk, if_neg (by omega)]
theorem wr_ok (hs : s.Ok) (hd : d.Ok s) {b : Nat} {l : List Int} (h : d.wrE s b l = 0) : b + l.length ≤ d.many * 64 ∧ s.down = false ∧ (d.wr s b l).down = false ∧ (d.wr s b l).n = s.n ∧ (d.wr s b l).half = s.half ∧
    ∀ k, d.fn (d.wr s b l) k = laidF (d.fn s) b l k := by
  have h0 : d.rdE s b l.length = 0 := by
    by_cases h0 : d.rdE s b l.length = 0
    · exact h0
    · unfold wrE at h; rw [if_neg h0] at h; exact absurd h h0
  obtain ⟨hdn, h1, h2, h3, h4⟩ := rdE_zero h0
  have hset : d.sets s b l = false := by
    cases hset : d.sets s b l with
    | false => rfl
    | true =>
      unfold wrE at h
      rw [if_pos h0] at h
      have : (if d.sets s b l = true then (50 : Int) else _) = 0 := h
      rw [if_pos hset] at this; cases this
  obtain ⟨g1, g2, g3, g4, g5⟩ := wr_go hdn hs hd (k := b) (x := l) (by omega) hset
  have hdone : s.doneN l.length = l.length := by
    by_cases e : s.doneN l.length = l.length
    · exact e
    · rw [h, if_neg e] at g1; cases g1
  refine ⟨by omega, hdn, by rw [g2, hdone]; simp, g4, g3, fun k => ?_⟩
  unfold fn laidF
  rw [g5, hdone]
  have hb : d.base = d.first * 64 := rfl
  by_cases hk : b ≤ k ∧ k < b + l.length
  · rw [if_pos hk, if_pos (by omega), show d.base + k - (d.base + b) = k - b from by omega]
  · rw [if_neg hk, if_neg (by omega)]
end DrvS
theorem onesTo_next (f : Nat → Int) (o m k : Nat) : (if k = o + m then 4294967295 else onesTo f o m k) = onesTo f o (m + 1) k := by
  unfold onesTo
  by_cases e : k = o + m
  · rw [if_pos e, if_pos (by omega)]
  · rw [if_neg e]
    by_cases h : o ≤ k ∧ k < o + m
    · rw [if_pos h, if_pos (by omega)]
    · rw [if_neg h, if_neg (by omega)]
theorem laidF_congr {f g : Nat → Int} {n k : Nat} {l : List Int} (h : ∀ i, i < n → g i = f i) : ∀ i, i < n → laidF g k l i = laidF f k l i := fun i hi => by
  unfold laidF; rw [h i hi]
theorem onesTo_congr {f g : Nat → Int} {n o m : Nat} (h : ∀ i, i < n → g i = f i) : ∀ i, i < n → onesTo g o m i = onesTo f o m i := fun i hi => by
  unfold onesTo; rw [h i hi]
end Go.Proofs.Ytiapoalkkhpmlaa

/-
  Plain: steps of a tally on a flash that is up, and not armed.
-/
namespace Go.Proofs.Ytiapoalkkhpmlaa
theorem NorS.Ok.withL {s : NorS} (h : s.Ok) {l : List Int} (hl : l.length = 64 * s.n) (hu : U32 l) : ({ s with l := l } : NorS).Ok :=
  ⟨hl, h.n1, h.n2, h.g0, h.g1, h.a0, h.a1, h.h0, h.h1, hu⟩
theorem NorS.Ok.withHalf {s : NorS} (h : s.Ok) {x : Int} (h0 : -1 ≤ x) (h1 : x < s.n) : ({ s with half := x } : NorS).Ok :=
  ⟨h.len, h.n1, h.n2, h.g0, h.g1, h.a0, h.a1, h0, h1, h.u⟩
theorem NorS.Ok.erase' {s : NorS} (h : s.Ok) (sec : Int) : (s.erase sec).Ok := by
  have hl : (NorS.lay s.l (NorS.at_ sec 0) (List.replicate 64 4294967295)).length = 64 * s.step.n := by rw [NorS.lay_length, NorS.step_n]; exact h.len
  have hu := NorS.lay_u32 (List.replicate 64 4294967295) (fun x hx => by rw [List.eq_of_mem_replicate hx]; omega) s.l (NorS.at_ sec 0) h.u
  unfold NorS.erase
  generalize NorS.lay s.l (NorS.at_ sec 0) (List.replicate 64 4294967295) = l at hl hu
  by_cases hup : s.up sec 0 0 = 0
  · rw [if_pos hup]
    obtain ⟨h1, h2, h3, h4, h5⟩ := NorS.up_zero hup
    by_cases hs : s.steps = true
    · rw [if_pos hs]; exact h.step.withL hl hu
    · rw [if_neg hs]; exact h.step.withHalf (by omega) (by rw [NorS.step_n]; exact h3)
  · rw [if_neg hup]; exact h
namespace DrvS
variable {d : DrvS} {s : NorS}
theorem er_Ok (h : s.Ok) (sec : Int) : (d.er s sec).Ok := by
  unfold er; split
  · exact h.erase' _
  · exact h
theorem wr_Ok (h : s.Ok) (a : Int) (l : List Int) : (d.wr s a l).Ok := by
  unfold wr
  split
  · split
    · exact h
    · exact NorS.Ok.prog' l s _ h
  · exact h
theorem stp_Ok (h : s.Ok) : (d.stp s).1.Ok := by
  unfold stp
  split
  · exact h
  · split
    · exact wr_Ok h _ _
    · split
      · exact wr_Ok (er_Ok h _) _ _
      · exact er_Ok h _
theorem wrn (d : DrvS) (s : NorS) (a : Int) (l : List Int) : (d.wr s a l).n = s.n := by
  unfold wr
  split
  · split
    · rfl
    · exact (NorS.prog_same l s _).1
  · rfl
theorem ern (d : DrvS) (s : NorS) (k : Int) : (d.er s k).n = s.n := by
  unfold er NorS.erase
  split
  · split
    · split
      · exact NorS.step_n s
      · exact NorS.step_n s
    · rfl
  · rfl
theorem stp_n : (d.stp s).1.n = s.n := by
  unfold stp
  split
  · rfl
  · split
    · exact wrn _ _ _ _
    · split
      · rw [wrn, ern]
      · exact ern _ _ _
/-- the word of one bit less -/
theorem look_w {f g : Nat → Int} {on count : Int} {o r : Nat} (hu : ∀ i, 0 ≤ f i ∧ f i < 4294967296) (hl : look f = (on, count)) (ho : (on = 0 ∧ o = 0) ∨ (on = 1 ∧ o = 64)) (hr2 : 2 ≤ r) (hr64 : r < 64) (hx : f (o + r) ≠ 0)
    (hg : ∀ i, i < 128 → g i = if i = o + r then clr (f (o + r)) else f i) : look g = (on, count + 1) := by
  have hpos : 0 < f (o + r) ∧ f (o + r) < 4294967296 := by have := hu (o + r); omega
  -- the sector that is written
  have hs : cntOk g o = cntOk f o ∧ cntN g o = cntN f o + 1 := by
    have e0 : g o = f o := by rw [hg o (by omega), if_neg (by omega)]
    have e1 : g (o + 1) = f (o + 1) := by rw [hg (o + 1) (by omega), if_neg (by omega)]
    refine ⟨by unfold cntOk; rw [e0, e1], ?_⟩
    have hz : ∀ j, j ≤ 62 → zsum g o j = zsum f o j + if r - 2 < j then 1 else 0 := by
      intro j
      induction j with
      | zero => intro _; simp [zsum]
      | succ j ih =>
        intro hj
        simp only [zsum]
        rw [ih (by omega), hg (o + 2 + j) (by omega)]
        by_cases e : j = r - 2
        · rw [if_pos (show o + 2 + j = o + r by omega), (clr_facts hpos.1 hpos.2).2.2, if_neg (by omega), if_pos (by omega), show o + 2 + j = o + r from by omega]
          omega
        · rw [if_neg (show ¬ o + 2 + j = o + r by omega)]
          by_cases e2 : r - 2 < j
          · rw [if_pos e2, if_pos (by omega)]; omega
          · rw [if_neg e2, if_neg (by omega)]; omega
    unfold cntN
    rw [e0, hz 62 (by omega), if_pos (by omega)]
    omega
  have hother : ∀ o', (o' = 0 ∨ o' = 64) → o' ≠ o → cntOk g o' = cntOk f o' ∧ cntN g o' = cntN f o' := fun o' h1 h2 =>
    ⟨cntOk_congr (fun i hi => by rw [hg _ (by omega), if_neg (by omega)]), cntN_congr (fun i hi => by rw [hg _ (by omega), if_neg (by omega)])⟩
  have hc := look_cases f
  rw [hl] at hc
  simp only at hc
  rcases ho with ⟨rfl, rfl⟩ | ⟨rfl, rfl⟩
  · obtain ⟨q1, q2⟩ := hother 64 (.inr rfl) (by omega)
    rcases hc with ⟨h, -⟩ | ⟨-, h1, h2, h3⟩ | ⟨h, -⟩
    · omega
    · unfold look
      rw [hs.1, h1, if_pos rfl, q1, q2, hs.2, if_neg (fun h => by have := h3 h.1; have := h.2; omega), h2]
    · omega
  · obtain ⟨q1, q2⟩ := hother 0 (.inl rfl) (by omega)
    rcases hc with ⟨h, -⟩ | ⟨h, -⟩ | ⟨-, h1, h2, h3⟩
    · omega
    · omega
    · unfold look
      rw [q1, q2, hs.1, h1, hs.2]
      by_cases h0 : cntOk f 0 = true
      · rw [if_pos h0, if_pos ⟨rfl, by have := h3 h0; omega⟩, h2]
      · rw [if_neg h0, if_pos rfl, h2]
/-- a sector that is begun -/
theorem look_t {f g : Nat → Int} {count : Int} {i : Nat} (hl : (look f).2 = count) (hon : i = nextS f) (h0 : 0 ≤ count) (h1 : count < 2147483648)
    (hg : ∀ k, k < 128 → g k = laidF (onesTo f (64 * i) 64) (64 * i) [count + 1, 4294967294 - count] k) : look g = ((i : Int), count + 1) := by
  have hi : i < 2 := by rw [hon]; exact nextS_lt f
  have e0 : g (64 * i) = count + 1 := by
    rw [hg _ (by omega)]; unfold laidF
    rw [if_pos ⟨by omega, by simp only [List.length_cons, List.length_nil]; omega⟩, Nat.sub_self]; rfl
  have e1 : g (64 * i + 1) = 4294967294 - count := by
    rw [hg _ (by omega)]; unfold laidF
    rw [if_pos ⟨by omega, by simp only [List.length_cons, List.length_nil]; omega⟩, show 64 * i + 1 - 64 * i = 1 from by omega]; rfl
  have er : ∀ k, k < 62 → g (64 * i + 2 + k) = 4294967295 := fun k hk => by
    rw [hg _ (by omega)]; unfold laidF
    rw [if_neg (by simp only [List.length_cons, List.length_nil]; omega)]
    unfold onesTo
    rw [if_pos (by omega)]
  have ok : cntOk g (64 * i) = true := by unfold cntOk; rw [e0, e1]; exact decide_eq_true ⟨by omega, by omega⟩
  have cn : cntN g (64 * i) = count + 1 := by unfold cntN; rw [e0, zsum_ones 62 er]; omega
  have far : ∀ k, k < 128 → ¬ (64 * i ≤ k ∧ k < 64 * i + 64) → g k = f k := fun k hk hn => by
    rw [hg k hk]; unfold laidF
    rw [if_neg (by simp only [List.length_cons, List.length_nil]; omega)]
    unfold onesTo
    rw [if_neg hn]
  have hc := look_cases f
  unfold nextS at hon
  rcases (by omega : i = 0 ∨ i = 1) with rfl | rfl
  · have hon' : ¬ (look f).1 = 0 := fun h => by rw [if_pos h] at hon; omega
    have q1 : cntOk g 64 = cntOk f 64 := cntOk_congr (fun k hk => far _ (by omega) (by omega))
    have q2 : cntN g 64 = cntN f 64 := cntN_congr (fun k hk => far _ (by omega) (by omega))
    unfold look
    rw [Nat.mul_zero] at ok cn
    rw [ok, if_pos rfl, cn, q1, q2]
    rw [if_neg]
    · rfl
    · rintro ⟨h2, h3⟩
      rcases hc with ⟨_, _, _, h4⟩ | ⟨h4, _⟩ | ⟨_, _, h4, _⟩
      · rw [h4] at h2; cases h2
      · exact hon' h4
      · omega
  · have hon' : (look f).1 = 0 := by
      by_cases h : (look f).1 = 0
      · exact h
      · rw [if_neg h] at hon; omega
    have q1 : cntOk g 0 = cntOk f 0 := cntOk_congr (fun k hk => far _ (by omega) (by omega))
    have q2 : cntN g 0 = cntN f 0 := cntN_congr (fun k hk => far _ (by omega) (by omega))
    rcases hc with ⟨h4, _⟩ | ⟨_, h4, h5, _⟩ | ⟨h4, _⟩
    · omega
    · unfold look
      rw [Nat.mul_one] at ok cn
      rw [q1, h4, if_pos rfl, ok, cn, q2, if_pos ⟨rfl, by omega⟩]; rfl
    · omega
end DrvS
end Go.Proofs.Ytiapoalkkhpmlaa

/-
  Plain: a step of a tally on a flash that is up, and not armed, comes to one more.
-/
namespace Go.Proofs.Ytiapoalkkhpmlaa
namespace DrvS
variable {d : DrvS} {s : NorS}
/-- one word has a bit less -/
def StpW (d : DrvS) (s s' : NorS) : Prop := ∃ o r, (((look (d.fn s)).1 = 0 ∧ o = 0) ∨ ((look (d.fn s)).1 = 1 ∧ o = 64)) ∧ 2 ≤ r ∧ r < 64 ∧ d.fn s (o + r) ≠ 0 ∧ (∀ k, 2 ≤ k → k < r → d.fn s (o + k) = 0) ∧ (∀ i, d.fn s' i = if i = o + r then clr (d.fn s (o + r)) else d.fn s i)
/-- the other sector is begun -/
def StpT (d : DrvS) (s s' : NorS) : Prop := ((look (d.fn s)).1 = -1 ∨ ∀ k, 2 ≤ k → k < 64 → d.fn s (offOf (look (d.fn s)).1 + k) = 0) ∧
  ∀ k, d.fn s' k = laidF (onesTo (d.fn s) (64 * nextS (d.fn s)) 64) (64 * nextS (d.fn s)) [(look (d.fn s)).2 + 1, 4294967294 - (look (d.fn s)).2] k
theorem look_on (hs : s.Ok) : (look (d.fn s)).1 = -1 ∨ (look (d.fn s)).1 = 0 ∨ (look (d.fn s)).1 = 1 := by
  have := look_lo (d := d) hs; omega
theorem base_wd (k : Nat) : s.wd (d.base + k) = d.fn s k := rfl
theorem calm_stp (hC : Calm s) (hs : s.Ok) (hd : d.Ok s) (hm : d.many = 2) (hc : (look (d.fn s)).2 < 2147483648) :
    (d.stp s).2 = 0 ∧ Calm (d.stp s).1 ∧ (d.stp s).1.half = s.half ∧ (StpW d s (d.stp s).1 ∨ StpT d s (d.stp s).1) := by
  have hlo := look_lo (d := d) hs
  have hu := fn_u32 (d := d) hs
  unfold stp
  rw [if_neg (by omega)]
  by_cases hw : 0 ≤ (look (d.fn s)).1 ∧ 0 < room (d.fn s) (offOf (look (d.fn s)).1)
  · rw [if_pos hw]
    obtain ⟨o, ho⟩ : ∃ o, offOf (look (d.fn s)).1 = o := ⟨_, rfl⟩
    rw [ho] at hw ⊢
    have ho2 : ((look (d.fn s)).1 = 0 ∧ o = 0) ∨ ((look (d.fn s)).1 = 1 ∧ o = 64) := by
      unfold offOf at ho
      rcases look_on (d := d) hs with h | h | h
      · omega
      · rw [h] at ho; exact .inl ⟨h, by simpa using ho.symm⟩
      · rw [h] at ho; exact .inr ⟨h, by simpa using ho.symm⟩
    obtain ⟨r, hr⟩ : ∃ r, room (d.fn s) o = r := ⟨_, rfl⟩
    have hrs := room_spec (d.fn s) o
    rw [hr] at hw hrs ⊢
    rcases hrs with ⟨h1, -⟩ | ⟨h1, h2, h3, h4⟩
    · omega
    · have hx : 0 < d.fn s (o + r) ∧ d.fn s (o + r) < 4294967296 := by have := hu (o + r); omega
      have key := calm_wr hC hs hd (a := o + r) (l := [clr (d.fn s (o + r))]) (by simp only [List.length_cons, List.length_nil]; rw [hm]; omega) (fun i hi => by
        have : i = 0 := by simp only [List.length_cons, List.length_nil] at hi; omega
        subst this
        show wand (clr (d.fn s (o + r))) (s.wd (d.base + (o + r) + 0)) = _
        rw [Nat.add_zero, base_wd, wand_clr hx.1 hx.2]; rfl)
      have hok := wr_ok hs hd key.1
      refine ⟨key.1, key.2.1, hok.2.2.2.2.1, .inl ⟨o, r, ho2, h1, h2, h3, h4, fun i => ?_⟩⟩
      rw [hok.2.2.2.2.2 i]
      unfold laidF
      simp only [List.length_cons, List.length_nil]
      by_cases e : i = o + r
      · rw [if_pos e, if_pos (by omega), e, Nat.sub_self]; rfl
      · rw [if_neg e, if_neg (by omega)]
  · rw [if_neg hw]
    have hi := nextS_lt (d.fn s)
    have hcond : (look (d.fn s)).1 = -1 ∨ ∀ k, 2 ≤ k → k < 64 → d.fn s (offOf (look (d.fn s)).1 + k) = 0 := by
      rcases look_on (d := d) hs with h | h | h
      · exact .inl h
      all_goals
        refine .inr ?_
        rcases room_spec (d.fn s) (offOf (look (d.fn s)).1) with ⟨_, h2⟩ | ⟨h1, _⟩
        · exact h2
        · exact absurd ⟨by omega, by omega⟩ hw
    have ker := calm_er hC hs hd (k := nextS (d.fn s)) (by omega)
    have eok := er_ok hs hd ker.1
    rw [if_pos ker.1]
    have hs1 := er_Ok (d := d) hs (nextS (d.fn s))
    have hd1 : d.Ok (d.er s (nextS (d.fn s))) := ⟨hd.m, by rw [ker.2.2.1]; exact hd.n⟩
    have key := calm_wr ker.2.1 hs1 hd1 (a := 64 * nextS (d.fn s)) (l := [(look (d.fn s)).2 + 1, 4294967294 - (look (d.fn s)).2]) (by simp only [List.length_cons, List.length_nil]; rw [hm]; omega) (fun i hi' => by
      have : i = 0 ∨ i = 1 := by simp only [List.length_cons, List.length_nil] at hi'; omega
      have e : (d.er s (nextS (d.fn s))).wd (d.base + 64 * nextS (d.fn s) + i) = 4294967295 := by
        rw [Nat.add_assoc, base_wd, eok.2.2.2.2.2.2]
        unfold onesTo; rw [if_pos (by omega)]
      rw [e]
      rcases this with rfl | rfl
      · exact wand_full (show 0 ≤ (look (d.fn s)).2 + 1 by omega) (by show (look (d.fn s)).2 + 1 < _; omega)
      · exact wand_full (show 0 ≤ 4294967294 - (look (d.fn s)).2 by omega) (by show 4294967294 - (look (d.fn s)).2 < _; omega))
    have hok := wr_ok hs1 hd1 key.1
    refine ⟨key.1, key.2.1, by rw [hok.2.2.2.2.1, eok.2.2.2.2.1], .inr ⟨hcond, fun k => ?_⟩⟩
    rw [hok.2.2.2.2.2 k]
    unfold laidF
    rw [eok.2.2.2.2.2.2 k]
theorem stpW_look {s' : NorS} (hs : s.Ok) (h : StpW d s s') : look (d.fn s') = ((look (d.fn s)).1, (look (d.fn s)).2 + 1) := by
  obtain ⟨o, r, ho, h2, h3, h4, h5, h6⟩ := h
  exact look_w (fn_u32 hs) rfl ho h2 h3 h4 (fun i _ => h6 i)
theorem stpT_look {s' : NorS} (hs : s.Ok) (hc : (look (d.fn s)).2 < 2147483648) (h : StpT d s s') : look (d.fn s') = ((nextS (d.fn s) : Int), (look (d.fn s)).2 + 1) :=
  look_t rfl rfl (look_lo hs).2.2.1 hc (fun k _ => h.2 k)
theorem calm_count (hC : Calm s) (hs : s.Ok) (hd : d.Ok s) (hm : d.many = 2) (hc : (look (d.fn s)).2 < 2147483648) :
    (d.stp s).2 = 0 ∧ Calm (d.stp s).1 ∧ (look (d.fn (d.stp s).1)).2 = (look (d.fn s)).2 + 1 := by
  obtain ⟨h1, h2, _, h3⟩ := calm_stp hC hs hd hm hc
  refine ⟨h1, h2, ?_⟩
  rcases h3 with h3 | h3
  · rw [stpW_look hs h3]
  · rw [stpT_look hs hc h3]
end DrvS
end Go.Proofs.Ytiapoalkkhpmlaa
