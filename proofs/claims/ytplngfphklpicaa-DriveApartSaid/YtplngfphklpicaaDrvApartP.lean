/-
  Plain: a drive changes words of its own sectors alone.
-/
import Derived.Test.YtplngfphklpicaaDrvOps
import Derived.Test.YtplngfphklpicaaDrvEraseP
namespace Go.Proofs.Ytplngfphklpicaa
theorem burn_out (ks : List Bool) (base : Nat) : ∀ (m i : Nat) (l : List Int) (j : Nat), (j < base ∨ base + i + m ≤ j) → (NorS.burn ks base m i l).getD j 0 = l.getD j 0 := by
  intro m
  induction m with
  | zero => intro i l j h; rfl
  | succ m ih =>
    intro i l j h
    rw [NorS.burn, ih _ _ _ (by omega)]
    split
    · simp only [List.getD_eq_getElem?_getD]
      rw [List.getElem?_set_ne (by omega)]
    · rfl
namespace DrvS
/-- the words of the sectors 0 and 4 are those; a sector that is half erased is one between -/
structure Apart (mark : Int) (s : NorS) : Prop where
  n : s.n = 5
  h : s.half = -1 ∨ (1 ≤ s.half ∧ s.half ≤ 3)
  lo : ∀ j, j < 64 → s.wd j = if j = 3 then mark else 4294967295
  hi : ∀ j, 256 ≤ j → j < 320 → s.wd j = if j = 261 then mark else 4294967295
variable {d : DrvS} {s s' : NorS} {mark : Int}
theorem Apart.step (h : Apart mark s) (hn : s'.n = s.n) (hh : s'.half = s.half ∨ s'.half = -1 ∨ (1 ≤ s'.half ∧ s'.half ≤ 3)) (hw : ∀ j, (j < 64 ∨ 256 ≤ j) → s'.wd j = s.wd j) : Apart mark s' :=
  ⟨hn.trans h.n, by rcases hh with e | e | e; · rw [e]; exact h.h
                    · exact .inl e
                    · exact .inr e,
   fun j hj => (hw j (.inl hj)).trans (h.lo j hj), fun j h1 h2 => (hw j (.inr h1)).trans (h.hi j h1 h2)⟩
theorem Apart.wr (h : Apart mark s) (hs : s.Ok) (h1 : 1 ≤ d.first) (h2 : d.first + d.many ≤ 4) (a : Int) (l : List Int) : Apart mark (d.wr s a l) := by
  unfold DrvS.wr
  split
  · rename_i h0
    obtain ⟨-, r1, r2, r3, r4⟩ := rdE_zero h0
    have hlen := hs.len
    have hn := h.n
    have hb : d.base = d.first * 64 := rfl
    split
    · exact h
    · refine h.step (NorS.prog_same l s _).1 (.inl (NorS.prog_same l s _).2.2) (fun j hj => ?_)
      show (s.prog _ l).l.getD j 0 = s.l.getD j 0
      have ht : (l.take (s.doneN l.length)).length ≤ l.length := by rw [List.length_take]; omega
      rw [NorS.prog_l l s _ hs.a0, NorS.andL_get _ _ _ _ (by omega), if_neg (by omega)]
  · exact h
theorem Apart.er (h : Apart mark s) (hs : s.Ok) (h1 : 1 ≤ d.first) (h2 : d.first + d.many ≤ 4) (k : Int) : Apart mark (d.er s k) := by
  unfold DrvS.er
  split
  · rename_i h0
    have hlen := hs.len
    have hn := h.n
    unfold NorS.erase
    split
    · split
      · have hr : (List.replicate 64 (4294967295 : Int)).length = 64 := List.length_replicate ..
        generalize List.replicate 64 (4294967295 : Int) = R at *
        generalize hL : NorS.lay s.l (NorS.at_ ((d.first : Int) + k) 0) R = L
        refine h.step (s' := { s.step with l := L }) (NorS.step_n s) (.inl (NorS.step_half s)) (fun j hj => ?_)
        show L.getD j 0 = s.l.getD j 0
        have e : NorS.at_ ((d.first : Int) + k) 0 = (d.first + k.toNat) * 64 := by unfold NorS.at_; omega
        rw [← hL, e, lay_at _ _ _ _ (by omega), if_neg (by omega)]
      · refine h.step (NorS.step_n s) (.inr (.inr ?_)) (fun j hj => ?_)
        · show 1 ≤ (d.first : Int) + k ∧ (d.first : Int) + k ≤ 3
          omega
        · show s.step.l.getD j 0 = s.l.getD j 0
          rw [NorS.step_l]
    · exact h
  · exact h
theorem Apart.crash (h : Apart mark s) (ks : List Bool) : Apart mark (s.crash ks) := by
  refine h.step rfl (.inr (.inl rfl)) (fun j hj => ?_)
  show (if 0 ≤ s.half then NorS.burn ks (NorS.at_ s.half 0) 64 0 s.l else s.l).getD j 0 = s.l.getD j 0
  split
  · have hh := h.h
    have e : NorS.at_ s.half 0 = s.half.toNat * 64 := by unfold NorS.at_; omega
    rw [e, burn_out _ _ _ _ _ _ (by omega)]
  · rfl
theorem Apart.does (h : Apart mark s) (hs : s.Ok) (h1 : 1 ≤ d.first) (h2 : d.first + d.many ≤ 4) (o : OpS) : Apart mark (d.does s o) := by
  unfold DrvS.does
  split
  · exact h.wr hs h1 h2 _ _
  split
  · exact h.er hs h1 h2 _
  split
  · exact h
  split
  · unfold NorS.arms
    split
    · exact h
    · exact h.step rfl (.inl rfl) (fun _ _ => rfl)
  split
  · exact h.crash _
  · exact h
/-- one word -/
theorem one_read (hs : s.Ok) (hd : d.Ok s) (hdn : s.down = false) {a : Nat} (ha : a + 1 ≤ d.many * 64) {x : Int} (hx : s.wd (d.base + a) = x) : decide (d.rdE s a ((1 : Nat) : Int) = 0 ∧ d.rd s a ((1 : Nat) : Int) = [x]) = true := by
  have h0 : d.rdE s a ((1 : Nat) : Int) = 0 := rdE_ok hdn ⟨by omega, by omega, by omega, by omega⟩
  refine decide_eq_true ⟨h0, ?_⟩
  unfold rd
  rw [if_pos h0]
  show d.words s a 1 = [x]
  have hl := words_length hs hd (a := a) (m := 1) ha
  apply NorS.ext_getD
  · rw [hl]; rfl
  · intro i hi
    rw [hl] at hi
    obtain rfl : i = 0 := by omega
    rw [words_get (by omega)]
    exact hx
/-- blank words -/
theorem blank_read (hs : s.Ok) (hd : d.Ok s) (hdn : s.down = false) {a m : Nat} (hl : a + m ≤ d.many * 64) (hw : ∀ i, i < m → s.wd (d.base + a + i) = 4294967295) : d.blank s a m = true := by
  have hE0 : d.rdE s a m = 0 := rdE_ok hdn ⟨by omega, by omega, by omega, by omega⟩
  unfold blank rd
  rw [if_pos hE0, decide_eq_true hE0, Bool.true_and, List.all_eq_true]
  intro x hx
  have hx : x ∈ d.words s a m := hx
  obtain ⟨i, hi, rfl⟩ := List.getElem_of_mem hx
  have hlw := words_length hs hd (a := a) (m := m) hl
  have := words_get (d := d) (s := s) (a := a) (m := m) (i := i) (by omega)
  rw [List.getD_eq_getElem?_getD, List.getElem?_eq_getElem hi, Option.getD_some] at this
  rw [this, hw i (by omega)]; rfl
/-- the drives of the statement -/
def aD : DrvS := ⟨0, 1⟩
def cD : DrvS := ⟨4, 1⟩
def pD : DrvS := ⟨2, 2⟩
theorem aD_ok (h : s.n = 5) : aD.Ok s := ⟨by decide, by rw [h]; decide⟩
theorem cD_ok (h : s.n = 5) : cD.Ok s := ⟨by decide, by rw [h]; decide⟩
theorem pD_ok (h : s.n = 5) : pD.Ok s := ⟨by decide, by rw [h]; decide⟩
theorem bD_ok (h : s.n = 5) : mD.Ok s := ⟨by decide, by rw [h]; decide⟩
/-- what is looked at -/
structure Looks (mark : Int) (s : NorS) : Prop where
  x : mD.rdE s 64 128 = 0
  y : pD.rdE s 0 128 = 0
  e : pD.rd s 0 128 = mD.rd s 64 128
  l : (mD.rd s 64 128).length = 128
  a : decide (aD.rdE s 3 (([mark] : List Int).length : Int) = 0 ∧ aD.rd s 3 (([mark] : List Int).length : Int) = [mark]) = true
  c : decide (cD.rdE s 5 (([mark] : List Int).length : Int) = 0 ∧ cD.rd s 5 (([mark] : List Int).length : Int) = [mark]) = true
  a1 : aD.blank s 0 3 = true
  a2 : aD.blank s 4 60 = true
  c1 : cD.blank s 0 5 = true
  c2 : cD.blank s 6 58 = true
theorem Apart.looks (h : Apart mark s) (hs : s.Ok) (hdn : s.down = false) : Looks mark s := by
  have x : mD.rdE s 64 128 = 0 := rdE_ok hdn ⟨by decide, by decide, by decide, by decide⟩
  have y : pD.rdE s 0 128 = 0 := rdE_ok hdn ⟨by decide, by decide, by decide, by decide⟩
  have hba : aD.base = 0 := rfl
  have hbc : cD.base = 256 := rfl
  have hma : aD.many = 1 := rfl
  have hmc : cD.many = 1 := rfl
  refine ⟨x, y, ?_, ?_, ?_, ?_, ?_, ?_, ?_, ?_⟩
  · unfold rd
    rw [if_pos x, if_pos y]; rfl
  · unfold rd
    rw [if_pos x]
    exact words_length (a := 64) (m := 128) hs (bD_ok h.n) (by decide)
  · exact one_read (a := 3) hs (aD_ok h.n) hdn (by rw [hma]; omega) (by rw [hba, h.lo _ (by omega), if_pos (by omega)])
  · exact one_read (a := 5) hs (cD_ok h.n) hdn (by rw [hmc]; omega) (by rw [hbc, h.hi _ (by omega) (by omega), if_pos (by omega)])
  · exact blank_read (a := 0) (m := 3) hs (aD_ok h.n) hdn (by rw [hma]; omega) (fun i hi => by rw [hba, h.lo _ (by omega), if_neg (by omega)])
  · exact blank_read (a := 4) (m := 60) hs (aD_ok h.n) hdn (by rw [hma]; omega) (fun i hi => by rw [hba, h.lo _ (by omega), if_neg (by omega)])
  · exact blank_read (a := 0) (m := 5) hs (cD_ok h.n) hdn (by rw [hmc]; omega) (fun i hi => by rw [hbc, h.hi _ (by omega) (by omega), if_neg (by omega)])
  · exact blank_read (a := 6) (m := 58) hs (cD_ok h.n) hdn (by rw [hmc]; omega) (fun i hi => by rw [hbc, h.hi _ (by omega) (by omega), if_neg (by omega)])
theorem new_wd (j : Nat) (h : j < 320) : (NorS.new 5 0).wd j = 4294967295 := by
  unfold NorS.wd NorS.new
  simp only
  rw [List.getD_eq_getElem?_getD, List.getElem?_replicate, if_pos (by omega)]; rfl
/-- the beginning -/
theorem apart_start (hok : (NorS.new 5 0).Ok) (m0 : 0 ≤ mark) (m1 : mark < 4294967296) : aD.wrE (NorS.new 5 0) 3 [mark] = 0 ∧ (aD.wr (NorS.new 5 0) 3 [mark]).n = 5 ∧ cD.wrE (aD.wr (NorS.new 5 0) 3 [mark]) 5 [mark] = 0 ∧ Apart mark (cD.wr (aD.wr (NorS.new 5 0) 3 [mark]) 5 [mark]) := by
  have c0 : Calm (NorS.new 5 0) := ⟨rfl, rfl⟩
  have hba : aD.base = 0 := rfl
  have hbc : cD.base = 256 := rfl
  have hma : aD.many = 1 := rfl
  have hmc : cD.many = 1 := rfl
  have g0 : ∀ i, i < 1 → ([mark] : List Int).getD i 0 = mark := fun i hi => by
    have hi0 : i = 0 := by omega
    rw [hi0]; rfl
  obtain ⟨e1, c1, n1, k1, w1⟩ := calm_wr (d := aD) (a := 3) (l := [mark]) c0 hok (aD_ok rfl) (by rw [hma]; show 3 + 1 ≤ 1 * 64; omega) (fun i hi => by
    rw [g0 i hi, new_wd _ (by rw [hba]; have : i < 1 := hi; omega)]; exact wand_full m0 m1)
  have hl1 : ([mark] : List Int).length = 1 := rfl
  rw [hl1, hba] at w1
  obtain ⟨e2, c2, n2, k2, w2⟩ := calm_wr (d := cD) (a := 5) (l := [mark]) c1 k1 (cD_ok n1) (by rw [hmc]; show 5 + 1 ≤ 1 * 64; omega) (fun i hi => by
    have hi' : i < 1 := hi
    rw [g0 i hi, hbc, w1, if_neg (by omega), new_wd _ (by omega)]; exact wand_full m0 m1)
  rw [hl1, hbc] at w2
  refine ⟨e1, n1, e2, n2.trans n1, .inl ?_, fun j hj => ?_, fun j h1 h2 => ?_⟩
  · have : ∀ (d : DrvS) (s : NorS) (a : Int) (l : List Int), (d.wr s a l).half = s.half := fun d s a l => by
      unfold DrvS.wr
      split
      · split
        · rfl
        · exact (NorS.prog_same l s _).2.2
      · rfl
    exact (this _ _ _ _).trans (this _ _ _ _)
  · refine (w2 j).trans ?_
    rw [if_neg (by omega)]
    refine (w1 j).trans ?_
    by_cases e : j = 3
    · subst e; rfl
    · rw [if_neg (by omega), if_neg e, new_wd _ (by omega)]
  · refine (w2 j).trans ?_
    by_cases e : j = 261
    · subst e; rfl
    · rw [if_neg (by omega), if_neg e]
      refine (w1 j).trans ?_
      rw [if_neg (by omega), new_wd _ (by omega)]
end DrvS
end Go.Proofs.Ytplngfphklpicaa
