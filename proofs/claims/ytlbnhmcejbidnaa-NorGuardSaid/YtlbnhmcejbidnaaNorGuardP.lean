/-
  Plain: another hand changes external words alone.
-/
import Derived.Test.YtlbnhmcejbidnaaNorLaw6
namespace Go.Proofs.Ytlbnhmcejbidnaa
namespace NorS

theorem prog_take (k : Nat) (xs : List Int) : ∀ (a b : NorS) (i : Nat), a.arm = b.arm → a.l.length = b.l.length → a.l.take k = b.l.take k →
    (prog a i xs).l.take k = (prog b i xs).l.take k ∧ (prog a i xs).arm = (prog b i xs).arm ∧ (a.down = b.down → (prog a i xs).down = (prog b i xs).down) := by
  induction xs with
  | nil => intro a b i h1 h2 h3; exact ⟨h3, h1, fun h => h⟩
  | cons x r ih =>
    intro a b i h1 h2 h3
    have hs : a.steps = b.steps := by unfold steps; rw [h1]
    have hsa : a.step.arm = b.step.arm := by unfold step; rw [h1]; split <;> rfl
    have hsd : a.down = b.down → a.step.down = b.step.down := by intro h; unfold step; rw [h1, h]; split <;> rfl
    unfold prog
    rw [hs]
    split
    · have hw : (a.step.put i (wand (a.wd i) x)).l.take k = (b.step.put i (wand (b.wd i) x)).l.take k := by
        unfold put
        rw [step_l, step_l]
        simp only [List.take_set]
        rw [h3]
        rcases Nat.lt_or_ge i k with hi | hi
        · have e : a.wd i = b.wd i := by
            unfold wd
            simp only [List.getD_eq_getElem?_getD]
            have h4 : a.l[i]? = (a.l.take k)[i]? := by rw [List.getElem?_take_of_lt hi]
            have h5 : b.l[i]? = (b.l.take k)[i]? := by rw [List.getElem?_take_of_lt hi]
            rw [h4, h5, h3]
          rw [e]
        · rw [List.set_eq_of_length_le (by simp; omega), List.set_eq_of_length_le (by simp; omega)]
      have hl : (a.step.put i (wand (a.wd i) x)).l.length = (b.step.put i (wand (b.wd i) x)).l.length := by
        unfold put; simp only [List.length_set]; rw [step_l, step_l]; exact h2
      obtain ⟨g1, g2, g3⟩ := ih (a.step.put i (wand (a.wd i) x)) (b.step.put i (wand (b.wd i) x)) (i + 1) hsa hl hw
      exact ⟨g1, g2, fun h => g3 (hsd h)⟩
    · refine ⟨by rw [step_l, step_l]; exact h3, hsa, hsd⟩
theorem progs_arm (xs : List Int) : ∀ (a b : NorS), a.arm = b.arm → a.progs xs = b.progs xs := by
  induction xs with
  | nil => intro a b h; rfl
  | cons x r ih =>
    intro a b h
    have hs : a.steps = b.steps := by unfold steps; rw [h]
    have hsa : a.step.arm = b.step.arm := by unfold step; rw [h]; split <;> rfl
    unfold progs
    rw [hs, ih _ _ hsa]
theorem prog_fix (xs : List Int) : ∀ (a : NorS) (i : Nat), (prog a i xs).n = a.n ∧ (prog a i xs).guard = a.guard ∧ (prog a i xs).half = a.half ∧ (prog a i xs).l.length = a.l.length := by
  induction xs with
  | nil => intro a i; exact ⟨rfl, rfl, rfl, rfl⟩
  | cons x r ih =>
    intro a i
    have hf : a.step.n = a.n ∧ a.step.guard = a.guard ∧ a.step.half = a.half := by unfold step; split <;> exact ⟨rfl, rfl, rfl⟩
    unfold prog
    split
    · obtain ⟨h1, h2, h3, h4⟩ := ih (a.step.put i (wand (a.wd i) x)) (i + 1)
      exact ⟨h1.trans hf.1, h2.trans hf.2.1, h3.trans hf.2.2, h4.trans (by unfold put; simp only [List.length_set]; rw [step_l])⟩
    · exact ⟨hf.1, hf.2.1, hf.2.2, by rw [step_l]⟩
theorem Ok.prog (xs : List Int) : ∀ (a : NorS) (i : Nat), a.Ok → (prog a i xs).Ok := by
  induction xs with
  | nil => intro a i h; exact h
  | cons x r ih =>
    intro a i h
    unfold NorS.prog
    split
    · exact ih _ _ (h.step.put i (wand_u32 (h.wd i)))
    · exact h.step
theorem lay_take (k : Nat) (xs : List Int) : ∀ (a b : List Int) (i : Nat), a.take k = b.take k → (lay a i xs).take k = (lay b i xs).take k := by
  induction xs with
  | nil => intro a b i h; exact h
  | cons x r ih => intro a b i h; exact ih _ _ _ (by rw [List.take_set, List.take_set, h])
theorem lay_take_high (k : Nat) (xs : List Int) : ∀ (a : List Int) (i : Nat), k ≤ i → (lay a i xs).take k = a.take k := by
  induction xs with
  | nil => intro a i h; rfl
  | cons x r ih =>
    intro a i h
    rw [lay, ih _ _ (by omega), List.take_set, List.set_eq_of_length_le (by simp; omega)]
theorem burn_take (k : Nat) (ks : List Bool) (base : Nat) : ∀ (m i : Nat) (a b : List Int), a.take k = b.take k → (burn ks base m i a).take k = (burn ks base m i b).take k := by
  intro m
  induction m with
  | zero => intro i a b h; exact h
  | succ m ih =>
    intro i a b h
    rw [burn, burn]
    apply ih
    split
    · rw [List.take_set, List.take_set, h]
    · exact h

/-- The same but for external words. -/
structure Sim (a b : NorS) : Prop where
  n : a.n = 4
  n' : b.n = 4
  g : a.guard = 2
  arm : a.arm = b.arm
  down : a.down = b.down
  half : a.half = b.half
  len : a.l.length = b.l.length
  t : a.l.take 128 = b.l.take 128
theorem Sim.up {a b : NorS} (h : Sim a b) (x y z : Int) : a.up x y z = b.up x y z := by
  unfold NorS.up there; rw [h.n, h.n', h.down]
theorem Sim.step {a b : NorS} (h : Sim a b) : Sim a.step b.step := by
  unfold NorS.step
  rw [h.arm]
  by_cases hb : b.arm = 0
  · rw [if_pos hb, if_pos hb]
    exact ⟨h.n, h.n', h.g, rfl, rfl, h.half, h.len, h.t⟩
  · rw [if_neg hb, if_neg hb]
    exact ⟨h.n, h.n', h.g, rfl, h.down, h.half, h.len, h.t⟩
theorem Sim.laid {a b : NorS} (h : Sim a b) (i : Nat) (xs : List Int) (l l' : List Int) (hl : l.length = l'.length) (ht : l.take 128 = l'.take 128) : Sim { a with l := lay l i xs } { b with l := lay l' i xs } :=
  ⟨h.n, h.n', h.g, h.arm, h.down, h.half, by show (lay l i xs).length = (lay l' i xs).length; rw [lay_length, lay_length, hl], by show (lay l i xs).take 128 = (lay l' i xs).take 128; exact lay_take _ _ _ _ _ ht⟩
theorem Sim.erase {a b : NorS} (h : Sim a b) (sec : Int) : Sim (a.erase sec) (b.erase sec) := by
  have hs : a.steps = b.steps := by unfold steps; rw [h.arm]
  have hst := h.step
  unfold NorS.erase
  rw [h.up, hs]
  by_cases hu : b.up sec 0 0 = 0
  · rw [if_pos hu, if_pos hu]
    by_cases hb : b.steps = true
    · rw [if_pos hb, if_pos hb]
      exact hst.laid _ _ _ _ h.len h.t
    · rw [if_neg hb, if_neg hb]
      exact ⟨hst.n, hst.n', hst.g, hst.arm, hst.down, rfl, hst.len, hst.t⟩
  · rw [if_neg hu, if_neg hu]
    exact h
theorem Sim.same {a b : NorS} (h : Sim a b) (o : OpS) (hk : o.kind ≠ 7) : Sim (a.does o) (b.does o) := by
  unfold does
  split
  · unfold program
    rw [h.up]
    split
    · obtain ⟨h1, h2, h3⟩ := prog_take 128 (o.l.take 70) a b (at_ o.sector o.at_) h.arm h.len h.t
      obtain ⟨f1, f2, f3, f4⟩ := prog_fix (o.l.take 70) a (at_ o.sector o.at_)
      obtain ⟨g1, g2, g3, g4⟩ := prog_fix (o.l.take 70) b (at_ o.sector o.at_)
      exact ⟨f1.trans h.n, g1.trans h.n', f2.trans h.g, h2, h3 h.down, by rw [f3, g3, h.half], by rw [f4, g4, h.len], h1⟩
    · exact h
  · split
    · exact h.erase _
    · split
      · unfold arms
        rw [h.down]
        by_cases hd : b.down = true
        · rw [if_pos hd, if_pos hd]; exact h
        · rw [if_neg hd, if_neg hd]; exact ⟨h.n, h.n', h.g, rfl, rfl, h.half, h.len, h.t⟩
      · split
        · unfold crash
          refine ⟨h.n, h.n', h.g, rfl, rfl, rfl, ?_, ?_⟩
          · show (if 0 ≤ a.half then _ else _ : List Int).length = (if 0 ≤ b.half then _ else _ : List Int).length
            rw [h.half]
            split
            · rw [burn_length, burn_length]; exact h.len
            · exact h.len
          · show (if 0 ≤ a.half then _ else _ : List Int).take 128 = (if 0 ≤ b.half then _ else _ : List Int).take 128
            rw [h.half]
            split
            · exact burn_take _ _ _ _ _ _ _ h.t
            · exact h.t
        · exact h
theorem does7 (a : NorS) (o : OpS) (hk : o.kind = 7) : a.does o = a.rewrite o.sector o.at_ (o.l.take 70) ∧ a.doesE o = a.rewriteE o.sector o.at_ (o.l.take 70) := by
  unfold does doesE
  rw [if_neg (by omega), if_neg (by omega), if_pos hk, if_neg (by omega), if_neg (by omega), if_pos hk]
  exact ⟨rfl, rfl⟩
/-- what is so, if another hand's words are laid -/
theorem rewriteE_zero {a : NorS} {sec k : Int} {xs : List Int} (h : a.rewriteE sec k xs = 0) : 0 ≤ sec ∧ sec < a.n ∧ 0 ≤ k ∧ k + xs.length ≤ 64 ∧ a.guard ≤ sec := by
  unfold rewriteE at h
  split at h
  · rename_i ht
    unfold there at ht
    simp only [Bool.and_eq_true, decide_eq_true_eq] at ht
    split at h
    · cases h
    · exact ⟨ht.1.1.1.1, ht.1.1.1.2, ht.1.1.2, by omega, by omega⟩
  · cases h
theorem Sim.hand {a b : NorS} (h : Sim a b) (o : OpS) (hk : o.kind = 7) : Sim (a.does o) b ∧ (a.doesE o = 0 → 2 ≤ o.sector) := by
  obtain ⟨e1, e2⟩ := does7 a o hk
  rw [e1, e2]
  constructor
  · unfold rewrite
    split
    · rename_i hz
      obtain ⟨h1, h2, h3, h4, h5⟩ := rewriteE_zero hz
      have hg := h.g
      refine ⟨h.n, h.n', h.g, h.arm, h.down, h.half, by show (lay _ _ _).length = _; rw [lay_length]; exact h.len, ?_⟩
      show (lay _ _ _).take 128 = _
      rw [lay_take_high _ _ _ _ (by unfold at_; omega)]
      exact h.t
    · exact h
  · intro hz
    obtain ⟨h1, h2, h3, h4, h5⟩ := rewriteE_zero hz
    have hg := h.g
    omega
theorem Sim.sector {a b : NorS} (h : Sim a b) {i : Int} (hi : i < 2) : a.sector i = b.sector i := by
  unfold NorS.sector
  rw [h.up]
  split
  · rename_i hu
    obtain ⟨_, i0, _, _, _⟩ := up_zero hu
    have e : ∀ l : List Int, (l.drop (at_ i 0)).take 64 = ((l.take 128).drop (at_ i 0)).take 64 := fun l => by
      rw [List.drop_take, List.take_take]
      congr 1
      unfold at_; simp; omega
    rw [e a.l, e b.l, h.t]
  · rfl
theorem sim_new : Sim (new 4 2) (new 4 2) := ⟨rfl, rfl, rfl, rfl, rfl, rfl, rfl, rfl⟩
theorem lay_get (xs : List Int) : ∀ (l : List Int) (i j : Nat), j < xs.length → i + xs.length ≤ l.length → (lay l i xs).getD (i + j) 0 = xs.getD j 0 := by
  intro l i j hj hl
  rw [splice_lay _ _ _ hl]
  simp only [List.getD_eq_getElem?_getD]
  rw [List.append_assoc, List.getElem?_append_right (by simp; omega), List.getElem?_append_left (by simp; omega)]
  congr 2
  simp
  omega
/-- what another hand wrote is read -/
theorem hand_reads {a : NorS} (ok : a.Ok) (o : OpS) (hk : o.kind = 7) (hz : a.doesE o = 0) (hd : (a.does o).down = false) :
    o.l.length ≤ 64 ∧ 0 ≤ o.at_ ∧ o.at_ ≤ 64 ∧ ∀ j : Nat, j < o.l.length → decide ((a.does o).up o.sector (o.at_ + j) 1 = 0 ∧ (a.does o).read o.sector (o.at_ + j) = o.l.getD j 0) = true := by
  obtain ⟨e1, e2⟩ := does7 a o hk
  rw [e2] at hz
  obtain ⟨h1, h2, h3, h4, h5⟩ := rewriteE_zero hz
  have h6 : o.l.length ≤ 64 := by
    rw [List.length_take] at h4; omega
  have ht : o.l.take 70 = o.l := List.take_of_length_le (by omega)
  refine ⟨h6, h3, by omega, fun j hj => ?_⟩
  rw [ht] at h4 hz e1
  have e3 : a.does o = { a with l := lay a.l (at_ o.sector o.at_) o.l } := by rw [e1]; unfold rewrite; rw [if_pos hz]
  rw [e3] at hd ⊢
  have hd' : a.down = false := hd
  have hu : ({ a with l := lay a.l (at_ o.sector o.at_) o.l } : NorS).up o.sector (o.at_ + j) 1 = 0 := by
    unfold up there
    rw [if_neg (by rw [hd]; simp), if_pos]
    simp only [Bool.and_eq_true, decide_eq_true_eq]
    exact ⟨⟨⟨⟨h1, h2⟩, by omega⟩, by omega⟩, by omega⟩
  refine decide_eq_true ⟨hu, ?_⟩
  unfold read
  rw [if_pos hu]
  unfold wd
  have hl := ok.len
  have e4 : at_ o.sector (o.at_ + j) = at_ o.sector o.at_ + j := by unfold at_; omega
  rw [e4]
  exact lay_get _ _ _ _ hj (by unfold at_; omega)
end NorS
end Go.Proofs.Ytlbnhmcejbidnaa
