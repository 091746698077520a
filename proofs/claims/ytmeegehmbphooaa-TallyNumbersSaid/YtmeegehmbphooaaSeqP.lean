/-
  Plain: words that are programmed one behind the other; how many of them, till the power fails.
-/
import Derived.Test.YtmeegehmbphooaaAndP
namespace Go.Proofs.Ytmeegehmbphooaa
namespace NorS
theorem prog_append (xs ys : List Int) : ∀ (s : NorS) (i : Nat), s.prog i (xs ++ ys) = if s.progs xs = true then (s.prog i xs).prog (i + xs.length) ys else s.prog i xs := by
  induction xs with
  | nil => intro s i; simp [NorS.prog, progs]
  | cons x r ih =>
    intro s i
    show (if s.steps = true then _ else _) = if (if s.steps = true then _ else _) = true then (if s.steps = true then _ else _ : NorS).prog _ _ else (if s.steps = true then _ else _)
    by_cases hs : s.steps = true
    · rw [if_pos hs, if_pos hs, if_pos hs, List.append_eq, ih, progs_put, show i + 1 + r.length = i + (x :: r).length from by simp; omega]
    · rw [if_neg hs, if_neg hs, if_neg hs, if_neg (by simp)]
theorem progs_append (xs ys : List Int) : ∀ (s : NorS) (i : Nat), s.progs (xs ++ ys) = (s.progs xs && (s.prog i xs).progs ys) := by
  induction xs with
  | nil => intro s i; simp [NorS.prog, progs]
  | cons x r ih =>
    intro s i
    show (if s.steps = true then _ else _) = ((if s.steps = true then _ else _) && (if s.steps = true then _ else _ : NorS).progs _)
    by_cases hs : s.steps = true
    · rw [if_pos hs, if_pos hs, if_pos hs, List.append_eq, ih s.step i]
      congr 1
      have e : ∀ (zs : List Int) (a b : NorS) (k k' : Nat), a.arm = b.arm → (a.prog k zs).arm = (b.prog k' zs).arm := by
        intro zs
        induction zs with
        | nil => intro a b k k' h; exact h
        | cons z t ih2 =>
          intro a b k k' h
          have hst : a.steps = b.steps := by unfold NorS.steps; rw [h]
          have hsa : a.step.arm = b.step.arm := by unfold NorS.step; rw [h]; split <;> rfl
          show (if a.steps = true then _ else _ : NorS).arm = (if b.steps = true then _ else _ : NorS).arm
          rw [hst]
          split
          · exact ih2 _ _ _ _ hsa
          · exact hsa
      have e2 : ∀ (zs : List Int) (a b : NorS), a.arm = b.arm → a.progs zs = b.progs zs := by
        intro zs
        induction zs with
        | nil => intro a b h; rfl
        | cons z t ih2 =>
          intro a b h
          have hst : a.steps = b.steps := by unfold NorS.steps; rw [h]
          have hsa : a.step.arm = b.step.arm := by unfold NorS.step; rw [h]; split <;> rfl
          show (if a.steps = true then _ else _) = if b.steps = true then _ else _
          rw [hst, ih2 _ _ hsa]
      exact e2 ys _ _ (e r _ _ _ _ rfl)
    · rw [if_neg hs, if_neg hs, if_neg hs]; rfl
/-- how many of m words are programmed -/
def doneN (s : NorS) (m : Nat) : Nat := if s.arm < 0 then m else min s.arm.toNat m
theorem doneN_le (s : NorS) (m : Nat) : s.doneN m ≤ m := by unfold doneN; split <;> omega
theorem steps_arm {s : NorS} : s.steps = true ↔ s.arm ≠ 0 := by unfold NorS.steps; simp
theorem step_arm {s : NorS} (ha : -1 ≤ s.arm) : s.step.arm = if s.arm ≤ 0 then -1 else s.arm - 1 := by
  unfold NorS.step
  split
  · rename_i h; rw [h]; rfl
  · show max _ _ = _; split <;> omega
theorem doneN_step {s : NorS} (ha : -1 ≤ s.arm) (h : s.arm ≠ 0) (m : Nat) : s.doneN (m + 1) = s.step.doneN m + 1 := by
  unfold doneN
  rw [step_arm ha]
  by_cases h0 : s.arm < 0
  · rw [if_pos h0, if_pos (by split <;> omega)]
  · rw [if_neg h0, if_neg (show ¬ s.arm ≤ 0 by omega), if_neg (by omega)]; omega
theorem step_arm_lo {s : NorS} (ha : -1 ≤ s.arm) : -1 ≤ s.step.arm := by rw [step_arm ha]; split <;> omega
theorem prog_l (xs : List Int) : ∀ (s : NorS) (i : Nat), -1 ≤ s.arm → (s.prog i xs).l = andL s.l i (xs.take (s.doneN xs.length)) := by
  induction xs with
  | nil => intro s i ha; simp [NorS.prog, andL]
  | cons x r ih =>
    intro s i ha
    show (if s.steps = true then _ else _ : NorS).l = _
    by_cases hs : s.steps = true
    · rw [if_pos hs, ih (s.step.put i (wand (s.wd i) x)) (i + 1) (step_arm_lo ha)]
      have := doneN_step ha (steps_arm.1 hs) r.length
      rw [List.length_cons, this, List.take_succ_cons]
      show andL (s.step.l.set i _) _ _ = andL (s.l.set i _) _ _
      rw [step_l]
      rfl
    · have h0 : s.arm = 0 := Classical.not_not.1 (fun e => hs (steps_arm.2 e))
      rw [if_neg hs, step_l]
      have : s.doneN (x :: r).length = 0 := by unfold doneN; rw [h0]; simp
      rw [this]; rfl
theorem progs_iff (xs : List Int) : ∀ (s : NorS), -1 ≤ s.arm → (s.progs xs = true ↔ s.doneN xs.length = xs.length) := by
  induction xs with
  | nil => intro s ha; unfold doneN; simp [progs]
  | cons x r ih =>
    intro s ha
    show (if s.steps = true then _ else _) = true ↔ _
    by_cases hs : s.steps = true
    · rw [if_pos hs, ih _ (step_arm_lo ha), List.length_cons, doneN_step ha (steps_arm.1 hs)]; omega
    · have h0 : s.arm = 0 := Classical.not_not.1 (fun e => hs (steps_arm.2 e))
      rw [if_neg hs]
      have : s.doneN (x :: r).length = 0 := by unfold doneN; rw [h0]; simp
      rw [this]; simp
theorem step_down (s : NorS) : s.step.down = (s.down || !s.steps) := by
  unfold NorS.step NorS.steps
  split
  · rename_i h; rw [h]; simp
  · rename_i h; simp [h]
theorem prog_down (xs : List Int) : ∀ (s : NorS) (i : Nat), (s.prog i xs).down = (s.down || !s.progs xs) := by
  induction xs with
  | nil => intro s i; simp [NorS.prog, progs]
  | cons x r ih =>
    intro s i
    show (if s.steps = true then _ else _ : NorS).down = (s.down || !(if s.steps = true then _ else _))
    by_cases hs : s.steps = true
    · rw [if_pos hs, if_pos hs, ih, progs_put]
      show (s.step.down || _) = _
      rw [step_down, hs]; simp
    · rw [if_neg hs, if_neg hs, step_down]
      have : s.steps = false := by simpa using hs
      rw [this]
theorem step_half (s : NorS) : s.step.half = s.half := by unfold NorS.step; split <;> rfl
theorem prog_same (xs : List Int) : ∀ (s : NorS) (i : Nat), (s.prog i xs).n = s.n ∧ (s.prog i xs).guard = s.guard ∧ (s.prog i xs).half = s.half := by
  induction xs with
  | nil => intro s i; exact ⟨rfl, rfl, rfl⟩
  | cons x r ih =>
    intro s i
    show (if s.steps = true then _ else _ : NorS).n = _ ∧ (if s.steps = true then _ else _ : NorS).guard = _ ∧ (if s.steps = true then _ else _ : NorS).half = _
    by_cases hs : s.steps = true
    · rw [if_pos hs]
      obtain ⟨a, b, c⟩ := ih (s.step.put i (wand (s.wd i) x)) (i + 1)
      exact ⟨a.trans (step_n s), b.trans (step_guard s), c.trans (step_half s)⟩
    · rw [if_neg hs]; exact ⟨step_n s, step_guard s, step_half s⟩
theorem Ok.prog' (xs : List Int) : ∀ (s : NorS) (i : Nat), s.Ok → (s.prog i xs).Ok := by
  induction xs with
  | nil => intro s i h; exact h
  | cons x r ih =>
    intro s i h
    show (if s.steps = true then _ else _ : NorS).Ok
    by_cases hs : s.steps = true
    · rw [if_pos hs]; exact ih _ _ (h.step.put _ (wand_u32 (h.wd _)))
    · rw [if_neg hs]; exact h.step
end NorS
end Go.Proofs.Ytmeegehmbphooaa
