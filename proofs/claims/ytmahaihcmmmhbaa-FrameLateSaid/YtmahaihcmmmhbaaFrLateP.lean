/-
  Plain: two windows that took the same numbers.
-/
import Derived.Test.YtmahaihcmmmhbaaFrP2
namespace Go.Proofs.Ytmahaihcmmmhbaa
def wS (f : Nat → Nat) : Nat → Nat × Nat
  | 0 => (0, 0)
  | j + 1 => ((onceN (wS f j).1 (wS f j).2 (f j)).1, (onceN (wS f j).1 (wS f j).2 (f j)).2.1)
def lS (f : Nat → Nat) : Nat → List Nat
  | 0 => []
  | j + 1 => f j :: lS f j
theorem lS_mem (f : Nat → Nat) (s : Nat) : ∀ j, s ∈ lS f j ↔ ∃ i, i < j ∧ f i = s
  | 0 => by simp [lS]
  | j + 1 => by
    rw [lS, List.mem_cons, lS_mem f s j]
    constructor
    · rintro (rfl | ⟨i, h1, h2⟩)
      · exact ⟨j, by omega, rfl⟩
      · exact ⟨i, by omega, h2⟩
    · rintro ⟨i, h1, h2⟩
      by_cases e : i = j
      · subst e; exact .inl h2.symm
      · exact .inr ⟨i, by omega, h2⟩
theorem wS_win {f : Nat → Nat} (hf : ∀ i, 1 ≤ f i ∧ f i ≤ 64) : ∀ j, Win (comeM (lS f j)) (wS f j).1 (wS f j).2 ∧ (wS f j).1 ≤ 64 ∧ ((wS f j).1 = 0 ∨ comeM (lS f j) (wS f j).1 = true)
  | 0 => ⟨⟨by show 0 < 2 ^ 64; decide, fun i _ => by show Nat.testBit 0 i = _; simp [comeM, lS], fun s _ => by simp [comeM, lS], by simp [comeM, lS]⟩, Nat.zero_le _, .inl rfl⟩
  | j + 1 => by
    obtain ⟨h1, h2, h3⟩ := wS_win hf j
    obtain ⟨f1, f2⟩ := hf j
    obtain ⟨g1, g2, g3⟩ := h1.small h2 f1 f2
    exact ⟨g1, g2, .inr (h1.small_top h2 f1 f2 h3)⟩
theorem wS_turned {f : Nat → Nat} (hf : ∀ i, 1 ≤ f i ∧ f i ≤ 64) (n : Nat) : wS (fun i => f (n - 1 - i)) n = wS f n := by
  obtain ⟨a1, a2, a3⟩ := wS_win hf n
  obtain ⟨b1, b2, b3⟩ := wS_win (f := fun i => f (n - 1 - i)) (fun i => hf _) n
  have e : comeM (lS (fun i => f (n - 1 - i)) n) = comeM (lS f n) := comeM_congr (fun s => by
    rw [lS_mem, lS_mem]
    constructor
    · rintro ⟨i, h1, h2⟩; exact ⟨n - 1 - i, by omega, h2⟩
    · rintro ⟨i, h1, h2⟩; exact ⟨n - 1 - i, by omega, by show f (n - 1 - (n - 1 - i)) = s; rw [show n - 1 - (n - 1 - i) = i from by omega]; exact h2⟩)
  rw [e] at b1 b3
  have hl := b1.last_eq a1 b3 a3
  rw [hl] at b1
  exact Prod.ext hl (b1.eq a1)
theorem wS_taken {f : Nat → Nat} (hf : ∀ i, 1 ≤ f i ∧ f i ≤ 64) {n i : Nat} (hi : i < n) : (onceN (wS f n).1 (wS f n).2 (f i)).2.2 = false :=
  (wS_win hf n).1.taken (hf i).1 ((lS_mem f _ n).2 ⟨i, hi, rfl⟩)
theorem wS_bd {f : Nat → Nat} (hf : ∀ i, 1 ≤ f i ∧ f i ≤ 64) (j : Nat) : (wS f j).1 ≤ 64 ∧ (wS f j).2 < 2 ^ 64 := ⟨(wS_win hf j).2.1, (wS_win hf j).1.lt⟩
def lateN (xs : List Int) (i : Nat) : Nat := 1 + (xs.getD i 0 % 64).toNat
theorem lateN_bd (xs : List Int) (i : Nat) : 1 ≤ lateN xs i ∧ lateN xs i ≤ 64 := by
  unfold lateN
  omega
end Go.Proofs.Ytmahaihcmmmhbaa
