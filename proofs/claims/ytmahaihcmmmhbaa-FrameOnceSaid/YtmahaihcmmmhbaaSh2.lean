/-
  sha: primes.
-/
import Derived.Test.YtmahaihcmmmhbaaSh1
namespace Go.Proofs.Ytmahaihcmmmhbaa
open Go.RowKit
/-- does one of them go into it? -/
def hits (l : List Int) (p : Int) : Bool := l.any fun q => decide (p % q = 0)
def primesTo : Nat → List Int
  | 0 => []
  | k + 1 => if hits (primesTo k) ((k : Int) + 2) = true then primesTo k else primesTo k ++ [(k : Int) + 2]
theorem primesTo_len : ∀ k, (primesTo k).length ≤ k
  | 0 => Nat.le_refl _
  | k + 1 => by
    have := primesTo_len k
    unfold primesTo
    split
    · omega
    · rw [List.length_append]; simp; omega
theorem primesTo_in : ∀ k, ∀ x ∈ primesTo k, 2 ≤ x ∧ x ≤ k + 1
  | 0, x, h => by cases h
  | k + 1, x, h => by
    have ih := primesTo_in k
    unfold primesTo at h
    split at h
    · have := ih x h; omega
    · rcases List.mem_append.1 h with h | h
      · have := ih x h; omega
      · simp at h; omega
theorem primes_all : (primesTo 310).length = 64 := by kernel_rfl
theorem divides_is (p q : Int) (h0 : 0 ≤ p) (h1 : p < 1000) (h2 : 2 ≤ q) (h3 : q < 1000) (w : World) : Calls Try.prog 36 #[.int .u64 p, .int .u64 q] w fun e w' => e = .returned (.bool (decide (p % q = 0))) ∧ w = w' := by
  have hq : q ≠ 0 := by omega
  go_enter Try.func36, Try.ntmps36
  go_wp2
  go_ret
  exact ⟨rfl, rfl⟩
theorem test_is (p q : Int) (bf bp : Nat) (h0 : 0 ≤ p) (h1 : p < 1000) (h2 : 2 ≤ q) (h3 : q < 1000) (w : World) (hf : w.cell? ⟨bf, 0, none⟩ = some (.func (.func 36) #[] #[])) (hp : w.cell? ⟨bp, 0, none⟩ = some (.int .u64 p)) :
    Calls Try.prog 38 #[.int .u64 q, .pointer (some ⟨bf, 0, none⟩), .pointer (some ⟨bp, 0, none⟩)] w fun e w' => e = .returned (.bool (decide (p % q = 0))) ∧ w = w' := by
  go_enter Try.func38, Try.ntmps38
  go_wp2_with fail
  refine (divides_is p q h0 h1 h2 h3 w).mono ?_
  rintro e w' ⟨rfl, rfl⟩
  go_wp2
  go_ret
  exact ⟨rfl, rfl⟩
end Go.Proofs.Ytmahaihcmmmhbaa
