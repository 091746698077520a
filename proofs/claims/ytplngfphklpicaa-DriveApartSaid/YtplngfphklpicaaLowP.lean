/-
  Pick.
-/
import Derived.Test.YtplngfphklpicaaGen
import Derived.RegionTactic
namespace Go.Proofs.Ytplngfphklpicaa
open Go.RowKit

/-- from 0 to n - 1 -/
def pick (x n : Int) : Int := x % n
theorem pick_lo (x : Int) {n : Int} (h : 0 < n) : 0 ≤ pick x n := Int.emod_nonneg _ (by omega)
theorem pick_hi (x : Int) {n : Int} (h : 0 < n) : pick x n < n := Int.emod_lt_of_pos _ h
theorem pick_neg {x : Int} {n : Nat} (hl : x.tmod n < 0) : x.tmod n + n = x % n := by
  rw [Int.emod_eq_tmod]
  split
  · rename_i h
    rcases h with h | h
    · have := Int.tmod_nonneg (n : Int) h; omega
    · rw [Int.tmod_eq_zero_of_dvd h] at hl; omega
  · simp
theorem pick_pos {x : Int} {n : Nat} (hl : 0 ≤ x.tmod n) (hn : 0 < n) : x.tmod n = x % n := by
  rw [Int.emod_eq_tmod]
  split
  · simp
  · rename_i h
    have h1 : x < 0 := by omega
    have h2 : ¬ ((n : Int) ∣ x) := fun e => h (.inr e)
    have h3 : x.tmod n ≤ 0 := by
      have := Int.tmod_nonneg (n : Int) (a := -x) (by omega)
      rw [Int.neg_tmod] at this; omega
    have h4 : x.tmod n = 0 := by omega
    exact absurd (Int.dvd_of_tmod_eq_zero h4) h2
theorem pick_is (x : Int) (n : Nat) (w : World) (h : 1 ≤ n) (h2 : n ≤ 1048576) (hx : -9223372036854775808 ≤ x) (hx2 : x ≤ 9223372036854775807) :
    Calls Try.prog 19 #[.int .i64 x, .int .i64 n] w fun e w' => e = .returned (.int .i64 (pick x n)) ∧ w = w' := by
  have hn : ((n : Int) == 0) = false := by rw [beq_eq_false_iff_ne]; omega
  have hd : decide ((n : Int) ≤ 0) = false := by simp; omega
  have E : Hid (pick x n = x % n) := rfl
  by_cases hl : x.tmod n < 0
  · have hs := hide (pick_neg hl)
    have hb : -(n : Int) < x.tmod n := by have := Int.lt_tmod_of_pos x (b := n) (by omega); omega
    go_enter Try.func19, Try.ntmps19
    go_wp2
    go_ret
    exact ⟨ret_int (hs.out.trans E.out.symm), rfl⟩
  · have hs := hide (pick_pos (x := x) (n := n) (by omega) (by omega))
    go_enter Try.func19, Try.ntmps19
    go_wp2
    go_ret
    exact ⟨ret_int (hs.out.trans E.out.symm), rfl⟩
end Go.Proofs.Ytplngfphklpicaa
