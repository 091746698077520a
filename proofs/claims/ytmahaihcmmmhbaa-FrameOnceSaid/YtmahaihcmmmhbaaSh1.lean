/-
  sha: below, root: they end.
-/
import Derived.Test.YtmahaihcmmmhbaaGen
import Derived.Laws.BitsLemmas
import Derived.Deep.DeepCutAuto
namespace Go.Proofs.Ytmahaihcmmmhbaa
open Go.RowKit
set_option maxRecDepth 100000 in
set_option maxHeartbeats 1000000 in
theorem mul64_any (x y : Int) (w : World) : Calls Try.prog 58 #[.int .u64 x, .int .u64 y] w fun e w' => ∃ h l, e = .returned (.tuple #[.int .u64 h, .int .u64 l]) ∧ w = w' := by
  go_enter Try.func58, Try.ntmps58
  go_wp2
  go_ret2
  exact ⟨_, _, rfl, rfl⟩
def BelowPost (w : World) (e : Ending) (w' : World) : Prop := ∃ b, e = .returned (.bool b) ∧ w = w'
set_option maxRecDepth 100000 in
set_option maxHeartbeats 1000000 in
theorem below_any (c p : Int) (third : Bool) (w : World) : Calls Try.prog 39 #[.int .u64 c, .int .u64 p, .bool third] w (BelowPost w) := by
  go_enter Try.func39, Try.ntmps39
  go_wp2_with fail
  refine (mul64_any c c w).mono ?_
  rintro e w' ⟨h, l, rfl, rfl⟩
  cases third
  · by_cases h1 : h < p
    · have d1 : decide (h < p) = true := decide_eq_true h1
      go_wp2
      go_ret
      exact ⟨_, rfl, rfl⟩
    · have d1 : decide (h < p) = false := decide_eq_false h1
      by_cases h2 : h = p
      · subst h2
        go_wp2
        go_ret
        exact ⟨_, rfl, rfl⟩
      · have d2 : decide (h = p) = false := decide_eq_false h2
        have d3 : (h == p) = false := by simp [h2]
        go_wp2
        go_ret
        exact ⟨_, rfl, rfl⟩
  · go_wp2_with fail
    refine (mul64_any l c w).mono ?_
    rintro e w' ⟨h2, l2, rfl, rfl⟩
    go_wp2
    all_goals
      go_ret
      exact ⟨_, rfl, rfl⟩
def RootRel (w : World) (x5 x8 : Value) (wr : World) : Prop := ∃ (j : Nat) (c : Int), j ≤ 36 ∧ x8 = .int .i64 j ∧ x5 = .int .u64 c ∧ wr = w
set_option maxRecDepth 100000 in
set_option maxHeartbeats 1000000 in
theorem root_any (p : Int) (third : Bool) (w : World) : Calls Try.prog 24 #[.int .u64 p, .bool third] w fun e w' => ∃ r : Int, e = .returned (.int .u32 r) ∧ 0 ≤ r ∧ r < 4294967296 ∧ w' = w := by
  go_enter Try.func24, Try.ntmps24
  go_wp2_with fail
  go_loopw [5, 8] (fun x5 x8 wr => RootRel w x5 x8 wr) (fun _ i _ => 36 - (intOf i).toNat)
  case atStart => exact ⟨0, 0, by omega, rfl, rfl, rfl⟩
  case round =>
    obtain ⟨j, c, hj, rfl, rfl, rfl⟩ := hrel
    by_cases hlt : j < 36
    · have j0 : (0 : Int) ≤ (j : Int) := by omega
      have j1 : (j : Int) < 36 := by omega
      have hw : IntKind.i64.wrap (35 - (j : Int)) = 35 - (j : Int) := IntWalk.i64_in _ (by omega)
      have hs : (0 : Int) ≤ 35 - (j : Int) := by omega
      go_wp2_with fail
      refine (below_any _ p third wr).mono ?_
      rintro e w' ⟨b, rfl, rfl⟩
      cases b
      all_goals
        go_wp2
        go_roundw
        case rel => exact ⟨j + 1, _, by omega, by go_num, rfl, rfl⟩
        case measure => simp [intOf]; omega
    · obtain rfl : j = 36 := by omega
      go_wp2
      go_ret
      exact ⟨_, rfl, by omega, by omega, rfl⟩
end Go.Proofs.Ytmahaihcmmmhbaa
