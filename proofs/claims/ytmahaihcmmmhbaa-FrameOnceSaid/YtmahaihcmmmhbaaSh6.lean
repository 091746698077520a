/-
  sha: turns.
-/
import Derived.Test.YtmahaihcmmmhbaaGen
import Derived.Laws.BitsLemmas
import Derived.Laws.BitsAllLaws
import Derived.Deep.DeepCutAuto
import Derived.Deep.QuietTactic
import Derived.BigQuiet
namespace Go.Proofs.Ytmahaihcmmmhbaa
open Go.RowKit
/-- by how many a word is turned to the left -/
def rotS (k : Int) : Nat := (k % 32).toNat
def rotP (x : Int) (s : Nat) : Int := bits .or .u32 (IntKind.u32.wrap (x * 2 ^ s)) (x / 2 ^ (32 - s))
theorem rotS_is (k : Int) : bits .and .u64 (IntKind.u64.wrap k) 31 = (rotS k : Int) := by
  have h0 : 0 ≤ k % 18446744073709551616 := Int.emod_nonneg _ (by decide)
  have h1 : k % 18446744073709551616 < 18446744073709551616 := Int.emod_lt_of_pos _ (by decide)
  obtain ⟨n, hn⟩ := Int.eq_ofNat_of_zero_le h0
  rw [IntKind.wrap_u64, hn]
  have hlt : n < 18446744073709551616 := by omega
  have h := u64_and_nat n 31 hlt (by decide)
  rw [show ((31 : Nat) : Int) = 31 from rfl] at h
  rw [h]
  have e : n &&& 31 = n % 32 := Nat.and_two_pow_sub_one_eq_mod n 5
  rw [e]
  unfold rotS
  omega
theorem rotS_lt (k : Int) : rotS k < 32 := by unfold rotS; omega
theorem rotP_u (x : Int) (s : Nat) : 0 ≤ rotP x s ∧ rotP x s < 4294967296 := by
  have := bits_lo_u32 .or (IntKind.u32.wrap (x * 2 ^ s)) (x / 2 ^ (32 - s))
  have := bits_hi_u32 .or (IntKind.u32.wrap (x * 2 ^ s)) (x / 2 ^ (32 - s))
  unfold rotP; omega
set_option maxRecDepth 100000 in
theorem rot_is (x k : Int) (w : World) (hx : 0 ≤ x ∧ x < 4294967296) : Calls Try.prog 79 #[.int .u32 x, .int .i64 k] w fun e w' => e = .returned (.int .u32 (rotP x (rotS k))) ∧ w = w' := by
  have hs := rotS_is k
  have hl := rotS_lt k
  generalize rotS k = s at hs hl ⊢
  have s0 : (0 : Int) ≤ (s : Int) := by omega
  have s1 : (s : Int) < 32 := by omega
  have hw : IntKind.u64.wrap (32 - (s : Int)) = ((32 - s : Nat) : Int) := by rw [IntWalk.u64_in _ (by omega)]; omega
  go_enter Try.func79, Try.ntmps79
  go_wp2
  go_ret
  exact ⟨rfl, rfl⟩
theorem quiet_of6 {P : Program} {f : FuncId} {args : Array Value} {w : World} {n : Nat} {v : Value} (h : Calls P f args (w.drewN n) fun e w' => e = .returned v ∧ w.drewN n = w') : Calls P f args (w.drewN n) fun e w'' => e = .returned v ∧ ∃ m, w'' = w.drewN m :=
  h.mono fun _ _ ⟨he, hm⟩ => ⟨he, n, hm.symm⟩
def rorP (x a b c : Int) : Int := bits .xor .u32 (bits .xor .u32 (rotP x (rotS (-a))) (rotP x (rotS (-b)))) (rotP x (rotS (-c)))
def shrP (x a b : Int) (c : Nat) : Int := bits .xor .u32 (bits .xor .u32 (rotP x (rotS (-a))) (rotP x (rotS (-b)))) (x / 2 ^ c)
set_option maxRecDepth 100000 in
theorem ror_is (x a b c : Int) (w : World) (hx : 0 ≤ x ∧ x < 4294967296) (ha : 0 ≤ a ∧ a < 32) (hb : 0 ≤ b ∧ b < 32) (hc : 0 ≤ c ∧ c < 32) :
    Calls Try.prog 77 #[.int .u32 x, .int .i64 a, .int .i64 b, .int .i64 c] w fun e w' => e = .returned (.int .u32 (rorP x a b c)) ∧ w = w' := by
  have wa : IntKind.i64.wrap (-a) = -a := IntWalk.i64_in _ (by omega)
  have wb : IntKind.i64.wrap (-b) = -b := IntWalk.i64_in _ (by omega)
  have wc : IntKind.i64.wrap (-c) = -c := IntWalk.i64_in _ (by omega)
  go_enter Try.func77, Try.ntmps77
  go_wp2_with (go_at_call 79; refine (rot_is x _ _ hx).mono ?_; rintro e w' ⟨rfl, rfl⟩)
  go_ret
  exact ⟨rfl, rfl⟩
set_option maxRecDepth 100000 in
theorem shr_is (x a b : Int) (c : Nat) (w : World) (hx : 0 ≤ x ∧ x < 4294967296) (ha : 0 ≤ a ∧ a < 32) (hb : 0 ≤ b ∧ b < 32) (hc : c < 32) :
    Calls Try.prog 76 #[.int .u32 x, .int .i64 a, .int .i64 b, .int .i64 c] w fun e w' => e = .returned (.int .u32 (shrP x a b c)) ∧ ∃ m, w' = w.drewN m := by
  have wa : IntKind.i64.wrap (-a) = -a := IntWalk.i64_in _ (by omega)
  have wb : IntKind.i64.wrap (-b) = -b := IntWalk.i64_in _ (by omega)
  have c0 : (0 : Int) ≤ (c : Int) := by omega
  have c1 : (c : Int) < 32 := by omega
  go_enter Try.func76, Try.ntmps76
  go_wp2_with fail
  go_quiet ((go_at_call 79; exact quiet_of6 (rot_is x _ _ hx)))
  go_wp2
  go_ret
  exact ⟨rfl, _, rfl⟩
end Go.Proofs.Ytmahaihcmmmhbaa
