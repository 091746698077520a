/-
  math/bits of 32 bits: Len32, LeadingZeros32, OnesCount32.
-/
import Derived.Test.YtmeegehmbphooaaTalP2
import Derived.Lib.Strings
import Derived.Lib.Slices
import Derived.Lib.Small
import Derived.Lib.Walk
import Derived.BigQuiet
import Derived.Deep.Light
import Derived.Lib.Tables
import Derived.IntWalk
namespace Go.Proofs.Ytmeegehmbphooaa
open Go.RowKit
theorem and255 {y : Int} (h0 : 0 ≤ y) (h1 : y ≤ 4294967295) : bits .and .u32 y 255 = y % 256 := by
  rw [u32_and _ _ h0 (by omega) (by omega) (by omega)]
  obtain ⟨n, rfl⟩ := Int.eq_ofNat_of_zero_le h0
  have e : (255 : Int).toNat = 2 ^ 8 - 1 := rfl
  rw [Int.toNat_natCast, e, Nat.and_two_pow_sub_one_eq_mod]
  omega
theorem pop_cut (m : Nat) : ∀ (n x : Nat), Lib.popAux (m + n) x = Lib.popAux m (x % 2 ^ m) + Lib.popAux n (x / 2 ^ m) := by
  induction m with
  | zero => intro n x; simp [Lib.popAux]
  | succ m ih =>
    intro n x
    rw [show m + 1 + n = (m + n) + 1 from by omega]
    simp only [Lib.popAux]
    have hp : 0 < 2 ^ m := Nat.pow_pos (by omega)
    have e1 : x % 2 ^ (m + 1) % 2 = x % 2 := by rw [Nat.pow_succ, Nat.mod_mul_left_mod]
    have e2 : x % 2 ^ (m + 1) / 2 = x / 2 % 2 ^ m := by rw [Nat.pow_succ, Nat.mul_comm, Nat.mod_mul_right_div_self]
    have e3 : x / 2 ^ (m + 1) = x / 2 / 2 ^ m := by rw [Nat.pow_succ, Nat.mul_comm, Nat.div_div_eq_div_mul]
    rw [ih n (x / 2), e1, e2, e3]
    omega
theorem ones_byte {b : Nat} (h : b < 256) : Lib.pop8 (b : Int) = (Lib.popAux 8 b : Int) := by
  have := Lib.pop8_eq ⟨b, h⟩
  simp only at this
  rw [this]
  unfold Lib.onesCount
  rw [show (64 : Nat) = 8 + 56 from rfl, pop_hi 56 8 b (by omega)]
theorem ones_four {x : Int} (h0 : 0 ≤ x) (h1 : x ≤ 4294967295) : Lib.pop8 (x / 16777216) + Lib.pop8 (x / 65536 % 256) + Lib.pop8 (x / 256 % 256) + Lib.pop8 (x % 256) = (Lib.onesCount x.toNat : Int) := by
  obtain ⟨n, rfl⟩ := Int.eq_ofNat_of_zero_le h0
  have a1 : (n : Int) / 16777216 = ((n / 16777216 : Nat) : Int) := by omega
  have a2 : (n : Int) / 65536 % 256 = ((n / 65536 % 256 : Nat) : Int) := by omega
  have a3 : (n : Int) / 256 % 256 = ((n / 256 % 256 : Nat) : Int) := by omega
  have a4 : (n : Int) % 256 = ((n % 256 : Nat) : Int) := by omega
  rw [a1, a2, a3, a4, ones_byte (by omega), ones_byte (by omega), ones_byte (by omega), ones_byte (by omega), Int.toNat_natCast]
  unfold Lib.onesCount
  rw [show (64 : Nat) = 32 + 32 from rfl, pop_hi 32 32 n (by omega), show (32 : Nat) = 8 + 24 from rfl, pop_cut 8 24 n, show (24 : Nat) = 8 + 16 from rfl, pop_cut 8 16, show (16 : Nat) = 8 + 8 from rfl, pop_cut 8 8]
  have b1 : n / 2 ^ 8 / 2 ^ 8 / 2 ^ 8 = n / 16777216 := by omega
  have b2 : n / 2 ^ 8 / 2 ^ 8 % 2 ^ 8 = n / 65536 % 256 := by omega
  have b3 : n / 2 ^ 8 % 2 ^ 8 = n / 256 % 256 := by omega
  have b4 : n % 2 ^ 8 = n % 256 := by omega
  rw [b1, b2, b3, b4]
  omega
theorem pop8_le {b : Int} (h0 : 0 ≤ b) (h1 : b ≤ 255) : 0 ≤ Lib.pop8 b ∧ Lib.pop8 b ≤ 8 := by
  obtain ⟨n, rfl⟩ := Int.eq_ofNat_of_zero_le h0
  rw [ones_byte (by omega)]
  have := pop_le 8 n
  omega
set_option maxHeartbeats 4000000 in
set_option maxRecDepth 1000000 in
theorem onesCount32_is (x : Int) (w : World) (h0 : 0 ≤ x) (h1 : x ≤ 4294967295) :
    Calls Try.prog 76 #[.int .u32 x] w fun e w' => e = .returned (.int .i64 (Lib.onesCount x.toNat)) ∧ ∃ n, w' = w.drewN n := by
  have K : ∀ (i : Int) (w : World), 0 ≤ i → i ≤ 255 → (Instr.index 9 (.string Lib.pop8tab) (.int .u32 i)).run Try.prog w = .ok (.int .u8 (Lib.pop8 i)) w := fun i w h0 h1 => Lib.run_index_pop8tab w 9 .u32 i Try.underlying9 h0 h1
  have k1 := fun w => K (x / 16777216) w (by omega) (by omega)
  have k2 := fun w => K (x / 65536 % 256) w (by omega) (by omega)
  have k3 := fun w => K (x / 256 % 256) w (by omega) (by omega)
  have k4 := fun w => K (x % 256) w (by omega) (by omega)
  have b2 := and255 (y := x / 65536) (by omega) (by omega)
  have b3 := and255 (y := x / 256) (by omega) (by omega)
  have b4 := and255 h0 h1
  have E := hide (ones_four h0 h1)
  have p1 := pop8_le (b := x / 16777216) (by omega) (by omega)
  have p2 := pop8_le (b := x / 65536 % 256) (by omega) (by omega)
  have p3 := pop8_le (b := x / 256 % 256) (by omega) (by omega)
  have p4 := pop8_le (b := x % 256) (by omega) (by omega)
  generalize hy : Lib.onesCount x.toNat = y at E ⊢
  clear hy
  generalize Lib.pop8 (x / 16777216) = y1 at *
  generalize Lib.pop8 (x / 65536 % 256) = y2 at *
  generalize Lib.pop8 (x / 256 % 256) = y3 at *
  generalize Lib.pop8 (x % 256) = y4 at *
  have s1 : IntKind.u8.wrap (y1 + y2) = y1 + y2 := by simp [IntKind.wrap, IntKind.bits, IntKind.signed]; omega
  have s2 : IntKind.u8.wrap (y1 + y2 + y3) = y1 + y2 + y3 := by simp [IntKind.wrap, IntKind.bits, IntKind.signed]; omega
  have s3 : IntKind.u8.wrap (y1 + y2 + y3 + y4) = y1 + y2 + y3 + y4 := by simp [IntKind.wrap, IntKind.bits, IntKind.signed]; omega
  have s4 : IntKind.i64.wrap (y1 + y2 + y3 + y4) = y1 + y2 + y3 + y4 := IntWalk.i64_in _ (by omega)
  clear K p1 p2 p3 p4
  go_enter Try.func76, Try.ntmps76
  go_wp2
  simp only [List.append_eq, List.cons_append, List.nil_append, Lib.fold_pop8tab]
  go_quiet (fail)
  go_wp2
  go_ret
  exact ⟨ret_int E.out, _, rfl⟩
set_option maxRecDepth 100000 in
theorem len8tab_size : (Lib.len8tab.size : Int) = 256 := by
  have : Lib.len8tab.size = 256 := by decide
  omega
theorem wrap_add (k a b : Nat) (hk : k ≤ 56) (ha : a ≤ 8) (hb : b = k + a) : RowKit.wrap64 ((k : Int) + RowKit.wrap64 (a : Int)) = (b : Int) := by
  unfold RowKit.wrap64
  omega
theorem wrap_wrap (a : Nat) (ha : a ≤ 8) : RowKit.wrap64 (RowKit.wrap64 (a : Int)) = (a : Int) := by
  unfold RowKit.wrap64
  omega
theorem wrap_one (a : Nat) (ha : a ≤ 8) : RowKit.wrap64 (a : Int) = (a : Int) := by
  unfold RowKit.wrap64
  omega
theorem len8_get (y : Int) (h : y.toNat < Lib.len8tab.size) : ((Lib.len8tab[y.toNat]'h).toNat : Int) = Lib.len8 y := by
  unfold Lib.len8
  rw [getElem?_pos Lib.len8tab y.toNat h]
  rfl
set_option maxHeartbeats 32000000 in
set_option maxRecDepth 1000000 in
/-- how many bits -/
theorem len32_is (x : Int) (w : World) (h0 : 0 ≤ x) (h1 : x ≤ 4294967295) :
    Calls Try.prog 66 #[.int .u32 x] w fun e w' => e = .returned (.int .i64 (Lib.bitLen x.toNat)) ∧ w' = w := by
  go_enter Try.func66, Try.ntmps66
  go_wp2
  all_goals first
    | (go_ret; refine ⟨congrArg Ending.returned (congrArg (Value.int IntKind.i64) ?_), rfl⟩; go_light)
    | (exfalso
       go_light
       have hs := len8tab_size
       omega)
  all_goals first
    | (rw [len8_get (x / 65536 / 256) _, Lib.len8_of (x / 65536 / 256) (by omega) (by omega)]
       have e : (x / 65536 / 256).toNat = x.toNat / 16777216 := by omega
       have l := Lib.bitLen_le8' (x / 65536 / 256) (by omega) (by omega)
       have s := Lib.bitLen_shift24 x.toNat (by omega) (by omega)
       rw [e] at l ⊢
       exact wrap_add 24 _ _ (by decide) l s)
    | (rw [len8_get (x / 65536) _, Lib.len8_of (x / 65536) (by omega) (by omega)]
       have e : (x / 65536).toNat = x.toNat / 65536 := by omega
       have l := Lib.bitLen_le8' (x / 65536) (by omega) (by omega)
       have s := Lib.bitLen_shift16 x.toNat (by omega) (by omega)
       rw [e] at l ⊢
       exact wrap_add 16 _ _ (by decide) l s)
    | (rw [len8_get (x / 256) _, Lib.len8_of (x / 256) (by omega) (by omega)]
       have e : (x / 256).toNat = x.toNat / 256 := by omega
       have l := Lib.bitLen_le8' (x / 256) (by omega) (by omega)
       have s := Lib.bitLen_shift8 x.toNat (by omega) (by omega)
       rw [e] at l ⊢
       exact wrap_add 8 _ _ (by decide) l s)
    | (rw [len8_get (x) _, Lib.len8_of (x) (by omega) (by omega)]
       have e : (x).toNat = x.toNat := by omega
       have l := Lib.bitLen_le8' (x) (by omega) (by omega)
       rw [e] at l ⊢
       first | exact wrap_wrap _ l | exact wrap_add 0 _ _ (by decide) l (by omega) | exact wrap_one _ l)
theorem lz32_is (x : Int) (w : World) (h0 : 0 ≤ x) (h1 : x ≤ 4294967295) :
    Calls Try.prog 37 #[.int .u32 x] w fun e w' => e = .returned (.int .i64 (32 - (Lib.bitLen x.toNat : Int))) ∧ w' = w := by
  have hb : Lib.bitLen x.toNat ≤ 32 := Lib.bitLen_le x.toNat 32 (by omega) (by omega)
  go_enter Try.func37, Try.ntmps37
  go_wp2_with fail
  refine (len32_is x w h0 h1).mono ?_
  rintro e w' ⟨rfl, rfl⟩
  go_wp2
  go_ret
  exact ⟨rfl, rfl⟩
end Go.Proofs.Ytmeegehmbphooaa
