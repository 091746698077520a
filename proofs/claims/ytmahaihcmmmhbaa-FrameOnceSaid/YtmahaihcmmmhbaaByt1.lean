/-
  bytes: Len64, digits, rest, word.
-/
import Derived.Test.YtmahaihcmmmhbaaByNw
import Derived.Lib.Strings
import Derived.Lib.Slices
import Derived.Lib.Small
import Derived.Lib.Walk
import Derived.BigQuiet
import Derived.Deep.Light
namespace Go.Proofs.Ytmahaihcmmmhbaa
open Go.RowKit
set_option maxRecDepth 100000 in
theorem len8tab_size : (Lib.len8tab.size : Int) = 256 := by
  have : Lib.len8tab.size = 256 := by decide
  omega
/-- THE LAST STEP OF EACH OF THE EIGHT WAYS, PROVED ONCE, OUTSIDE: 'omega' on it INSIDE the way's context (a chain of divisions by great numbers) took 25 s a way and gigabytes. -/
theorem wrap_add (k a b : Nat) (hk : k ≤ 56) (ha : a ≤ 8) (hb : b = k + a) : RowKit.wrap64 ((k : Int) + RowKit.wrap64 (a : Int)) = (b : Int) := by
  unfold RowKit.wrap64
  omega
theorem wrap_wrap (a : Nat) (ha : a ≤ 8) : RowKit.wrap64 (RowKit.wrap64 (a : Int)) = (a : Int) := by
  unfold RowKit.wrap64
  omega
theorem wrap_one (a : Nat) (ha : a ≤ 8) : RowKit.wrap64 (a : Int) = (a : Int) := by
  unfold RowKit.wrap64
  omega
/-- The table's byte, as an index's plain meaning reads it, IS the shelf's 'Lib.len8'. -/
theorem len8_get (y : Int) (h : y.toNat < Lib.len8tab.size) : ((Lib.len8tab[y.toNat]'h).toNat : Int) = Lib.len8 y := by
  unfold Lib.len8
  rw [getElem?_pos Lib.len8tab y.toNat h]
  rfl
set_option maxHeartbeats 32000000 in
set_option maxRecDepth 1000000 in
/-- how many bits -/
theorem len64_is (x : Int) (w : World) (h0 : 0 ≤ x) (h1 : x ≤ 18446744073709551615) :
    Calls Try.prog 73 #[.int .u64 x] w fun e w' => e = .returned (.int .i64 (Lib.bitLen x.toNat)) ∧ w' = w := by
  go_enter Try.func73, Try.ntmps73
  go_wp2
  all_goals first
    | (go_ret; refine ⟨congrArg Ending.returned (congrArg (Value.int IntKind.i64) ?_), rfl⟩; go_light)
    | (exfalso
       go_light
       have hs := len8tab_size
       omega)
  all_goals first
    | (rw [len8_get (x / 4294967296 / 65536 / 256) _, Lib.len8_of (x / 4294967296 / 65536 / 256) (by omega) (by omega)]
       have e : (x / 4294967296 / 65536 / 256).toNat = x.toNat / 72057594037927936 := by omega
       have l := Lib.bitLen_le8' (x / 4294967296 / 65536 / 256) (by omega) (by omega)
       have s := Lib.bitLen_shift56 x.toNat (by omega) (by omega)
       rw [e] at l ⊢
       exact wrap_add 56 _ _ (by decide) l s)
    | (rw [len8_get (x / 4294967296 / 65536) _, Lib.len8_of (x / 4294967296 / 65536) (by omega) (by omega)]
       have e : (x / 4294967296 / 65536).toNat = x.toNat / 281474976710656 := by omega
       have l := Lib.bitLen_le8' (x / 4294967296 / 65536) (by omega) (by omega)
       have s := Lib.bitLen_shift48 x.toNat (by omega) (by omega)
       rw [e] at l ⊢
       exact wrap_add 48 _ _ (by decide) l s)
    | (rw [len8_get (x / 4294967296 / 256) _, Lib.len8_of (x / 4294967296 / 256) (by omega) (by omega)]
       have e : (x / 4294967296 / 256).toNat = x.toNat / 1099511627776 := by omega
       have l := Lib.bitLen_le8' (x / 4294967296 / 256) (by omega) (by omega)
       have s := Lib.bitLen_shift40 x.toNat (by omega) (by omega)
       rw [e] at l ⊢
       exact wrap_add 40 _ _ (by decide) l s)
    | (rw [len8_get (x / 4294967296) _, Lib.len8_of (x / 4294967296) (by omega) (by omega)]
       have e : (x / 4294967296).toNat = x.toNat / 4294967296 := by omega
       have l := Lib.bitLen_le8' (x / 4294967296) (by omega) (by omega)
       have s := Lib.bitLen_shift32 x.toNat (by omega) (by omega)
       rw [e] at l ⊢
       exact wrap_add 32 _ _ (by decide) l s)
    | (rw [len8_get (x / 65536 / 256) _, Lib.len8_of (x / 65536 / 256) (by omega) (by omega)]
       have e : (x / 65536 / 256).toNat = x.toNat / 16777216 := by omega
       have l := Lib.bitLen_le8' (x / 65536 / 256) (by omega) (by omega)
       have s := Lib.bitLen_shift24 x.toNat (by omega) (by omega)
       rw [e] at l ⊢
       exact wrap_add 24 _ _ (by decide) l s)
    | (rw [len8_get (x / 65536) _, Lib.len8_of (x / 65536) (by omega) (by omega)]
       have e : (x / 65536).toNat = x.toNat / 65536 := by omega
       have l := Lib.bitLen_le8' (x / 65536) (by omega) (by omega)
       have s := Lib.bitLen_shift16 x.toNat (by omega) (by omega)
       rw [e] at l ⊢
       exact wrap_add 16 _ _ (by decide) l s)
    | (rw [len8_get (x / 256) _, Lib.len8_of (x / 256) (by omega) (by omega)]
       have e : (x / 256).toNat = x.toNat / 256 := by omega
       have l := Lib.bitLen_le8' (x / 256) (by omega) (by omega)
       have s := Lib.bitLen_shift8 x.toNat (by omega) (by omega)
       rw [e] at l ⊢
       exact wrap_add 8 _ _ (by decide) l s)
    | (rw [len8_get (x) _, Lib.len8_of (x) (by omega) (by omega)]
       have e : (x).toNat = x.toNat := by omega
       have l := Lib.bitLen_le8' (x) (by omega) (by omega)
       rw [e] at l ⊢
       first | exact wrap_wrap _ l | exact wrap_add 0 _ _ (by decide) l (by omega) | exact wrap_one _ l)
theorem digits_is (n : Nat) (hn : n < 18446744073709551616) (w : World) :
    Calls Try.prog 67 #[.int .u64 n] w fun e w' => e = .returned (.int .i64 ((dg n + 1 : Nat) : Int)) ∧ w' = w := by
  have E := hide (digits_eq hn)
  have hb : Lib.bitLen n ≤ 64 := Lib.bitLen_le n 64 (by omega) (by simpa using hn)
  go_enter Try.func67, Try.ntmps67
  go_wp2_with fail
  refine (len64_is (n : Int) w (by omega) (by omega)).mono ?_
  rintro e w' ⟨rfl, rfl⟩
  rw [Int.toNat_natCast]
  go_wp2
  go_ret
  refine ⟨ret_int ?_, rfl⟩
  rw [← E.out]
  omega
section
variable {w : World} {A : Option Addr} {cp : Nat} {xs : List Int}
theorem rest_at (a : Nat) (ha : a ≤ xs.length) (hr : Rd w A (ints .u8 xs)) (hc : xs.length ≤ cp) (hm : (cp : Int) ≤ 9223372036854775807) :
    ∃ A', Rd w A' (ints .u8 (xs.drop a)) ∧ Calls Try.prog 46 #[.slice A xs.length cp, .int .i64 a] w fun e w' => e = .returned (.tuple #[.slice A' (xs.length - a) (cp - a), .bool true]) ∧ w' = w := by
  by_cases hca : cp = a
  · refine ⟨A, ?_, ?_⟩
    · rw [show xs.drop a = [] from by rw [List.drop_eq_nil_iff]; omega]
      exact Rd.nil _ _
    · subst hca
      clear hr
      go_enter Try.func46, Try.ntmps46
      go_wp2
      go_ret2
      exact ⟨by rw [show xs.length - cp = 0 from by omega, Nat.sub_self]; rfl, rfl⟩
  · refine ⟨Option.map (fun x => x.add a) A, ?_, ?_⟩
    · intro hne
      obtain ⟨b, o, rfl, hc⟩ := hr (fun e => hne (by unfold ints at e ⊢; rw [List.map_drop, e]; simp))
      refine ⟨b, o + a, ?_, fun i v hv => ?_⟩
      · show some ((⟨b, o, none⟩ : Addr).add a) = _
        rw [addr_add]
      · have := hc (a + i) v (by rw [← hv]; unfold ints; rw [List.map_drop, List.getElem?_drop])
        rw [Nat.add_assoc]; exact this
    · clear hr
      go_enter Try.func46, Try.ntmps46
      go_wp2
      all_goals first
        | (go_ret2; exact ⟨rfl, rfl⟩)
        | (exfalso; omega)
theorem rest_no (a : Int) (ha : ¬ (0 ≤ a ∧ a ≤ xs.length)) :
    Calls Try.prog 46 #[.slice A xs.length cp, .int .i64 a] w fun e w' => e = .returned (.tuple #[.slice none 0 0, .bool false]) ∧ w' = w := by
  by_cases h : a < 0
  · go_enter Try.func46, Try.ntmps46
    go_wp2
    go_ret2
    exact ⟨rfl, rfl⟩
  · have h1 : (xs.length : Int) < a := by omega
    go_enter Try.func46, Try.ntmps46
    go_wp2
    go_ret2
    exact ⟨rfl, rfl⟩
end
end Go.Proofs.Ytmahaihcmmmhbaa
