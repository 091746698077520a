/-
  The tally: what a sector counts; look.
-/
import Derived.Test.YtmeegehmbphooaaTal1
namespace Go.Proofs.Ytmeegehmbphooaa
open Go.RowKit
theorem xor_all {y : Int} (h0 : 0 ≤ y) (h1 : y < 4294967296) : bits .xor .u32 4294967295 y = 4294967295 - y := by
  obtain ⟨n, rfl⟩ := Int.eq_ofNat_of_zero_le h0
  rw [u32_xor _ _ (by omega) (by omega) (by omega) (by omega)]
  have e : ((4294967295 : Int).toNat) ^^^ ((n : Int).toNat) = 2 ^ 32 - (n + 1) := by
    rw [Int.toNat_natCast]
    apply Nat.eq_of_testBit_eq
    intro i
    rw [Nat.testBit_xor, Nat.testBit_two_pow_sub_succ (by omega)]
    rw [show (4294967295 : Int).toNat = 2 ^ 32 - 1 from rfl, Nat.testBit_two_pow_sub_one]
    by_cases hi : i < 32
    · simp [hi]
    · have : n.testBit i = false := Nat.testBit_lt_two_pow (Nat.lt_of_lt_of_le (by omega : n < 2 ^ 32) (Nat.pow_le_pow_right (by omega) (by omega)))
      simp [hi, this]
  rw [e]
  omega
theorem xor_not {y : Int} (h0 : 0 ≤ y) (h1 : y < 4294967296) : bits .xor .u32 (if IntKind.u32.signed = true then -1 else IntKind.u32.max) y = 4294967295 - y := xor_all h0 h1
section
variable {w : World} {g k o : Nat} {f : Nat → Int}
def CntRel (w : World) (f : Nat → Int) (o : Nat) (n i : Value) (wr : World) : Prop := ∃ j : Nat, j ≤ 62 ∧ i = .int .i64 j ∧ n = .int .i64 (f o + zsum f o j) ∧ Frm NoB w wr
def CntPost (w : World) (f : Nat → Int) (o : Nat) (e : Ending) (w' : World) : Prop := e = .returned (.tuple #[.int .i64 (if cntOk f o = true then cntN f o else 0), .bool (cntOk f o)]) ∧ Frm NoB w w'
set_option maxHeartbeats 400000 in
theorem counts_is (hc : ∀ j, j < 64 → w.cell? ⟨g, k + j, none⟩ = some (.int .u32 (f (o + j)))) (hu : ∀ j, j < 64 → 0 ≤ f (o + j) ∧ f (o + j) < 4294967296) :
    Calls Try.prog 68 #[.pointer (some ⟨g, k, none⟩)] w (CntPost w f o) := by
  have c0 : w.cell? ⟨g, k, none⟩ = some (.int .u32 (f o)) := hc 0 (by omega)
  have c1 := hc 1 (by omega)
  have u0 : 0 ≤ f o ∧ f o < 4294967296 := hu 0 (by omega)
  have u1 := hu 1 (by omega)
  have HC := hide hc
  have HU := hide hu
  clear hc hu
  by_cases h1 : f o ≤ 2147483648
  · have t1 : decide (f o > 2147483648) = false := decide_eq_false (by omega)
    by_cases h2 : f (o + 1) = 4294967295 - f o
    · have E : Hid (cntOk f o = true) := decide_eq_true ⟨h1, h2⟩
      rw [h2] at c1
      clear h2 u1
      have x0 := xor_not u0.1 u0.2
      go_enter Try.func68, Try.ntmps68
      go_wp2_with fail
      go_quiet (fail)
      go_wp2_with fail
      go_loopw [4, 28] (fun n i wr => CntRel w f o n i wr) (fun _ i _ => 62 - (intOf i).toNat)
      case atStart => exact ⟨0, by omega, rfl, by simp [zsum], (Frm.refl NoB w).drewN nq⟩
      case round =>
        obtain ⟨j, hj, rfl, rfl, hF⟩ := hrel
        have HF := hide hF
        have zl := zsum_le (f := f) (o := o) j (fun i hi => by have := (HU.out (2 + i) (by omega)).1; rwa [← Nat.add_assoc] at this)
        by_cases hlt : j < 62
        · have cj := HC.out (2 + j) (by omega)
          have uj := HU.out (2 + j) (by omega)
          rw [← hF.cell (p := ⟨g, k + (2 + j), none⟩) (World.block_lt_of_cell? w _ cj) (fun e => e)] at cj
          have HZ : Hid (zer (f (o + 2 + j)) = Lib.onesCount (4294967295 - f (o + (2 + j))).toNat) := by show _ = _; rw [show o + 2 + j = o + (2 + j) from by omega, zer_eq uj.1]
          have hz2 : Lib.onesCount (4294967295 - f (o + (2 + j))).toNat ≤ 32 := by rw [← zer_eq uj.1]; exact zer_le uj.1
          generalize f (o + (2 + j)) = y at cj uj HZ hz2
          have xj : Value.int .u32 (bits .xor .u32 (if IntKind.u32.signed = true then -1 else IntKind.u32.max) y) = Value.int .u32 (4294967295 - y) := by rw [xor_not uj.1 uj.2]
          have K := hide (onesCount32_is (4294967295 - y) wr (by omega) (by omega))
          generalize Lib.onesCount (4294967295 - y).toNat = q at HZ hz2 K
          clear hF c1 x0
          have z1 : (0 : Int) ≤ 2 + (j : Int) := by omega
          have z2 : 2 + (j : Int) < 64 := by omega
          have z3 : (2 + (j : Int)).toNat = 2 + j := by omega
          go_wp2_with fail
          refine K.out.mono ?_
          rintro e w' ⟨rfl, m, rfl⟩
          go_wp2
          go_roundw
          case rel => exact ⟨j + 1, by omega, by go_num, by rw [zsum, HZ.out]; go_num, HF.out.drewN m⟩
          case measure => simp [intOf]; omega
        · obtain rfl : j = 62 := by omega
          clear hF
          go_wp2
          go_ret2
          exact ⟨by rw [if_pos E.out, E.out]; rfl, HF.out⟩
    · have E : Hid (cntOk f o = false) := by show _ = _; exact decide_eq_false (fun h => h2 h.2)
      have t2 : (f (o + 1) != 4294967295 - f o) = true := by simpa using h2
      have x0 := xor_not u0.1 u0.2
      clear h2
      go_enter Try.func68, Try.ntmps68
      go_wp2_with fail
      go_quiet (fail)
      go_wp2
      go_ret2
      exact ⟨by rw [if_neg (by rw [E.out]; simp), E.out]; rfl, (Frm.refl NoB w).drewN nq⟩
  · have E : Hid (cntOk f o = false) := by show _ = _; exact decide_eq_false (fun h => h1 h.1)
    have t1 : decide (f o > 2147483648) = true := decide_eq_true (by omega)
    clear h1
    go_enter Try.func68, Try.ntmps68
    go_wp2_with fail
    go_quiet (fail)
    go_wp2
    go_ret2
    exact ⟨by rw [if_neg (by rw [E.out]; simp), E.out]; rfl, (Frm.refl NoB w).drewN nq⟩
end
end Go.Proofs.Ytmeegehmbphooaa
