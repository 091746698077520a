/-
  The document's bytes: GetWord, GetBlob.
-/
import Derived.Test.YtdhcgghdimkdbaaRb4
namespace Go.Proofs.Ytdhcgghdimkdbaa
open Go.RowKit
section
variable {w : World} {v : Value} {xs : List Int}
def RGwPost (xs : List Int) (a : Int) (w : World) (e : Ending) (w' : World) : Prop := e = .returned (.tuple #[.int .u32 (wN xs a), .int .i64 (wX xs a), .int .i64 (wE xs a)]) ∧ Frm NoB w w'
theorem gw_bad {xs : List Int} {a k : Int} (h : wE xs a = k) (hk : k ≠ 0) (w : World) : RGwPost xs a w (.returned (.tuple #[.int .u32 0, .int .i64 0, .int .i64 k])) w := by
  have h0 : ¬ wE xs a = 0 := by rw [h]; exact hk
  refine ⟨ret3 ?_ ?_ h.symm, Frm.refl _ _⟩
  · unfold wN; rw [if_neg h0]
  · unfold wX; rw [if_neg h0]
/-- the value of the first k of four bytes -/
def wk (xs : List Int) (m : Nat) : Nat → Int
  | 0 => 0
  | k + 1 => wk xs m k * 256 + xs.getD (m + k) 0
theorem wk_four (xs : List Int) (m : Nat) : wk xs m 4 = wv (xs.drop m) := by
  simp only [wk, wv, List.getD_eq_getElem?_getD, List.getElem?_drop]
  omega
theorem wk_lt {xs : List Int} (hu : U8 xs) (m : Nat) : ∀ k, 0 ≤ wk xs m k ∧ wk xs m k < 256 ^ k
  | 0 => by simp [wk]
  | k + 1 => by
    obtain ⟨h1, h2⟩ := wk_lt hu m k
    have h3 := hu.get (m + k)
    rw [Int.pow_succ]
    simp only [wk]
    generalize (256 : Int) ^ k = p at *
    omega
theorem wk_room {xs : List Int} (hu : U8 xs) (m : Nat) {k : Nat} (hk : k < 4) : 0 ≤ wk xs m k ∧ wk xs m k < 16777216 := by
  obtain ⟨h1, h2⟩ := wk_lt hu m k
  refine ⟨h1, ?_⟩
  have : k = 0 ∨ k = 1 ∨ k = 2 ∨ k = 3 := by omega
  rcases this with rfl | rfl | rfl | rfl
  all_goals (simp only [Int.reducePow] at h2; omega)
def RwRel (w : World) (xs : List Int) (m : Nat) (n i : Value) (wr : World) : Prop := ∃ k : Nat, k ≤ 4 ∧ i = .int .i64 ((m + k : Nat) : Int) ∧ n = .int .u32 (wk xs m k) ∧ wr = w
set_option maxHeartbeats 1000000 in
theorem refGetWord_is (hv : By w v xs) (a : Int) (hl : xs.length ≤ 16777216) (ha : -9223372036854775808 ≤ a ∧ a ≤ 9223372036854775807) : Calls Try.prog 24 #[v, .int .i64 a] w (RGwPost xs a w) := by
  obtain ⟨A, c, rfl, hr, hz, hlc, hc, hu⟩ := hv
  have HR := hide hr
  have HU := hide hu
  obtain ⟨a0, a1⟩ := ha
  clear hr hz hu
  by_cases h1 : a < 0
  · have E : Hid (wE xs a = 2) := by show _ = _; unfold wE; rw [if_neg (by omega)]
    have z1 : decide (a < 0) = true := decide_eq_true h1
    clear h1 a0 a1
    go_enter Try.func24, Try.ntmps24
    go_wp2_with fail
    refine bodyPost_ret (results_tmp3 rfl _ _ _) rfl ?_
    exact gw_bad E.out (by decide) _
  · by_cases h2 : (xs.length : Int) < a
    · have E : Hid (wE xs a = 2) := by show _ = _; unfold wE; rw [if_neg (by omega)]
      have z1 : decide (a < 0) = false := decide_eq_false h1
      have z2 : decide ((xs.length : Int) < a) = true := decide_eq_true h2
      clear h1 h2 a0 a1
      go_enter Try.func24, Try.ntmps24
      go_wp2_with fail
      refine bodyPost_ret (results_tmp3 rfl _ _ _) rfl ?_
      exact gw_bad E.out (by decide) _
    · obtain ⟨m, rfl⟩ := Int.eq_ofNat_of_zero_le (a := a) (by omega)
      by_cases h3 : (xs.length : Int) < (m : Int) + 4
      · have E : Hid (wE xs m = 10) := by show _ = _; unfold wE; rw [if_pos (by omega), if_pos h3]
        have z1 : decide ((m : Int) < 0) = false := decide_eq_false (by omega)
        have z2 : decide (xs.length < m) = false := decide_eq_false (by omega)
        have z3 : decide ((xs.length : Int) < (m : Int) + 4) = true := decide_eq_true h3
        have h5 : m ≤ xs.length := by omega
        clear h1 h2 h3 a0 a1
        go_enter Try.func24, Try.ntmps24
        go_wp2_with fail
        refine bodyPost_ret (results_tmp3 rfl _ _ _) rfl ?_
        exact gw_bad E.out (by decide) _
      · have E : Hid (wE xs m = 0) := by show _ = _; unfold wE; rw [if_pos (by omega), if_neg h3]
        have h4 : m + 4 ≤ xs.length := by omega
        obtain ⟨b, o, rfl, hcl⟩ := HR.out (ints_ne (by intro e; rw [e] at h4; simp at h4))
        have HCL := hide hcl
        have z1 : decide ((m : Int) < 0) = false := decide_eq_false (by omega)
        have z2 : decide (xs.length < m) = false := decide_eq_false (by omega)
        have z3 : decide ((xs.length : Int) < (m : Int) + 4) = false := decide_eq_false (by omega)
        clear hcl h1 h2 h3 a0 a1
        go_enter Try.func24, Try.ntmps24
        go_wp2
        go_loopw [7, 8] (fun n i wr => RwRel w xs m n i wr) (fun _ i _ => m + 4 - (intOf i).toNat)
        case atStart => exact ⟨0, by omega, rfl, rfl, rfl⟩
        case round =>
          obtain ⟨k, hk, rfl, rfl, rfl⟩ := hrel
          obtain ⟨q, hq⟩ : ∃ q, m + k = q := ⟨_, rfl⟩
          rw [hq]
          by_cases hlt : k < 4
          · have c1 := HCL.out q _ (ints_get (show q < xs.length by omega))
            have hx := HU.out.get q
            have q0 : (0 : Int) ≤ (q : Int) := by omega
            have q1 : (q : Int) < (xs.length : Int) := by omega
            have E1 : Hid ((wk xs m k * 256 + xs.getD q 0) = wk xs m (k + 1)) := by show _ = _; rw [← hq]; rfl
            obtain ⟨k0, k1⟩ := wk_room HU.out m hlt
            generalize wk xs m k = y at *
            generalize xs.getD q 0 = x at *
            have b1 : decide ((q : Int) < (m : Int) + 4) = true := decide_eq_true (by omega)
            go_wp2
            go_roundw
            case rel => exact ⟨k + 1, by omega, by go_num, congrArg (Value.int .u32) E1.out, rfl⟩
            case measure => simp [intOf]; omega
          · obtain rfl : k = 4 := by omega
            have b1 : decide ((q : Int) < (m : Int) + 4) = false := decide_eq_false (by omega)
            have HW := hide (wk_four xs m)
            go_wp2_with fail
            refine bodyPost_ret (results_tmp3 rfl _ _ _) rfl ?_
            refine ⟨ret3 ?_ ?_ E.out.symm, Frm.refl _ _⟩
            · unfold wN; rw [E.out, if_pos rfl, Int.toNat_natCast]; exact HW.out
            · unfold wX; rw [E.out]; rfl
end
end Go.Proofs.Ytdhcgghdimkdbaa
