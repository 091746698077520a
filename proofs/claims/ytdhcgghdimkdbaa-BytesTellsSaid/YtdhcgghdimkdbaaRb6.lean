/-
  The document's bytes: GetBlob.
-/
import Derived.Test.YtdhcgghdimkdbaaRb5
namespace Go.Proofs.Ytdhcgghdimkdbaa
open Go.RowKit
section
variable {w : World} {v : Value} {xs : List Int}
def RGbPost (xs : List Int) (a most : Int) (w : World) (e : Ending) (w' : World) : Prop := ∃ v', e = .returned (.tuple #[v', .int .i64 (bX xs a most), .int .i64 (bE xs a most)]) ∧ By w' v' (bB xs a most) ∧ Frm NoB w w'
theorem rgb_bad {xs : List Int} {a most k : Int} (h : bE xs a most = k) (hk : k ≠ 0) {w w' : World} (hf : Frm NoB w w') : RGbPost xs a most w (.returned (.tuple #[.slice none 0 0, .int .i64 0, .int .i64 k])) w' := by
  have h0 : ¬ bE xs a most = 0 := by rw [h]; exact hk
  refine ⟨.slice none 0 0, ?_, ?_, hf⟩
  · unfold bX; rw [if_neg h0, h]
  · unfold bB; rw [if_neg h0]; exact By.nil _
theorem u64conv (a : Int) (h0 : 0 ≤ a) (h1 : a ≤ 9223372036854775807) : a % 18446744073709551616 = a := by omega
set_option maxRecDepth 100000 in
set_option maxHeartbeats 1000000 in
theorem refGetBlob_is (hv : By w v xs) (a most : Int) (hl : xs.length ≤ 16777216) (hm : -9223372036854775808 ≤ most ∧ most ≤ 9223372036854775807) :
    Calls Try.prog 25 #[v, .int .i64 a, .int .i64 most] w (RGbPost xs a most w) := by
  have HV := hide hv
  have HG := hide (refGetUint_is hv a hl)
  unfold RGuPost at HG
  obtain ⟨A, c, rfl, hr, hz, hlc, hc, hu⟩ := hv
  obtain ⟨m0, m1⟩ := hm
  by_cases he : gE xs a = 0
  · have hin : 0 ≤ a ∧ a ≤ xs.length := by
      by_cases h : 0 ≤ a ∧ a ≤ xs.length
      · exact h
      · unfold gE at he; rw [if_neg h] at he; cases he
    have hgu : guE (xs.drop a.toNat) = 0 := by unfold gE at he; rwa [if_pos hin] at he
    have hb := gu_back (hu.drop _) hgu
    have hN : gN xs a = guN (xs.drop a.toNat) := by unfold gN; rw [if_pos he]
    have hX : gX xs a = a + fi (xs.drop a.toNat) + 1 := by unfold gX; rw [if_pos he]
    have hld : (xs.drop a.toNat).length = xs.length - a.toNat := List.length_drop
    obtain ⟨N, hNn⟩ := Int.eq_ofNat_of_zero_le (a := gN xs a) (by omega)
    obtain ⟨X, hXn⟩ := Int.eq_ofNat_of_zero_le (a := gX xs a) (by omega)
    have hNlt : (N : Int) < 18446744073709551616 := by omega
    have hX1 : 1 ≤ X := by omega
    have hXl : X ≤ xs.length := by omega
    have HE := hide he
    have HNn := hide hNn
    have HXn := hide hXn
    rw [he, hNn, hXn] at HG
    clear he hN hX hld hb hgu hin hNn hXn hr hz hu
    by_cases h1 : most < 0
    · have E : Hid (bE xs a most = 3) := by show _ = _; unfold bE; rw [if_pos HE.out, if_pos (.inl h1)]
      have b1 : decide (most < 0) = true := decide_eq_true h1
      clear h1 m0 m1 hNlt
      go_enter Try.func25, Try.ntmps25
      go_wp2_with fail
      refine HG.out.mono ?_
      rintro e w' ⟨rfl, hF⟩
      have HF := hide hF
      clear hF
      go_wp2_with fail
      refine bodyPost_ret (results_tmp3 rfl _ _ _) rfl ?_
      exact rgb_bad E.out (by decide) HF.out
    · have b1 : decide (most < 0) = false := decide_eq_false h1
      have cv : most % 18446744073709551616 = most := by omega
      by_cases h2 : most < N
      · have E : Hid (bE xs a most = 3) := by show _ = _; unfold bE; rw [if_pos HE.out, if_pos (.inr (by rw [HNn.out]; exact h2))]
        have b2 : decide (most < (N : Int)) = true := decide_eq_true h2
        clear h1 h2 m0 m1 hNlt
        go_enter Try.func25, Try.ntmps25
        go_wp2_with fail
        refine HG.out.mono ?_
        rintro e w' ⟨rfl, hF⟩
        have HF := hide hF
        clear hF
        go_wp2_with fail
        refine bodyPost_ret (results_tmp3 rfl _ _ _) rfl ?_
        exact rgb_bad E.out (by decide) HF.out
      · have b2 : decide (most < (N : Int)) = false := decide_eq_false h2
        have cl : (xs.length : Int) % 18446744073709551616 = xs.length := by omega
        by_cases h3 : xs.length - X < N
        · have E : Hid (bE xs a most = 10) := by
            show _ = _
            unfold bE; rw [if_pos HE.out, if_neg (by rw [HNn.out]; omega), if_pos (by rw [HNn.out, HXn.out]; omega)]
          by_cases h4 : xs.length < N
          · have b3 : decide (xs.length < N) = true := decide_eq_true h4
            clear h1 h2 h3 h4 m0 m1 hNlt
            go_enter Try.func25, Try.ntmps25
            go_wp2_with fail
            refine HG.out.mono ?_
            rintro e w' ⟨rfl, hF⟩
            have HF := hide hF
            clear hF
            go_wp2_with fail
            refine bodyPost_ret (results_tmp3 rfl _ _ _) rfl ?_
            exact rgb_bad E.out (by decide) HF.out
          · have b3 : decide (xs.length < N) = false := decide_eq_false h4
            have hN24 : N ≤ 16777216 := by omega
            have b4 : decide ((xs.length : Int) < (X : Int) + (N : Int)) = true := decide_eq_true (by omega)
            clear h1 h2 h3 h4 m0 m1 hNlt
            go_enter Try.func25, Try.ntmps25
            go_wp2_with fail
            refine HG.out.mono ?_
            rintro e w' ⟨rfl, hF⟩
            have HF := hide hF
            clear hF
            go_wp2_with fail
            refine bodyPost_ret (results_tmp3 rfl _ _ _) rfl ?_
            exact rgb_bad E.out (by decide) HF.out
        · have E : Hid (bE xs a most = 0) := by
            show _ = _
            unfold bE; rw [if_pos HE.out, if_neg (by rw [HNn.out]; omega), if_neg (by rw [HNn.out, HXn.out]; omega)]
          have EX : Hid (bX xs a most = X + N) := by show _ = _; unfold bX; rw [if_pos E.out, HNn.out, HXn.out]
          have EB : Hid (bB xs a most = (xs.drop X).take N) := by show _ = _; unfold bB; rw [if_pos E.out, HNn.out, HXn.out]; rfl
          have HBL : Hid (((xs.drop X).take N).length = N) := by show _ = _; rw [List.length_take, List.length_drop]; omega
          have b3 : decide (xs.length < N) = false := decide_eq_false (by omega)
          have hN24 : N ≤ 16777216 := by omega
          have b4 : decide ((xs.length : Int) < (X : Int) + (N : Int)) = false := decide_eq_false (by omega)
          have s0 : 0 ≤ (X : Int) + (N : Int) ∧ (X : Int) + (N : Int) ≤ (c : Int) := by omega
          have s1 : (X : Int) ≤ (X : Int) + (N : Int) := by omega
          have s3 : ((X : Int) + (N : Int)).toNat - X = N := by omega
          have hXN : X + N ≤ xs.length := by omega
          clear h1 h2 h3 m0 m1 hNlt
          by_cases hcX : c = X
          · subst hcX
            have HB0 : Hid (∀ w', Frm NoB w w' → By w' (.slice A N 0) ((xs.drop c).take N)) := fun w' hf => by
              have k := (HV.out.frm0 hf).rest0 hXl rfl
              have e : xs.length - c = N := by omega
              rw [e] at k
              rw [List.take_of_length_le (by rw [List.length_drop]; omega)]; exact k
            go_enter Try.func25, Try.ntmps25
            go_wp2_with fail
            refine HG.out.mono ?_
            rintro e w1 ⟨rfl, hF⟩
            have HF := hide hF
            clear hF
            go_wp2_with fail
            refine (behind_is (By.nil w1) (HB0.out w1 HF.out) (by rw [HBL.out]; simp; omega)).mono ?_
            rintro e w2 ⟨v2, rfl, hG⟩
            have HG2 := hide hG
            clear hG
            go_wp2_with fail
            refine bodyPost_ret (results_tmp3 rfl _ _ _) rfl ?_
            refine ⟨v2, by rw [EX.out, E.out]; rfl, ?_, HF.out.trans HG2.out.new⟩
            rw [EB.out]; exact HG2.out.o.by_
          · obtain ⟨A', c', e, hr, -, -, -, -⟩ := HV.out
            injection e with e1 e2 e3
            subst e1 e3
            obtain ⟨b, o, rfl, -⟩ := hr (ints_ne (by intro e; rw [e] at hXl; simp at hXl; omega))
            have HB0 : Hid (∀ w', Frm NoB w w' → By w' (.slice (some ⟨b, o + X, none⟩) N (c - X)) ((xs.drop X).take N)) := fun w' hf => (HV.out.frm0 hf).sub hXN
            clear hr e2
            go_enter Try.func25, Try.ntmps25
            go_wp2_with fail
            refine HG.out.mono ?_
            rintro e w1 ⟨rfl, hF⟩
            have HF := hide hF
            clear hF
            go_wp2_with fail
            refine (behind_is (By.nil w1) (HB0.out w1 HF.out) (by rw [HBL.out]; simp; omega)).mono ?_
            rintro e w2 ⟨v2, rfl, hG⟩
            have HG2 := hide hG
            clear hG
            go_wp2_with fail
            refine bodyPost_ret (results_tmp3 rfl _ _ _) rfl ?_
            refine ⟨v2, by rw [EX.out, E.out]; rfl, ?_, HF.out.trans HG2.out.new⟩
            rw [EB.out]; exact HG2.out.o.by_
  · have E : Hid (bE xs a most = gE xs a) := by show _ = _; unfold bE; rw [if_neg he]
    have N0 : gN xs a = 0 := by unfold gN; rw [if_neg he]
    have X0 : gX xs a = 0 := by unfold gX; rw [if_neg he]
    rw [N0, X0] at HG
    have HE := hide he
    have hb : (gE xs a != 0) = true := by simpa using he
    clear he hr hz hu N0 X0 m0 m1
    obtain ⟨k, hk⟩ : ∃ k, gE xs a = k := ⟨_, rfl⟩
    rw [hk] at hb HG E HE
    clear hk
    go_enter Try.func25, Try.ntmps25
    go_wp2_with fail
    refine HG.out.mono ?_
    rintro e w' ⟨rfl, hF⟩
    have HF := hide hF
    clear hF
    go_wp2_with fail
    refine bodyPost_ret (results_tmp3 rfl _ _ _) rfl ?_
    exact rgb_bad E.out HE.out HF.out
end
end Go.Proofs.Ytdhcgghdimkdbaa
