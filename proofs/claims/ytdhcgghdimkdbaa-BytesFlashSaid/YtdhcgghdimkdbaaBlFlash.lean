/-
  Bytes that were made words are had back: the walk.
-/
import Derived.Test.YtdhcgghdimkdbaaBl2
import Derived.Test.YtdhcgghdimkdbaaBytL
import Derived.Test.YtdhcgghdimkdbaaLowS
import Derived.Test.YtdhcgghdimkdbaaArgs
import Derived.Deep.RegionHeld3
namespace Go.Proofs.Ytdhcgghdimkdbaa
open Go.RowKit
theorem sameWords_eq (n : Nat) (a : List Int) (hn : a.length = n) (A B : Option Addr) (ca cb : Nat) (w : World) (ha : Rd w A (ints .u32 a)) (hb : Rd w B (ints .u32 a)) (hla : (a.length : Int) ≤ 9223372036854775807) :
    Calls Try.prog 15 #[.slice A n ca, .slice B n cb] w fun e w' => e = .returned (.bool true) ∧ ∃ m, w' = w.drewN m := by
  subst hn
  exact (sameWords_is a a A B ca cb w ha hb hla).mono (fun e w' h => ⟨h.1.trans (by rw [same_iff.2 rfl]), h.2⟩)
set_option maxRecDepth 100000 in
set_option maxHeartbeats 2000000 in
theorem bytesFlash_is (w : World) (v : Value) (b : List Int) (hb : By w v b) (A : Option Addr) (c : Nat) (l : List Int) (hl : RowArg w w.heap.size A c l) (some_ : Int) (hs : 0 ≤ some_ ∧ some_ ≤ 65535) :
    Calls Try.prog 4 #[v, .slice A l.length c, .int .u16 some_] w fun e w' => e = .returned (.bool true) ∧ Frm NoB w w' := by
  have HB := hide hb
  have HL := hide hl
  have hU := hb.u
  have hUL := hl.u
  obtain ⟨A0, c0, rfl, -⟩ := hb
  clear hl
  by_cases h1 : 300 < b.length
  · go_enter Try.func4, Try.ntmps4
    go_wp2_with fail
    refine (awake8_is w).mono ?_
    rintro e w1 ⟨rfl, hF⟩
    go_wp2
    go_ret
    exact ⟨rfl, hF⟩
  by_cases h2 : 100 < l.length
  · go_enter Try.func4, Try.ntmps4
    go_wp2_with fail
    refine (awake8_is w).mono ?_
    rintro e w1 ⟨rfl, hF⟩
    go_wp2
    go_ret
    exact ⟨rfl, hF⟩
  have hbl : b.length ≤ 300 := by omega
  have hll : l.length ≤ 100 := by omega
  have L1 := hide (back_bytes hU)
  have L2 := hide (back_words hUL)
  have WL := hide (wordsOf_length b)
  have WU := hide (wordsOf_u32 hU)
  have BL4 := hide (bytesN_length l (4 * l.length))
  have hUL2 := hide hUL
  obtain ⟨s, rfl⟩ := Int.eq_ofNat_of_zero_le hs.1
  have hs2 : s ≤ 65535 := by omega
  clear hU hUL hs h1 h2
  go_enter Try.func4, Try.ntmps4
  go_wp2_with fail
  refine (words_is HB.out (by omega)).mono ?_
  rintro e w1 ⟨A1, c1, rfl, hR, -, hF⟩
  have HF1 := hide hF
  have HR1 := hide hR
  clear hR hF
  obtain ⟨m, hm⟩ : ∃ m, (wordsOf b).length = m := ⟨_, rfl⟩
  have hm4 : 4 * m = 4 * ((b.length + 3) / 4) := by rw [← hm, WL.out]
  have hm5 : b.length ≤ 4 * m ∧ 4 * m < b.length + 4 := by omega
  have Hm := hide hm
  rw [hm]
  clear hm4 hm
  go_wp2_with fail
  have E1 : byE (wordsOf b) (b.length : Int) = 0 := by unfold byE; rw [if_neg (by omega), if_neg (by rw [Hm.out]; omega)]
  have BC := bytes_is A1 c1 (wordsOf b) HR1.out WU.out (by rw [Hm.out]; omega) (b.length : Int) (by omega)
  rw [Hm.out] at BC
  refine BC.mono ?_
  rintro e w2 ⟨v2, rfl, hG⟩
  rw [E1] at hG ⊢
  rw [if_pos rfl, Int.toNat_natCast, L1.out] at hG
  have HF2 := hide (HF1.out.trans hG.new)
  have s2 := hG.o.by_.string
  have s0 := (HB.out.frm0 HF2.out).string
  clear hG E1 HR1 HF1 BC
  obtain ⟨m5, m6⟩ := hm5
  go_wp2_with fail
  have E2 : byE l (4 * (l.length : Int)) = 0 := by unfold byE; rw [if_neg (by omega), if_neg (by omega)]
  have BC := bytes_is A c l (HL.out.r.frm HF2.out (fun _ _ e => e)) HL.out.u (by omega) (4 * (l.length : Int)) (by omega)
  refine BC.mono ?_
  rintro e w3 ⟨v3, rfl, hG⟩
  rw [E2] at hG ⊢
  rw [if_pos rfl, show (4 * (l.length : Int)).toNat = 4 * l.length from by omega] at hG
  have HF3 := hide (HF2.out.trans hG.new)
  have HB3 := hide hG.o.by_
  clear hG E2 s2 s0 HF2 BC
  obtain ⟨A3, c3, rfl, -⟩ := HB3.out
  obtain ⟨X, hX⟩ : ∃ X, bytesN l (4 * l.length) = X := ⟨_, rfl⟩
  have HTk : Hid (∀ k, k ≤ 4 * l.length → X.take k = bytesN l k) := fun k hk => by rw [← hX]; exact bytesN_take l hk
  rw [hX] at HB3 BL4 L2 ⊢
  rw [BL4.out]
  have BL4b := BL4.out
  rw [BL4b] at HB3
  obtain ⟨n4, hn4⟩ : ∃ n4, 4 * l.length = n4 := ⟨_, rfl⟩
  have Hn4 := hide hn4
  have hn4b : n4 ≤ 400 := by omega
  have hn4c : (4 * (l.length : Int)) = (n4 : Int) := by omega
  rw [hn4] at HB3 BL4 ⊢
  clear hX BL4b hn4 m5 m6
  go_wp2_with fail
  have WC := words_is HB3.out (by rw [BL4.out]; omega)
  rw [L2.out] at WC
  refine WC.mono ?_
  rintro e w4 ⟨A4, c4, rfl, hR, -, hF⟩
  have HF4 := hide (HF3.out.trans hF)
  have HR4 := hide hR
  have HB4 := hide (HB3.out.frm0 hF)
  clear hR hF WC HF3 HB3
  go_wp2_with fail
  refine (sameWords_eq l.length l rfl A4 A c4 c w4 HR4.out (HL.out.r.frm HF4.out (fun _ _ e => e)) (by omega)).mono ?_
  rintro e w5 ⟨rfl, m5, rfl⟩
  have hF : Frm NoB w4 (w4.drewN m5) := (Frm.refl NoB w4).drewN m5
  have HF5 := hide (HF4.out.trans hF)
  have HB5 := hide (HB4.out.frm0 hF)
  generalize w4.drewN m5 = w5 at *
  clear hF HF4 HB4 HR4
  have hn0 : ((n4 : Int) + 1 == 0) = false := by rw [beq_eq_false_iff_ne]; omega
  obtain ⟨k, hk⟩ : ∃ k : Nat, (s : Int) % ((n4 : Int) + 1) = k := Int.eq_ofNat_of_zero_le (Int.emod_nonneg _ (by omega))
  have hkl : k ≤ n4 := by have := Int.emod_lt_of_pos (s : Int) (show 0 < (n4 : Int) + 1 by omega); omega
  go_wp2_with fail
  rw [hk]
  clear hk hn0
  have E2 : byE l (k : Int) = 0 := by unfold byE; rw [if_neg (by omega), if_neg (by omega)]
  have BC := bytes_is A c l (HL.out.r.frm HF5.out (fun _ _ e => e)) HL.out.u (by omega) (k : Int) (by omega)
  refine BC.mono ?_
  rintro e w6 ⟨v6, rfl, hG⟩
  rw [E2] at hG ⊢
  rw [if_pos rfl, Int.toNat_natCast, ← HTk.out k (by have := Hn4.out; omega)] at hG
  have HF6 := hide (HF5.out.trans hG.new)
  have HB6 := hide (HB5.out.frm0 hG.new)
  have HV6 := hide hG.o.by_
  clear hG E2 HF5 HB5 BC
  go_wp2_with fail
  have E2 : byE l ((n4 : Int) + 1 + s) = 10 := by unfold byE; rw [if_neg (by omega), if_pos (by omega)]
  have BC := bytes_is A c l (HL.out.r.frm HF6.out (fun _ _ e => e)) HL.out.u (by omega) ((n4 : Int) + 1 + s) (by omega)
  refine BC.mono ?_
  rintro e w7 ⟨v7, rfl, hG⟩
  rw [E2] at hG ⊢
  have HF7 := hide (HF6.out.trans hG.new)
  have HB7 := hide (HB6.out.frm0 hG.new)
  have HV7 := hide (HV6.out.frm0 hG.new)
  clear hG E2 HF6 HB6 HV6 BC
  have HB8 : Hid (By w7 (.slice A3 k c3) (X.take k)) := hide (HB7.out.take (by rw [BL4.out]; exact hkl))
  have hkc : k ≤ c3 := by obtain ⟨A', c', e, -, -, h4, -, -⟩ := HB8.out; injection e with e1 e2 e3; subst e3; omega
  clear hn4c hs2
  generalize X.take k = Y at *
  go_wp2_with fail
  have K1 := (HV7.out.frm0 ((Frm.refl NoB w7).drew)).string
  have K2 := (HB8.out.frm0 ((Frm.refl NoB w7).drew)).string
  go_region_held3 (fun w' => (convert 23 9 v6).run Try.prog w' = .ok (.string (strOfNums Y)) w' ∧ (convert 23 9 (.slice A3 k c3)).run Try.prog w' = .ok (.string (strOfNums Y)) w') (go_keep)
    (first
      | (go_at_call 9; refine (awake8_is _).mono ?_; rintro e w8 ⟨rfl, hF8⟩; have k1 := (HV7.out.frm0 (((Frm.refl NoB w7).drew).trans hF8)).string; have k2 := (HB8.out.frm0 (((Frm.refl NoB w7).drew).trans hF8)).string))
  go_wp2
  go_ret
  exact ⟨rfl, HF7.out.trans (((Frm.refl NoB w7).drew).trans hF8)⟩
end Go.Proofs.Ytdhcgghdimkdbaa
