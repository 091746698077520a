/-
  For any numbers, bytes, words and places each call tells what the document defines: the walk.
-/
import Derived.Test.YtdhcgghdimkdbaaRb8
import Derived.Test.YtdhcgghdimkdbaaBl2
import Derived.Test.YtdhcgghdimkdbaaLowS
import Derived.Test.YtdhcgghdimkdbaaLowC
import Derived.Test.YtdhcgghdimkdbaaArgs
namespace Go.Proofs.Ytdhcgghdimkdbaa
open Go.RowKit
theorem sameBytes_eq {w : World} {v v' : Value} {xs : List Int} (hx : By w v xs) (hy : By w v' xs) : Calls Try.prog 26 #[v, v'] w fun e w' => e = .returned (.bool true) ∧ Frm NoB w w' :=
  (sameBytes_is hx hy).mono (fun e w' ⟨h, m, h2⟩ => ⟨by rw [h, decide_eq_true rfl], by subst h2; exact (Frm.refl NoB w).drewN m⟩)
theorem sameWords_eq' (n : Nat) (a : List Int) (hn : a.length = n) (A B : Option Addr) (ca cb : Nat) (w : World) (ha : Rd w A (ints .u32 a)) (hb : Rd w B (ints .u32 a)) (hla : (a.length : Int) ≤ 9223372036854775807) :
    Calls Try.prog 15 #[.slice A n ca, .slice B n cb] w fun e w' => e = .returned (.bool true) ∧ Frm NoB w w' := by
  subst hn
  exact (sameWords_is a a A B ca cb w ha hb hla).mono (fun e w' ⟨h, m, h2⟩ => ⟨h.trans (by rw [same_iff.2 rfl]), by subst h2; exact (Frm.refl NoB w).drewN m⟩)
theorem By.blt {w : World} {v : Value} {xs : List Int} (h : By w v xs) (hne : xs ≠ []) {k : Nat} (hk : RowB v k) : k < w.heap.size := by
  obtain ⟨A, c, rfl, hr, -⟩ := h
  obtain ⟨b, o, rfl, hc⟩ := hr (ints_ne hne)
  have hlt : 0 < xs.length := List.length_pos_iff.2 hne
  have := World.block_lt_of_cell? w _ (hc 0 _ (ints_get hlt))
  have e : some b = some k := hk
  injection e with e
  subst e; exact this
def CwPost (w : World) (xs : List Int) (e : Ending) (w' : World) : Prop := ∃ A' c, e = .returned (.slice A' xs.length c) ∧ Rd w' A' (ints .u32 xs) ∧ Frm NoB w w'
/-- words copied, none too -/
theorem copyWords_any (w : World) (A : Option Addr) (cp : Nat) (xs : List Int) (hx : Rd w A (ints .u32 xs)) (hl : xs.length ≤ 16777216) :
    Calls Try.prog 21 #[.slice A xs.length cp] w (CwPost w xs) := by
  rcases Nat.eq_zero_or_pos xs.length with h0 | h0
  · have e : xs = [] := List.eq_nil_of_length_eq_zero h0
    subst e
    obtain ⟨i0, hi0, hz0, hz1, hz2⟩ := info_parts uint32_info
    clear hx h0
    cases A with
    | none =>
      go_enter Try.func21, Try.ntmps21
      go_wp2
      go_ret
      exact ⟨none, 0, rfl, Rd.nil _ _, Frm.refl _ _⟩
    | some ad =>
      go_enter Try.func21, Try.ntmps21
      go_wp2_with (at_builtin; refine wpList_append_own_at w rfl (.tmp 4) (.tmp 5) 30 rfl w.heap.size 27 i0 _ 1 4 Try.underlying30 hi0 hz0 hz1 hz2 rfl (by omega) (.slice none 0 0) 0 [] rfl (World.ownsRow_nil _ _ _ _) ad 0 cp [] rfl rfl (by intro j u h; simp at h) (by intro u h; simp at h) (by simp only [maxLen]; omega) (by omega) (Nat.le_refl _) ?_; intro v' w' k1 k2 k3 k4)
      obtain rfl := k3.2 (by simp)
      have HF : Hid (Frm NoB w w') := (Frm.refl NoB w).grown k2 (fun b hb _ => by cases hb)
      clear k1 k2 k3 k4
      go_ret
      exact ⟨none, 0, rfl, Rd.nil _ _, HF.out⟩
  · refine (copyWords_is w A cp xs hx h0 hl).mono ?_
    rintro e w' ⟨g, c, arr, rfl, h1, h2, h3, h4⟩
    exact ⟨_, c, rfl, fun _ => ⟨g, 0, rfl, fun i v hi => by
      rw [Nat.zero_add]
      have hlt : i < xs.length := by have := (List.getElem?_eq_some_iff.1 hi).1; rwa [ints_length] at this
      rw [(Blk.cell h1 i), h2 i hlt, ← hi, ints_get hlt]⟩, h4⟩
set_option maxRecDepth 100000 in
set_option maxHeartbeats 4000000 in
theorem bytesTells_is (w : World) (n : Nat) (hn : n < 18446744073709551616) (v : Value) (b : List Int) (hb : By w v b) (at_ : Int) (hat : -9223372036854775808 ≤ at_ ∧ at_ ≤ 9223372036854775807) (many : Int) (hmany : -9223372036854775808 ≤ many ∧ many ≤ 9223372036854775807)
    (A : Option Addr) (c : Nat) (l : List Int) (hl : RowArg w w.heap.size A c l) :
    Calls Try.prog 6 #[.int .u64 n, v, .int .i64 at_, .int .i64 many, .slice A l.length c] w fun e w' => e = .returned (.bool true) ∧ Frm NoB w w' := by
  have HB := hide hb
  have HL := hide hl
  obtain ⟨A0, c0, rfl, -⟩ := hb
  clear hl
  have HAT := hide hat
  have HMN := hide hmany
  have HNN := hide hn
  clear hat hmany hn
  by_cases h1 : 1000 < b.length
  · go_enter Try.func6, Try.ntmps6
    go_wp2_with fail
    refine (awake8_is w).mono ?_
    rintro e w1 ⟨rfl, hF⟩
    go_wp2
    go_ret
    exact ⟨rfl, hF⟩
  by_cases h2 : 300 < l.length
  · go_enter Try.func6, Try.ntmps6
    go_wp2_with fail
    refine (awake8_is w).mono ?_
    rintro e w1 ⟨rfl, hF⟩
    go_wp2
    go_ret
    exact ⟨rfl, hF⟩
  have hbl : b.length ≤ 1000 := by omega
  have hll : l.length ≤ 300 := by omega
  have d1 : decide (1000 < (b.length : Int)) = false := decide_eq_false (by omega)
  have d2 : decide (300 < (l.length : Int)) = false := decide_eq_false (by omega)
  have HBL := hide hbl
  have HLL := hide hll
  have WL := hide (wordsOf_length b)
  clear h1 h2 hbl hll
  go_enter Try.func6, Try.ntmps6
  go_wp2_with fail
  -- in, words
  refine (copyBytes_is HB.out (by have := HBL.out; omega)).mono ?_
  rintro e w1 ⟨v1, rfl, hG⟩
  have HO1 := hide hG.o
  have HF1 := hide hG.new
  clear hG
  obtain ⟨A1, c1, rfl, -⟩ := HO1.out.by_
  go_wp2_with fail
  refine (copyWords_any w1 A c l (HL.out.r.frm HF1.out (fun _ _ e => e)) (by have := HLL.out; omega)).mono ?_
  rintro e w2 ⟨A2, c2, rfl, hR, hF0⟩
  have hF : Frm NoB w1 w2 := hF0
  have HF2 := hide (HF1.out.trans hF)
  have HO2 := hide (HO1.out.frm0 hF)
  have HRW2 := hide hR
  clear hR hF0
  clear hF HF1 HO1
  go_wp2_with fail
  refine (getUint_is HO2.out.by_ at_ (by have := HBL.out; omega)).mono ?_
  rintro e w3 ⟨rfl, hw⟩
  have hF : Frm NoB w2 w3 := by rw [← hw]; exact Frm.refl _ _
  have HF3 := hide (HF2.out.trans hF)
  have HO3 := hide (HO2.out.frm0 hF)
  have HRW3 := hide (HRW2.out.frm hF (fun _ _ e => e))
  clear HRW2
  clear hw
  clear hF HF2 HO2
  go_wp2_with fail
  refine (refGetUint_is (HB.out.frm0 HF3.out) at_ (by have := HBL.out; omega)).mono ?_
  rintro e w4 ⟨rfl, hF0⟩
  have hF : Frm NoB w3 w4 := hF0
  have HF4 := hide (HF3.out.trans hF)
  have HO4 := hide (HO3.out.frm0 hF)
  have HRW4 := hide (HRW3.out.frm hF (fun _ _ e => e))
  clear HRW3
  clear hF0
  clear hF HF3 HO3
  generalize gN b at_ = g1 at *
  generalize gX b at_ = g2 at *
  generalize gE b at_ = g3 at *
  go_wp2_with fail
  refine (getWord_is HO4.out.by_ at_ (by have := HBL.out; omega)).mono ?_
  rintro e w5 ⟨rfl, m, hm⟩
  have hF : Frm NoB w4 w5 := by rw [hm]; exact (Frm.refl NoB _).drewN m
  have HF5 := hide (HF4.out.trans hF)
  have HO5 := hide (HO4.out.frm0 hF)
  have HRW5 := hide (HRW4.out.frm hF (fun _ _ e => e))
  clear HRW4
  clear hm
  clear hF HF4 HO4
  go_wp2_with fail
  refine (refGetWord_is (HB.out.frm0 HF5.out) at_ (by have := HBL.out; omega) HAT.out).mono ?_
  rintro e w6 ⟨rfl, hF0⟩
  have hF : Frm NoB w5 w6 := hF0
  have HF6 := hide (HF5.out.trans hF)
  have HO6 := hide (HO5.out.frm0 hF)
  have HRW6 := hide (HRW5.out.frm hF (fun _ _ e => e))
  clear HRW5
  clear hF0
  clear hF HF5 HO5
  generalize wN b at_ = g4 at *
  generalize wX b at_ = g5 at *
  generalize wE b at_ = g6 at *
  go_wp2_with fail
  refine (getBlob_is HO6.out.by_ at_ many (by have := HBL.out; omega) HMN.out).mono ?_
  rintro e w7 ⟨v3, rfl, hG⟩
  have hF : Frm NoB w6 w7 := hG.new
  have HF7 := hide (HF6.out.trans hF)
  have HO7 := hide (HO6.out.frm0 hF)
  have HRW7 := hide (HRW6.out.frm hF (fun _ _ e => e))
  clear HRW6
  have HV3 := hide hG.o.by_
  clear hG
  clear hF HF6 HO6
  go_wp2_with fail
  refine (refGetBlob_is (HB.out.frm0 HF7.out) at_ many (by have := HBL.out; omega) HMN.out).mono ?_
  rintro e w8 ⟨v4, rfl, hB4, hF0⟩
  have hF : Frm NoB w7 w8 := hF0
  have HF8 := hide (HF7.out.trans hF)
  have HO8 := hide (HO7.out.frm0 hF)
  have HRW8 := hide (HRW7.out.frm hF (fun _ _ e => e))
  clear HRW7
  have HV4 := hide hB4
  have HV3' := hide (HV3.out.frm0 hF0)
  clear hB4 hF0 HV3
  clear hF HF7 HO7
  generalize bB b at_ many = g7 at *
  generalize bX b at_ many = g8 at *
  generalize bE b at_ many = g9 at *
  go_wp2_with fail
  refine (sameBytes_eq HV3'.out HV4.out).mono ?_
  rintro e w9 ⟨rfl, hF0⟩
  have hF : Frm NoB w8 w9 := hF0
  have HF9 := hide (HF8.out.trans hF)
  have HO9 := hide (HO8.out.frm0 hF)
  have HRW9 := hide (HRW8.out.frm hF (fun _ _ e => e))
  clear HRW8
  clear hF0 HV3' HV4
  clear hF HF8 HO8
  go_wp2_with fail
  refine (bytes_is A2 c2 l HRW9.out HL.out.u (by have := HLL.out; omega) many HMN.out).mono ?_
  rintro e w10 ⟨v5, rfl, hG⟩
  have hF : Frm NoB w9 w10 := hG.new
  have HF10 := hide (HF9.out.trans hF)
  have HO10 := hide (HO9.out.frm0 hF)
  have HRW10 := hide (HRW9.out.frm hF (fun _ _ e => e))
  clear HRW9
  have HV5 := hide hG.o.by_
  clear hG
  clear hF HF9 HO9
  go_wp2_with fail
  refine (refBytes_is A c l (HL.out.r.frm HF10.out (fun _ _ e => e)) HL.out.u (by have := HLL.out; omega) many).mono ?_
  rintro e w11 ⟨v6, rfl, hB4, hF0⟩
  have hF : Frm NoB w10 w11 := hF0
  have HF11 := hide (HF10.out.trans hF)
  have HO11 := hide (HO10.out.frm0 hF)
  have HRW11 := hide (HRW10.out.frm hF (fun _ _ e => e))
  clear HRW10
  have HV6 := hide hB4
  have HV5' := hide (HV5.out.frm0 hF0)
  clear hB4 hF0 HV5
  clear hF HF10 HO10
  generalize (if byE l many = 0 then bytesN l many.toNat else []) = g10 at *
  generalize byE l many = g11 at *
  go_wp2_with fail
  refine (sameBytes_eq HV5'.out HV6.out).mono ?_
  rintro e w12 ⟨rfl, hF0⟩
  have hF : Frm NoB w11 w12 := hF0
  have HF12 := hide (HF11.out.trans hF)
  have HO12 := hide (HO11.out.frm0 hF)
  have HRW12 := hide (HRW11.out.frm hF (fun _ _ e => e))
  clear HRW11
  clear hF0 HV5' HV6
  clear hF HF11 HO11
  go_wp2_with fail
  refine (words_is HO12.out.by_ (by have := HBL.out; omega)).mono ?_
  rintro e w13 ⟨A5, c5, rfl, hR, -, hF0⟩
  have hF : Frm NoB w12 w13 := hF0
  have HF13 := hide (HF12.out.trans hF)
  have HO13 := hide (HO12.out.frm0 hF)
  have HRW13 := hide (HRW12.out.frm hF (fun _ _ e => e))
  clear HRW12
  have HR5 := hide hR
  clear hR hF0
  clear hF HF12 HO12
  go_wp2_with fail
  refine (refWords_is (HB.out.frm0 HF13.out) (by have := HBL.out; omega)).mono ?_
  rintro e w14 ⟨A6, c6, rfl, hR, -, hF0⟩
  have hF : Frm NoB w13 w14 := hF0
  have HF14 := hide (HF13.out.trans hF)
  have HO14 := hide (HO13.out.frm0 hF)
  have HRW14 := hide (HRW13.out.frm hF (fun _ _ e => e))
  clear HRW13
  have HR6 := hide hR
  have HR5' := hide (HR5.out.frm hF0 (fun _ _ e => e))
  clear hR hF0 HR5
  clear hF HF13 HO13
  have HWL : Hid ((wordsOf b).length ≤ 1000) := by show _ ≤ _; rw [WL.out]; have := HBL.out; omega
  generalize wordsOf b = g12 at *
  go_wp2_with fail
  refine (sameWords_eq' g12.length g12 rfl A5 A6 c5 c6 _ HR5'.out HR6.out (by have := HWL.out; omega)).mono ?_
  rintro e w15 ⟨rfl, hF0⟩
  have hF : Frm NoB w14 w15 := hF0
  have HF15 := hide (HF14.out.trans hF)
  have HO15 := hide (HO14.out.frm0 hF)
  have HRW15 := hide (HRW14.out.frm hF (fun _ _ e => e))
  clear HRW14
  clear hF0 HR5' HR6
  clear hF HF14 HO14
  go_wp2_with fail
  refine (sameBytes_eq HO15.out.by_ (HB.out.frm0 HF15.out)).mono ?_
  rintro e w16 ⟨rfl, hF0⟩
  have hF : Frm NoB w15 w16 := hF0
  have HF16 := hide (HF15.out.trans hF)
  have HO16 := hide (HO15.out.frm0 hF)
  have HRW16 := hide (HRW15.out.frm hF (fun _ _ e => e))
  clear HRW15
  clear hF0
  clear hF HF15 HO15
  go_wp2_with fail
  refine (sameWords_eq' l.length l rfl A2 A c2 c _ HRW16.out (HL.out.r.frm HF16.out (fun _ _ e => e)) (by have := HLL.out; omega)).mono ?_
  rintro e w17 ⟨rfl, hF0⟩
  have hF : Frm NoB w16 w17 := hF0
  have HF17 := hide (HF16.out.trans hF)
  have HO17 := hide (HO16.out.frm0 hF)
  have HRW17 := hide (HRW16.out.frm hF (fun _ _ e => e))
  clear HRW16
  clear hF0
  clear hF HF16 HO16
  clear HRW17
  go_wp2_with fail
  refine (buint_is n HNN.out HO17.out (by have := HBL.out; omega) HF17.out.size).mono ?_
  rintro e w18 ⟨u1, rfl, hG⟩
  have HF18 := hide (hG.below HO17.out HF17.out (Nat.le_refl _))
  have HO18 := hide (hG.old HO17.out)
  have HU18 := hide hG.o
  clear hG HF17 HO17
  go_wp2_with fail
  refine (refUint_is n HNN.out (HB.out.frm0 HF18.out) (by have := HBL.out; omega)).mono ?_
  rintro e w19 ⟨r1, rfl, hG⟩
  have hF : Frm NoB w18 w19 := hG.new
  have HF19 := hide (HF18.out.trans hF)
  have HO19 := hide (HO18.out.frm0 hF)
  have HR18 := hide hG.o.by_
  have HX18 := hide (HU18.out.frm0 hG.new).by_
  clear hG HU18
  clear hF HF18 HO18
  go_wp2_with fail
  refine (sameBytes_eq HX18.out HR18.out).mono ?_
  rintro e w20 ⟨rfl, hF0⟩
  have hF : Frm NoB w19 w20 := hF0
  have HF20 := hide (HF19.out.trans hF)
  have HO20 := hide (HO19.out.frm0 hF)
  clear hF0 HX18 HR18
  clear hF HF19 HO19
  go_wp2_with fail
  have hw : 0 ≤ (n : Int) % 4294967296 ∧ (n : Int) % 4294967296 < 4294967296 := by omega
  have HW := hide hw
  clear hw
  refine (bword_is _ HW.out HO20.out (by have := HBL.out; omega) HF20.out.size).mono ?_
  rintro e w21 ⟨u2, rfl, hG⟩
  have HF21 := hide (hG.below HO20.out HF20.out (Nat.le_refl _))
  have HO21 := hide (hG.old HO20.out)
  have HU21 := hide hG.o
  clear hG HF20 HO20
  go_wp2_with fail
  refine (refWord_is _ HW.out (HB.out.frm0 HF21.out) (by have := HBL.out; omega)).mono ?_
  rintro e w22 ⟨r2, rfl, hG⟩
  have hF : Frm NoB w21 w22 := hG.new
  have HF22 := hide (HF21.out.trans hF)
  have HO22 := hide (HO21.out.frm0 hF)
  have HR21 := hide hG.o.by_
  have HX21 := hide (HU21.out.frm0 hG.new).by_
  clear hG HU21
  clear hF HF21 HO21
  go_wp2_with fail
  refine (sameBytes_eq HX21.out HR21.out).mono ?_
  rintro e w23 ⟨rfl, hF0⟩
  have hF : Frm NoB w22 w23 := hF0
  have HF23 := hide (HF22.out.trans hF)
  have HO23 := hide (HO22.out.frm0 hF)
  clear hF0 HX21 HR21
  clear hF HF22 HO22
  go_wp2_with fail
  refine (bblob_is HO23.out (HB.out.frm0 HF23.out) (fun hne kk h1 h2 => by have := HB.out.blt hne h1; have := (HO23.out.lo h2).1; omega) (by have := HBL.out; omega) HF23.out.size).mono ?_
  rintro e w24 ⟨u3, rfl, hG⟩
  have HF24 := hide (hG.below HO23.out HF23.out (Nat.le_refl _))
  have HO24 := hide (hG.old HO23.out)
  have HU24 := hide hG.o
  clear hG HF23 HO23
  go_wp2_with fail
  refine (refBlob_is' (HB.out.frm0 HF24.out) (HB.out.frm0 HF24.out) (by have := HBL.out; omega)).mono ?_
  rintro e w25 ⟨r3, rfl, hG⟩
  have hF : Frm NoB w24 w25 := hG.new
  have HF25 := hide (HF24.out.trans hF)
  have HO25 := hide (HO24.out.frm0 hF)
  have HR24 := hide hG.o.by_
  have HX24 := hide (HU24.out.frm0 hG.new).by_
  clear hG HU24
  clear hF HF24 HO24
  go_wp2_with fail
  refine (sameBytes_eq HX24.out HR24.out).mono ?_
  rintro e w26 ⟨rfl, hF0⟩
  have hF : Frm NoB w25 w26 := hF0
  have HF26 := hide (HF25.out.trans hF)
  have HO26 := hide (HO25.out.frm0 hF)
  clear hF0 HX24 HR24
  clear hF HF25 HO25
  go_wp2_with fail
  refine (awake8_is w26).mono ?_
  rintro e w99 ⟨rfl, hF⟩
  have HF99 := hide (HF26.out.trans hF)
  clear hF
  go_wp2
  go_ret
  exact ⟨rfl, HF99.out⟩
theorem bytesTells_is' (w : World) (n : Int) (hn : 0 ≤ n ∧ n ≤ 18446744073709551615) (v : Value) (b : List Int) (hb : By w v b) (at_ : Int) (hat : -9223372036854775808 ≤ at_ ∧ at_ ≤ 9223372036854775807) (many : Int) (hmany : -9223372036854775808 ≤ many ∧ many ≤ 9223372036854775807)
    (A : Option Addr) (c : Nat) (l : List Int) (hl : RowArg w w.heap.size A c l) :
    Calls Try.prog 6 #[.int .u64 n, v, .int .i64 at_, .int .i64 many, .slice A l.length c] w fun e w' => e = .returned (.bool true) ∧ Frm NoB w w' := by
  obtain ⟨m, rfl⟩ := Int.eq_ofNat_of_zero_le hn.1
  exact bytesTells_is w m (by omega) v b hb at_ hat many hmany A c l hl
end Go.Proofs.Ytdhcgghdimkdbaa
