/-
  What is written down, and cut off anywhere, is not read: the walk.
-/
import Derived.Test.YtdhcgghdimkdbaaBl4
namespace Go.Proofs.Ytdhcgghdimkdbaa
open Go.RowKit
theorem drop_zero' {l : List Int} : l.drop (0 : Int).toNat = l := rfl
theorem cut_word {n : Int} {k : Nat} (h : k < 4) : wE ((wb n).take k) 0 = 10 := by
  have hl : ((wb n).take k).length = k := by rw [List.length_take, wb_length]; omega
  unfold wE
  rw [hl, if_pos (by omega), if_pos (by omega)]
theorem cut_uint {n k : Nat} (hn : n < 18446744073709551616) (h : k < (uv n).length) : gE ((uv n).take k) 0 = 10 := by
  unfold gE
  rw [if_pos (by omega), drop_zero', gu_cut hn h]
theorem cut_blob {b : List Int} {k : Nat} (hb : b.length < 18446744073709551616) (h : k < (uv b.length ++ b).length) : bE ((uv b.length ++ b).take k) 0 (b.length : Int) = 10 := by
  rw [List.length_append] at h
  have hl : ((uv b.length ++ b).take k).length = k := by rw [List.length_take, List.length_append]; omega
  rcases Nat.lt_or_ge k (uv b.length).length with h1 | h1
  · have e : (uv b.length ++ b).take k = (uv b.length).take k := List.take_append_of_le_length (by omega)
    have hg := cut_uint hb h1
    unfold bE
    rw [e, hg, if_neg (by decide)]
  · have e : (uv b.length ++ b).take k = uv b.length ++ b.take (k - (uv b.length).length) := by
      rw [List.take_append, List.take_of_length_le h1]
    obtain ⟨g1, g2, g3⟩ := reads_uint (X := uv b.length ++ b.take (k - (uv b.length).length)) (a := 0) (r := b.take (k - (uv b.length).length)) hb (by omega) rfl
    have hl2 := hl
    rw [e] at hl2
    have g1 : gE (uv b.length ++ b.take (k - (uv b.length).length)) 0 = 0 := g1
    have g2 : gN (uv b.length ++ b.take (k - (uv b.length).length)) 0 = b.length := g2
    have g3 : gX (uv b.length ++ b.take (k - (uv b.length).length)) 0 = ((0 + (uv b.length).length : Nat) : Int) := g3
    unfold bE
    rw [e, if_pos g1, g2, g3, hl2, if_neg (by omega), if_pos (by omega)]
/-- a whole string, of so many bytes at most -/
theorem whole_blob {b : List Int} (hb : b.length < 18446744073709551616) (most : Int) : bE (uv b.length ++ b) 0 most = if most < b.length then 3 else 0 := by
  obtain ⟨g1, g2, g3⟩ := reads_uint (X := uv b.length ++ b) (a := 0) (r := b) hb (by omega) rfl
  have g1 : gE (uv b.length ++ b) 0 = 0 := g1
  have g2 : gN (uv b.length ++ b) 0 = b.length := g2
  have g3 : gX (uv b.length ++ b) 0 = ((0 + (uv b.length).length : Nat) : Int) := g3
  unfold bE
  rw [if_pos g1, g2, g3, List.length_append]
  split
  · rw [if_pos (by omega)]
  · rw [if_neg (by omega), if_neg (by omega)]
set_option maxRecDepth 100000 in
set_option maxHeartbeats 4000000 in
theorem bytesEnds_is (w : World) (p : PcS) (v : Value) (hp : PcIn w p v) (cut most : Int) (hc : 0 ≤ cut ∧ cut ≤ 65535) (hm : -9223372036854775808 ≤ most ∧ most ≤ 9223372036854775807) :
    Calls Try.prog 8 #[.agg #[.int .u8 p.kind, .int .u64 p.n, v], .int .u16 cut, .int .i64 most] w fun e w' => e = .returned (.bool true) ∧ Frm NoB w w' := by
  have HP := hide hp
  obtain ⟨A0, c0, rfl, -⟩ := hp.y
  obtain ⟨K, hK⟩ : ∃ K, p.kind = K := ⟨_, rfl⟩
  obtain ⟨N, hN⟩ : ∃ N, p.n = N := ⟨_, rfl⟩
  obtain ⟨b, hb⟩ : ∃ b, p.b = b := ⟨_, rfl⟩
  rw [hK, hN, hb]
  have HBy : Hid (By w (.slice A0 b.length c0) b) := by have h := hp.y; rw [hb] at h; exact h
  by_cases h1 : 100 < b.length
  · clear hK hN hb hp
    go_enter Try.func8, Try.ntmps8
    go_wp2_with fail
    refine (awake8_is _).mono ?_
    rintro e w1 ⟨rfl, hF⟩
    have HF := hide (((Frm.refl NoB w).alloc (.cells #[.int .u8 K, .int .u64 N, .slice A0 b.length c0] 54)).trans hF)
    go_wp2
    go_ret
    exact ⟨rfl, HF.out⟩
  have hok : p.Ok := hp.ok (by rw [hb]; omega)
  have hwl := PcS.wrt_len hok
  have hbl : b.length ≤ 100 := by omega
  obtain ⟨W0, hW0⟩ : ∃ W0, w.alloc (.cells #[.int .u8 K, .int .u64 N, .slice A0 b.length c0] 54) = W0 := ⟨_, rfl⟩
  have hs0 : W0.heap.size = w.heap.size + 1 := by rw [← hW0]; simp
  have hF0 : Frm NoB w W0 := by rw [← hW0]; exact (Frm.refl NoB w).alloc _
  have B0 : Blk W0 w.heap.size 54 #[.int .u8 K, .int .u64 N, .slice A0 b.length c0] := by rw [← hW0]; exact Blk.new _ _ _
  obtain ⟨W1, hW1⟩ : ∃ W1, W0.alloc (.cells #[.int .u8 K, .int .u64 N, .slice A0 b.length c0] 54) = W1 := ⟨_, rfl⟩
  have hs1 : W1.heap.size = w.heap.size + 2 := by rw [← hW1]; simp [hs0]
  have hF1 : Frm NoB w W1 := by rw [← hW1]; exact hF0.alloc _
  have B1 : Blk W1 w.heap.size 54 #[.int .u8 K, .int .u64 N, .slice A0 b.length c0] := by rw [← hW1]; exact B0.alloc _
  have B2 : Blk W1 (w.heap.size + 1) 54 #[.int .u8 K, .int .u64 N, .slice A0 b.length c0] := by rw [← hW1, ← hs0]; exact Blk.new _ _ _
  have PA : PcAt W1 (w.heap.size + 2) (w.heap.size + 1) 0 [p] := ⟨fun i hi => by
    obtain rfl : i = 0 := by simpa using hi
    refine ⟨.slice A0 b.length c0, HP.out.y.frm0 hF1 |> fun h => by rw [hb] at h; simpa [hb] using h, fun hne k hk => by have := HP.out.k hne k (by rw [hb]; exact hk); omega, ?_, ?_, ?_⟩
    · show W1.cell? ⟨w.heap.size + 1, 0 + 0 * 3, none⟩ = some (.int .u8 p.kind)
      rw [hK]; exact B2.cell 0
    · show W1.cell? ⟨w.heap.size + 1, 0 + 0 * 3 + 1, none⟩ = some (.int .u64 p.n)
      rw [hN]; exact B2.cell 1
    · exact B2.cell 2⟩
  have WRT := written_is (xs := []) (sv := .slice none 0 0) (B := w.heap.size + 2) (w.heap.size + 1) 0 1 1 (some ⟨w.heap.size + 1, 0, none⟩) [p] (fun _ => rfl) PA (fun _ => by omega) (fun q hq => by rcases List.mem_singleton.1 hq with rfl; exact hok) (Ob.nil _ _) (by omega) rfl (by simp)
  have hwa : wrtAll [p] = p.wrt := by unfold wrtAll; simp
  rw [List.nil_append, hwa] at WRT
  have HWRT := hide WRT
  have HW0 := hide hW0
  have HW1 := hide hW1
  have HF1 := hide hF1
  have HB1 := hide B1
  have HOK := hide hok
  have l0 := B0.cell 0
  have l1 := B0.cell 1
  have l2 := B0.cell 2
  clear WRT hW0 hW1 hF0 hF1 B0 B1 B2 PA hok hwa h1 hp
  go_enter Try.func8, Try.ntmps8
  go_wp2_with fail
  rw [HW0.out, HW1.out]
  refine HWRT.out.mono ?_
  rintro e w2 ⟨v2, rfl, hG⟩
  have hnw : Frm NoB W1 w2 := hG.new
  have HF2 := hide (HF1.out.trans hnw)
  have HV2 := hide hG.o.by_
  have HB2 := hide (HB1.out.frm hnw (fun e => e))
  clear hG hnw HWRT HB1 HF1 l0 l1 l2
  obtain ⟨A2, c2, rfl, -⟩ := HV2.out
  obtain ⟨L, hL⟩ : ∃ L, p.wrt.length = L := ⟨_, rfl⟩
  rw [hL] at HV2 hwl ⊢
  have HLL := hide hL
  obtain ⟨cu, rfl⟩ := Int.eq_ofNat_of_zero_le hc.1
  obtain ⟨k, hk⟩ : ∃ k : Nat, Int.tmod (cu : Int) (L : Int) = k := Int.eq_ofNat_of_zero_le (by rw [Int.tmod_eq_emod_of_nonneg (by omega)]; exact Int.emod_nonneg _ (by omega))
  have hkl : k < L := by
    have := Int.emod_lt_of_pos (cu : Int) (show 0 < (L : Int) by omega)
    rw [Int.tmod_eq_emod_of_nonneg (by omega)] at hk; omega
  have hl0 : ((L : Int) == 0) = false := by rw [beq_eq_false_iff_ne]; omega
  have HT : Hid (By w2 (.slice A2 k c2) (p.wrt.take k)) := hide (HV2.out.take (by rw [HLL.out]; omega))
  have hkc : k ≤ c2 := by obtain ⟨A', c', e, -, -, h4, -, -⟩ := HT.out; injection e with e1 e2 e3; subst e3; rw [List.length_take, HLL.out] at h4; omega
  have hL110 := hwl.2
  have hcu : cu ≤ 65535 := by omega
  clear hL hc hwl
  have j0 := HB2.out.cell 0
  have j2 := HB2.out.cell 2
  by_cases e1 : K = 1
  · subst e1
    have hw : p.wrt = wb ((N : Int) % 4294967296) := by unfold PcS.wrt; rw [hK, hN, if_pos rfl]
    have hL4 : k < 4 := by have := HLL.out; rw [hw, wb_length] at this; omega
    have GW := getWord_is HT.out 0 (by rw [List.length_take, HLL.out]; omega)
    rw [hw] at GW
    have g1 := cut_word (n := (N : Int) % 4294967296) hL4
    have g2 : wN ((wb ((N : Int) % 4294967296)).take k) 0 = 0 := by unfold wN; rw [g1]; rfl
    have g3 : wX ((wb ((N : Int) % 4294967296)).take k) 0 = 0 := by unfold wX; rw [g1]; rfl
    rw [g1, g2, g3] at GW
    have HGW := hide GW
    clear GW g1 g2 g3 hw
    go_wp2_with fail
    refine HGW.out.mono ?_
    rintro e w3 ⟨rfl, q, rfl⟩
    have HF3 := hide (HF2.out.drewN q)
    have HB3 := hide (Blk.drewN HB2.out q)
    generalize w2.drewN q = w3 at *
    clear HGW j0 j2
    have HFn : Hid (Frm NoB w w3) := HF3.out
    have HYn := hide (HBy.out.frm0 HFn.out)
    have HBn : Hid (Blk w3 w.heap.size 54 #[.int .u8 1, .int .u64 N, .slice A0 b.length c0]) := HB3.out
    have k2 := HBn.out.cell 2
    go_wp2_with fail
    refine (bblob_is (xs := []) (Ob.nil _ _) HYn.out (fun _ j _ e => by cases e) (by simp only [List.length_nil]; omega) (Nat.le_refl _)).mono ?_
    rintro e w4 ⟨v4, rfl, hG⟩
    rw [List.nil_append] at hG
    have HF4 := hide (HFn.out.trans hG.new)
    have HV4 := hide hG.o.by_
    have HB4 := hide (HBn.out.frm hG.new (fun e => e))
    clear hG k2
    go_wp2_with fail
    have GB := getBlob_is HV4.out 0 most (by have := uv_len_le b.length; rw [List.length_append]; omega) hm
    unfold GbPost at GB
    rw [whole_blob (by omega)] at GB
    have HGB := hide GB
    clear GB
    refine HGB.out.mono ?_
    rintro e w5 ⟨v5, rfl, hG⟩
    have HF5 := hide (HF4.out.trans hG.new)
    have HB5 := hide (HB4.out.frm hG.new (fun e => e))
    have k2 := HB5.out.cell 2
    clear hG
    by_cases hmost : most < b.length
    · rw [if_pos hmost]
      go_wp2_with fail
      refine (awake8_is _).mono ?_
      rintro e w6 ⟨rfl, hF⟩
      go_wp2
      go_ret
      exact ⟨ret_bool (by first | rfl | (simp; omega)), HF5.out.trans hF⟩
    · rw [if_neg hmost]
      go_wp2_with fail
      refine (awake8_is _).mono ?_
      rintro e w6 ⟨rfl, hF⟩
      go_wp2
      go_ret
      exact ⟨ret_bool (by first | rfl | (simp; omega)), HF5.out.trans hF⟩

  · by_cases e2 : K = 2
    · subst e2
      have hw : p.wrt = uv b.length ++ b := by unfold PcS.wrt; rw [hK, hb, if_neg (show ¬ (2 : Int) = 1 by decide), if_pos rfl]
      have GB := getBlob_is HT.out 0 (b.length : Int) (by rw [List.length_take, HLL.out]; omega) (by omega)
      unfold GbPost at GB
      have hkb : k < (uv b.length ++ b).length := by rw [← hw, HLL.out]; exact hkl
      rw [hw] at GB
      have g1 := cut_blob (b := b) (by omega) hkb
      have g2 : bX ((uv b.length ++ b).take k) 0 (b.length : Int) = 0 := by unfold bX; rw [g1]; rfl
      rw [g1, g2] at GB
      have HGB0 := hide GB
      clear GB g1 g2 hw hkb
      go_wp2_with fail
      refine HGB0.out.mono ?_
      rintro e w3 ⟨v3, rfl, hG⟩
      have HF3 := hide (HF2.out.trans hG.new)
      have HB3 := hide (HB2.out.frm hG.new (fun e => e))
      clear hG HGB0 j0 j2
      have HFn : Hid (Frm NoB w w3) := HF3.out
      have HYn := hide (HBy.out.frm0 HFn.out)
      have HBn : Hid (Blk w3 w.heap.size 54 #[.int .u8 2, .int .u64 N, .slice A0 b.length c0]) := HB3.out
      have k2 := HBn.out.cell 2
      go_wp2_with fail
      refine (bblob_is (xs := []) (Ob.nil _ _) HYn.out (fun _ j _ e => by cases e) (by simp only [List.length_nil]; omega) (Nat.le_refl _)).mono ?_
      rintro e w4 ⟨v4, rfl, hG⟩
      rw [List.nil_append] at hG
      have HF4 := hide (HFn.out.trans hG.new)
      have HV4 := hide hG.o.by_
      have HB4 := hide (HBn.out.frm hG.new (fun e => e))
      clear hG k2
      go_wp2_with fail
      have GB := getBlob_is HV4.out 0 most (by have := uv_len_le b.length; rw [List.length_append]; omega) hm
      unfold GbPost at GB
      rw [whole_blob (by omega)] at GB
      have HGB := hide GB
      clear GB
      refine HGB.out.mono ?_
      rintro e w5 ⟨v5, rfl, hG⟩
      have HF5 := hide (HF4.out.trans hG.new)
      have HB5 := hide (HB4.out.frm hG.new (fun e => e))
      have k2 := HB5.out.cell 2
      clear hG
      by_cases hmost : most < b.length
      · rw [if_pos hmost]
        go_wp2_with fail
        refine (awake8_is _).mono ?_
        rintro e w6 ⟨rfl, hF⟩
        go_wp2
        go_ret
        exact ⟨ret_bool (by first | rfl | (simp; omega)), HF5.out.trans hF⟩
      · rw [if_neg hmost]
        go_wp2_with fail
        refine (awake8_is _).mono ?_
        rintro e w6 ⟨rfl, hF⟩
        go_wp2
        go_ret
        exact ⟨ret_bool (by first | rfl | (simp; omega)), HF5.out.trans hF⟩

    · have b1 : (K == 1) = false := by rw [beq_eq_false_iff_ne]; exact e1
      have b2 : (K == 2) = false := by rw [beq_eq_false_iff_ne]; exact e2
      have hw : p.wrt = uv N := by unfold PcS.wrt; rw [hK, hN, if_neg e1, if_neg e2]
      have GU := getUint_is HT.out 0 (by rw [List.length_take, HLL.out]; omega)
      unfold GuPost at GU
      have hkb : k < (uv N).length := by rw [← hw, HLL.out]; exact hkl
      rw [hw] at GU
      have g1 := cut_uint (n := N) (by have := HP.out.n; rw [hN] at this; exact this) hkb
      have g2 : gN ((uv N).take k) 0 = 0 := by unfold gN; rw [g1]; rfl
      have g3 : gX ((uv N).take k) 0 = 0 := by unfold gX; rw [g1]; rfl
      rw [g1, g2, g3] at GU
      have HGU := hide GU
      clear GU g1 g2 g3 hw hkb e1 e2
      go_wp2_with fail
      refine HGU.out.mono ?_
      rintro e w3 ⟨rfl, rfl⟩
      clear HGU j0 j2
      have HFn : Hid (Frm NoB w w2) := HF2.out
      have HYn := hide (HBy.out.frm0 HFn.out)
      have HBn : Hid (Blk w2 w.heap.size 54 #[.int .u8 K, .int .u64 N, .slice A0 b.length c0]) := HB2.out
      have k2 := HBn.out.cell 2
      go_wp2_with fail
      refine (bblob_is (xs := []) (Ob.nil _ _) HYn.out (fun _ j _ e => by cases e) (by simp only [List.length_nil]; omega) (Nat.le_refl _)).mono ?_
      rintro e w4 ⟨v4, rfl, hG⟩
      rw [List.nil_append] at hG
      have HF4 := hide (HFn.out.trans hG.new)
      have HV4 := hide hG.o.by_
      have HB4 := hide (HBn.out.frm hG.new (fun e => e))
      clear hG k2
      go_wp2_with fail
      have GB := getBlob_is HV4.out 0 most (by have := uv_len_le b.length; rw [List.length_append]; omega) hm
      unfold GbPost at GB
      rw [whole_blob (by omega)] at GB
      have HGB := hide GB
      clear GB
      refine HGB.out.mono ?_
      rintro e w5 ⟨v5, rfl, hG⟩
      have HF5 := hide (HF4.out.trans hG.new)
      have HB5 := hide (HB4.out.frm hG.new (fun e => e))
      have k2 := HB5.out.cell 2
      clear hG
      by_cases hmost : most < b.length
      · rw [if_pos hmost]
        go_wp2_with fail
        refine (awake8_is _).mono ?_
        rintro e w6 ⟨rfl, hF⟩
        go_wp2
        go_ret
        exact ⟨ret_bool (by first | rfl | (simp; omega)), HF5.out.trans hF⟩
      · rw [if_neg hmost]
        go_wp2_with fail
        refine (awake8_is _).mono ?_
        rintro e w6 ⟨rfl, hF⟩
        go_wp2
        go_ret
        exact ⟨ret_bool (by first | rfl | (simp; omega)), HF5.out.trans hF⟩
end Go.Proofs.Ytdhcgghdimkdbaa
