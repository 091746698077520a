/-
  A number that is less is not written down longer: the walk.
-/
import Derived.Test.YtdhcgghdimkdbaaBl2
import Derived.Test.YtdhcgghdimkdbaaBytL
import Derived.Deep.RegionHeld3
namespace Go.Proofs.Ytdhcgghdimkdbaa
open Go.RowKit
theorem u8_toNat {x : Int} (hx : 0 ≤ x ∧ x < 256) : (UInt8.ofNat x.toNat).toNat = x.toNat := by
  simp only [UInt8.toNat_ofNat']
  omega
theorem ofNat_lt {x y : Int} (hx : 0 ≤ x ∧ x < 256) (hy : 0 ≤ y ∧ y < 256) : decide (UInt8.ofNat x.toNat < UInt8.ofNat y.toNat) = decide (x < y) := by
  rw [decide_eq_decide, UInt8.lt_iff_toNat_lt, u8_toNat hx, u8_toNat hy]
  omega
theorem ofNat_eq {x y : Int} (hx : 0 ≤ x ∧ x < 256) (hy : 0 ≤ y ∧ y < 256) : (UInt8.ofNat x.toNat == UInt8.ofNat y.toNat) = decide (x = y) := by
  by_cases e : x = y
  · subst e; simp
  · rw [decide_eq_false e, beq_eq_false_iff_ne]
    exact fun h => e (byte_inj hx hy h)
theorem less_wb {p q : Int} (hp : 0 ≤ p ∧ p < 4294967296) (hq : 0 ≤ q ∧ q < 4294967296) : Op.bytesLess (strOfNums (wb p)).toList (strOfNums (wb q)).toList = decide (p < q) := by
  rw [Lib.strOfNums_toList, Lib.strOfNums_toList]
  unfold Lib.bytesOf wb
  simp only [List.map_cons, List.map_nil, Op.bytesLess]
  rw [ofNat_lt (by omega) (by omega), ofNat_lt (by omega) (by omega), ofNat_lt (by omega) (by omega), ofNat_lt (by omega) (by omega), ofNat_eq (by omega) (by omega), ofNat_eq (by omega) (by omega), ofNat_eq (by omega) (by omega), ofNat_eq (by omega) (by omega)]
  rw [Bool.eq_iff_iff]
  simp only [Bool.or_eq_true, Bool.and_eq_true, decide_eq_true_eq, Bool.false_eq_true, and_false, or_false]
  omega
set_option maxRecDepth 100000 in
set_option maxHeartbeats 4000000 in
theorem bytesShorter_is (w : World) (n m : Nat) (hn : n < 18446744073709551616) (hm : m < 18446744073709551616) (va vb : Value) (a b : List Int) (ha : By w va a) (hb : By w vb b) :
    Calls Try.prog 3 #[.int .u64 n, .int .u64 m, va, vb] w fun e w' => e = .returned (.bool true) ∧ Frm NoB w w' := by
  have HA := hide ha
  have HB := hide hb
  obtain ⟨A0, c0, rfl, -⟩ := ha
  obtain ⟨A1, c1, rfl, -⟩ := hb
  by_cases h1 : 200 < a.length
  · go_enter Try.func3, Try.ntmps3
    go_wp2_with fail
    refine (awake8_is w).mono ?_
    rintro e w1 ⟨rfl, hF⟩
    go_wp2
    go_ret
    exact ⟨rfl, hF⟩
  by_cases h2 : 200 < b.length
  · go_enter Try.func3, Try.ntmps3
    go_wp2_with fail
    refine (awake8_is w).mono ?_
    rintro e w1 ⟨rfl, hF⟩
    go_wp2
    go_ret
    exact ⟨rfl, hF⟩
  obtain ⟨lo, hlo⟩ : ∃ lo, min n m = lo := ⟨_, rfl⟩
  obtain ⟨hi, hhi⟩ : ∃ hi, max n m = hi := ⟨_, rfl⟩
  have e1 : min (n : Int) (m : Int) = (lo : Int) := by omega
  have e2 : max (n : Int) (m : Int) = (hi : Int) := by omega
  have hlo2 : lo < 18446744073709551616 := by omega
  have hhi2 : hi < 18446744073709551616 := by omega
  have hlh : lo ≤ hi := by omega
  have LM := uv_mono hlh
  have L1 : 1 ≤ (uv lo).length := by rw [uv_length]; omega
  have L2 : (uv hi).length ≤ 10 := by rw [uv_length]; have := dg_le hi; omega
  have UL := hide (uv_u8 hlo2)
  have UH := hide (uv_u8 hhi2)
  obtain ⟨bb, hbb⟩ : ∃ bb, ((n : Int) == (m : Int)) = bb := ⟨_, rfl⟩
  have SQ : Hid (((strOfNums (uv lo)).toList == (strOfNums (uv hi)).toList) = bb) := by
    show _ = _
    rw [str_eq UL.out UH.out, ← hbb]
    by_cases e : n = m
    · have : lo = hi := by omega
      subst e this
      simp
    · have h3 : ¬ uv lo = uv hi := fun h => by have := (uv_inj hlo2 hhi2).1 h; omega
      rw [decide_eq_false h3]
      symm
      rw [beq_eq_false_iff_ne]; omega
  have WN : Hid (0 ≤ (n : Int) % 4294967296 ∧ (n : Int) % 4294967296 < 4294967296) := hide (by omega)
  have WM : Hid (0 ≤ (m : Int) % 4294967296 ∧ (m : Int) % 4294967296 < 4294967296) := hide (by omega)
  have LT := less_wb WN.out WM.out
  have UA := hide HA.out.u
  have UB := hide HB.out.u
  obtain ⟨bc, hbc⟩ : ∃ bc, decide (a = b) = bc := ⟨_, rfl⟩
  have F1 : ((strOfNums a).toList == (strOfNums b).toList) = bc := by rw [str_eq UA.out UB.out, hbc]
  have F2 : ((strOfNums (uv a.length ++ a)).toList == (strOfNums (uv b.length ++ b)).toList) = bc := by
    rw [str_eq ((uv_u8 (by omega)).append UA.out) ((uv_u8 (by omega)).append UB.out), ← hbc, decide_eq_decide]
    exact blob_inj (by omega) (by omega)
  have HLO := hide hlo2
  have HHI := hide hhi2
  clear hlo hhi hlo2 hhi2 hlh hbc
  go_enter Try.func3, Try.ntmps3
  go_wp2_with fail
  refine (buint_is lo HLO.out (Ob.nil w w.heap.size) (by simp) (Nat.le_refl _)).mono ?_
  rintro e w1 ⟨v1, rfl, hG⟩
  rw [List.nil_append] at hG
  have HF1 := hide hG.new
  have HV1 := hide hG.o.by_
  clear hG
  obtain ⟨B1, d1, rfl, -⟩ := HV1.out
  go_wp2_with fail
  refine (buint_is hi HHI.out (Ob.nil w1 w1.heap.size) (by simp) (Nat.le_refl _)).mono ?_
  rintro e w2 ⟨v2, rfl, hG⟩
  rw [List.nil_append] at hG
  have HF2 := hide (HF1.out.trans hG.new)
  have HV2 := hide hG.o.by_
  have HV12 := hide (HV1.out.frm0 hG.new)
  clear hG HF1 HV1
  obtain ⟨B2, d2, rfl, -⟩ := HV2.out
  go_wp2_with fail
  refine (bword_is _ WN.out (Ob.nil w2 w2.heap.size) (by simp) (Nat.le_refl _)).mono ?_
  rintro e w3 ⟨v3, rfl, hG⟩
  rw [List.nil_append] at hG
  have HF3 := hide (HF2.out.trans hG.new)
  have HV3 := hide hG.o.by_
  have HV13 := hide (HV12.out.frm0 hG.new)
  have HV23 := hide (HV2.out.frm0 hG.new)
  clear hG HF2 HV2 HV12
  obtain ⟨B3, d3, rfl, -⟩ := HV3.out
  go_wp2_with fail
  refine (bword_is _ WM.out (Ob.nil w3 w3.heap.size) (by simp) (Nat.le_refl _)).mono ?_
  rintro e w4 ⟨v4, rfl, hG⟩
  rw [List.nil_append] at hG
  have HF4 := hide (HF3.out.trans hG.new)
  have HV4 := hide hG.o.by_
  have s1 := (HV13.out.frm0 hG.new).string
  have s2 := (HV23.out.frm0 hG.new).string
  have s3 := (HV3.out.frm0 hG.new).string
  have s4 := hG.o.by_.string
  clear hG HF3 HV3 HV13 HV23
  obtain ⟨B4, d4, rfl, -⟩ := HV4.out
  simp only [wb_length] at s3 s4 ⊢
  have sq := SQ.out
  have L3 : 1 ≤ ((uv lo).length : Int) := by omega
  generalize uv lo = x at *
  generalize uv hi = y at *
  have HAB : Hid (∀ W, Frm NoB w4 W → Calls Try.prog 12 #[.slice none 0 0, .slice A0 a.length c0] W (GrewPost W W.heap.size (.slice none 0 0) (uv a.length ++ a))) := fun W hf =>
    bblob_is (xs := []) (Ob.nil W W.heap.size) ((HA.out.frm0 HF4.out).frm0 hf) (fun _ k _ e => by cases e) (by simp only [List.length_nil]; omega) (Nat.le_refl _)
  have HBB : Hid (∀ W, Frm NoB w4 W → Calls Try.prog 12 #[.slice none 0 0, .slice A1 b.length c1] W (GrewPost W W.heap.size (.slice none 0 0) (uv b.length ++ b))) := fun W hf =>
    bblob_is (xs := []) (Ob.nil W W.heap.size) ((HB.out.frm0 HF4.out).frm0 hf) (fun _ k _ e => by cases e) (by simp only [List.length_nil]; omega) (Nat.le_refl _)
  generalize uv a.length ++ a = za at *
  generalize uv b.length ++ b = zb at *
  have CA : Hid (∀ W, Frm NoB w4 W → (convert 23 9 (.slice A0 a.length c0)).run Try.prog W = .ok (.string (strOfNums a)) W) := fun W hf => ((HA.out.frm0 HF4.out).frm0 hf).string
  have CB : Hid (∀ W, Frm NoB w4 W → (convert 23 9 (.slice A1 b.length c1)).run Try.prog W = .ok (.string (strOfNums b)) W) := fun W hf => ((HB.out.frm0 HF4.out).frm0 hf).string
  cases bb
  · go_wp2_with fail
    clear s1 s2 s3 s4 LT sq L1 L2 L3 LM hbb
    have hD : Frm NoB w4 w4.drew := (Frm.refl NoB w4).drew
    have S4 := hide (And.intro (CA.out _ hD) (CB.out _ hD))
    refine wp_region_held (S := fun w' => (convert 23 9 (.slice A0 a.length c0)).run Try.prog w' = .ok (.string (strOfNums a)) w' ∧ (convert 23 9 (.slice A1 b.length c1)).run Try.prog w' = .ok (.string (strOfNums b)) w') (by kernel_rfl) ?_
    show wpAnyH _ _ _ _ _ 17 _ _ w4.drew
    refine wpAnyH_take (i := 0) (v := ?v1) rfl (by kernel_rfl) (by kernel_rfl) (by kernel_rfl) (fun c a w h => h) (.inl ⟨by rfl, fun w0 hS => ?y1⟩) S4.out ?n1
    case y1 =>
      obtain ⟨s1, s2⟩ := hS
      go_simp
      try with_reducible rfl
    try simp only [Act.put, List.getElem_toArray, List.getElem_cons_zero, List.getElem_cons_succ, List.setIfInBounds_toArray, List.set_cons_zero, List.set_cons_succ]
    refine wpAnyH_take (i := 3) (v := ?v2) rfl (by kernel_rfl) (by kernel_rfl) (by kernel_rfl) (fun c a w h => h) (.inl ⟨by rfl, fun w0 hS => ?y2⟩) S4.out ?n2
    case y2 =>
      obtain ⟨s1, s2⟩ := hS
      go_simp
      try with_reducible rfl
    try simp only [Act.put, List.getElem_toArray, List.getElem_cons_zero, List.getElem_cons_succ, List.setIfInBounds_toArray, List.set_cons_zero, List.set_cons_succ]
    refine wpAnyH_take (i := 7) (v := ?v3) rfl (by kernel_rfl) (by kernel_rfl) (by kernel_rfl) (fun c a w h => h) (.inl ⟨by rfl, fun w0 hS => ?y3⟩) S4.out ?n3
    case y3 =>
      obtain ⟨s1, s2⟩ := hS
      go_simp
      try with_reducible rfl
    try simp only [Act.put, List.getElem_toArray, List.getElem_cons_zero, List.getElem_cons_succ, List.setIfInBounds_toArray, List.set_cons_zero, List.set_cons_succ]
    refine wpAnyH_take (i := 9) (v := ?v4) rfl (by kernel_rfl) (by kernel_rfl) (by kernel_rfl) (fun c a w h => h) (.inl ⟨by rfl, fun w0 hS => ?y4⟩) S4.out ?n4
    case y4 =>
      obtain ⟨s1, s2⟩ := hS
      go_simp
      try with_reducible rfl
    try simp only [Act.put, List.getElem_toArray, List.getElem_cons_zero, List.getElem_cons_succ, List.setIfInBounds_toArray, List.set_cons_zero, List.set_cons_succ]
    refine wpAnyH_take (i := 8) (v := ?v5) rfl (by kernel_rfl) (by kernel_rfl) (by kernel_rfl) (fun c a w h => h) (.inl ⟨by rfl, fun w0 hS => ?y5⟩) S4.out ?n5
    case y5 =>
      obtain ⟨s1, s2⟩ := hS
      go_simp
      try with_reducible rfl
    try simp only [Act.put, List.getElem_toArray, List.getElem_cons_zero, List.getElem_cons_succ, List.setIfInBounds_toArray, List.set_cons_zero, List.set_cons_succ]
    refine wpAnyH_take (i := 10) (v := ?v6) rfl (by kernel_rfl) (by kernel_rfl) (by kernel_rfl) (fun c a w h => h) (.inl ⟨by rfl, fun w0 hS => ?y6⟩) S4.out ?n6
    case y6 =>
      obtain ⟨s1, s2⟩ := hS
      go_simp
      try with_reducible rfl
    try simp only [Act.put, List.getElem_toArray, List.getElem_cons_zero, List.getElem_cons_succ, List.setIfInBounds_toArray, List.set_cons_zero, List.set_cons_succ]
    refine wpAnyH_take (i := 11) (v := ?v7) rfl (by kernel_rfl) (by kernel_rfl) (by kernel_rfl) (fun c a w h => h) (.inl ⟨by rfl, fun w0 hS => ?y7⟩) S4.out ?n7
    case y7 =>
      obtain ⟨s1, s2⟩ := hS
      go_simp
      try with_reducible rfl
    try simp only [Act.put, List.getElem_toArray, List.getElem_cons_zero, List.getElem_cons_succ, List.setIfInBounds_toArray, List.set_cons_zero, List.set_cons_succ]
    refine wpAnyH_all (rs := [1]) (by kernel_rfl) (by simp) (fun i hi2 => ?_)
    obtain rfl : i = 1 := by simpa using hi2
    unfold wpOp
    simp only [List.getElem?_toArray, List.getElem?_cons_zero, List.getElem?_cons_succ]
    rw [if_pos (by rfl)]
    refine .inl ?_
    go_simp
    go_at_call 12
    refine (HAB.out _ hD).mono ?_
    rintro e w5 ⟨v5, rfl, hG5⟩
    have hF5 : Frm NoB w4 w5 := hD.trans hG5.new
    have q5 := hG5.o.by_.string
    have S5 := hide (And.intro (CA.out _ hF5) (CB.out _ hF5))
    have HG5 := hide hG5
    clear hG5
    refine ⟨S5.out, ?_⟩
    try simp only [Act.put, List.getElem_toArray, List.getElem_cons_zero, List.getElem_cons_succ, List.setIfInBounds_toArray, List.set_cons_zero, List.set_cons_succ]
    refine wpAnyH_all (rs := [2, 4]) (by kernel_rfl) (by simp) (fun i hi2 => ?_)
    have hi3 : i = 2 ∨ i = 4 := by simpa using hi2
    rcases hi3 with rfl | rfl
    · unfold wpOp
      simp only [List.getElem?_toArray, List.getElem?_cons_zero, List.getElem?_cons_succ]
      rw [if_pos (by rfl)]
      refine .inl ?_
      go_simp
      refine ⟨S5.out, ?_⟩
      try simp only [Act.put, List.getElem_toArray, List.getElem_cons_zero, List.getElem_cons_succ, List.setIfInBounds_toArray, List.set_cons_zero, List.set_cons_succ]
      refine wpAnyH_all (rs := [4]) (by kernel_rfl) (by simp) (fun i hi2 => ?_)
      obtain rfl : i = 4 := by simpa using hi2
      unfold wpOp
      simp only [List.getElem?_toArray, List.getElem?_cons_zero, List.getElem?_cons_succ]
      rw [if_pos (by rfl)]
      refine .inl ?_
      go_simp
      go_at_call 12
      refine (HBB.out _ hF5).mono ?_
      rintro e w6 ⟨v6, rfl, hG6⟩
      have hF6 : Frm NoB w4 w6 := hF5.trans hG6.new
      have q6 := hG6.o.by_.string
      have p5 := (HG5.out.o.by_.frm0 hG6.new).string
      have S6 := hide (And.intro (CA.out _ hF6) (CB.out _ hF6))
      clear hG6
      refine ⟨S6.out, ?_⟩
      try simp only [Act.put, List.getElem_toArray, List.getElem_cons_zero, List.getElem_cons_succ, List.setIfInBounds_toArray, List.set_cons_zero, List.set_cons_succ]
      refine wpAnyH_all (rs := [5]) (by kernel_rfl) (by simp) (fun i hi2 => ?_)
      obtain rfl : i = 5 := by simpa using hi2
      unfold wpOp
      simp only [List.getElem?_toArray, List.getElem?_cons_zero, List.getElem?_cons_succ]
      rw [if_pos (by rfl)]
      refine .inl ?_
      go_simp
      refine ⟨S6.out, ?_⟩
      try simp only [Act.put, List.getElem_toArray, List.getElem_cons_zero, List.getElem_cons_succ, List.setIfInBounds_toArray, List.set_cons_zero, List.set_cons_succ]
      refine wpAnyH_take (i := 6) (v := ?v8) rfl (by kernel_rfl) (by kernel_rfl) (by kernel_rfl) (fun c a w h => h) (.inl ⟨by rfl, fun w0 hS => ?y8⟩) S6.out ?n8
      case y8 =>
        obtain ⟨s1, s2⟩ := hS
        go_simp
        try with_reducible rfl
      try simp only [Act.put, List.getElem_toArray, List.getElem_cons_zero, List.getElem_cons_succ, List.setIfInBounds_toArray, List.set_cons_zero, List.set_cons_succ]
      refine wpAnyH_take (i := 12) (v := ?v9) rfl (by kernel_rfl) (by kernel_rfl) (by kernel_rfl) (fun c a w h => h) (.inl ⟨by rfl, fun w0 hS => ?y9⟩) S6.out ?n9
      case y9 =>
        obtain ⟨s1, s2⟩ := hS
        go_simp
        try with_reducible rfl
      try simp only [Act.put, List.getElem_toArray, List.getElem_cons_zero, List.getElem_cons_succ, List.setIfInBounds_toArray, List.set_cons_zero, List.set_cons_succ]
      refine wpAnyH_take (i := 13) (v := ?v10) rfl (by kernel_rfl) (by kernel_rfl) (by kernel_rfl) (fun c a w h => h) (.inl ⟨by rfl, fun w0 hS => ?y10⟩) S6.out ?n10
      case y10 =>
        obtain ⟨s1, s2⟩ := hS
        go_simp
        try with_reducible rfl
      try simp only [Act.put, List.getElem_toArray, List.getElem_cons_zero, List.getElem_cons_succ, List.setIfInBounds_toArray, List.set_cons_zero, List.set_cons_succ]
      refine wpAnyH_all (rs := [14]) (by kernel_rfl) (by simp) (fun i hi2 => ?_)
      obtain rfl : i = 14 := by simpa using hi2
      unfold wpOp
      simp only [List.getElem?_toArray, List.getElem?_cons_zero, List.getElem?_cons_succ]
      rw [if_pos (by rfl)]
      refine .inl ?_
      go_simp
      go_at_call 9
      refine (awake8_is _).mono ?_
      rintro e w7 ⟨rfl, hF7⟩
      have hF8 : Frm NoB w4 w7 := hF6.trans hF7
      have S7 := hide (And.intro (CA.out _ hF8) (CB.out _ hF8))
      refine ⟨S7.out, ?_⟩
      try simp only [Act.put, List.getElem_toArray, List.getElem_cons_zero, List.getElem_cons_succ, List.setIfInBounds_toArray, List.set_cons_zero, List.set_cons_succ]
      refine wpAnyH_take (i := 15) (v := ?v11) rfl (by kernel_rfl) (by kernel_rfl) (by kernel_rfl) (fun c a w h => h) (.inl ⟨by rfl, fun w0 hS => ?y11⟩) S7.out ?n11
      case y11 =>
        obtain ⟨s1, s2⟩ := hS
        go_simp
        try with_reducible rfl
      try simp only [Act.put, List.getElem_toArray, List.getElem_cons_zero, List.getElem_cons_succ, List.setIfInBounds_toArray, List.set_cons_zero, List.set_cons_succ]
      refine wpAnyH_take (i := 16) (v := ?v12) rfl (by kernel_rfl) (by kernel_rfl) (by kernel_rfl) (fun c a w h => h) (.inl ⟨by rfl, fun w0 hS => ?y12⟩) S7.out ?n12
      case y12 =>
        obtain ⟨s1, s2⟩ := hS
        go_simp
        try with_reducible rfl
      try simp only [Act.put, List.getElem_toArray, List.getElem_cons_zero, List.getElem_cons_succ, List.setIfInBounds_toArray, List.set_cons_zero, List.set_cons_succ]
      refine wpAnyH_done (by kernel_rfl) ?_ _
      go_wp2
      go_ret
      exact ⟨rfl, HF4.out.trans hF8⟩
    · unfold wpOp
      simp only [List.getElem?_toArray, List.getElem?_cons_zero, List.getElem?_cons_succ]
      rw [if_pos (by rfl)]
      refine .inl ?_
      go_simp
      go_at_call 12
      refine (HBB.out _ hF5).mono ?_
      rintro e w6 ⟨v6, rfl, hG6⟩
      have hF6 : Frm NoB w4 w6 := hF5.trans hG6.new
      have q6 := hG6.o.by_.string
      have p5 := (HG5.out.o.by_.frm0 hG6.new).string
      have S6 := hide (And.intro (CA.out _ hF6) (CB.out _ hF6))
      clear hG6
      refine ⟨S6.out, ?_⟩
      try simp only [Act.put, List.getElem_toArray, List.getElem_cons_zero, List.getElem_cons_succ, List.setIfInBounds_toArray, List.set_cons_zero, List.set_cons_succ]
      refine wpAnyH_all (rs := [2, 5]) (by kernel_rfl) (by simp) (fun i hi2 => ?_)
      have hi3 : i = 2 ∨ i = 5 := by simpa using hi2
      rcases hi3 with rfl | rfl
      · unfold wpOp
        simp only [List.getElem?_toArray, List.getElem?_cons_zero, List.getElem?_cons_succ]
        rw [if_pos (by rfl)]
        refine .inl ?_
        go_simp
        refine ⟨S6.out, ?_⟩
        try simp only [Act.put, List.getElem_toArray, List.getElem_cons_zero, List.getElem_cons_succ, List.setIfInBounds_toArray, List.set_cons_zero, List.set_cons_succ]
        refine wpAnyH_all (rs := [5]) (by kernel_rfl) (by simp) (fun i hi2 => ?_)
        obtain rfl : i = 5 := by simpa using hi2
        unfold wpOp
        simp only [List.getElem?_toArray, List.getElem?_cons_zero, List.getElem?_cons_succ]
        rw [if_pos (by rfl)]
        refine .inl ?_
        go_simp
        refine ⟨S6.out, ?_⟩
        try simp only [Act.put, List.getElem_toArray, List.getElem_cons_zero, List.getElem_cons_succ, List.setIfInBounds_toArray, List.set_cons_zero, List.set_cons_succ]
        refine wpAnyH_take (i := 6) (v := ?v13) rfl (by kernel_rfl) (by kernel_rfl) (by kernel_rfl) (fun c a w h => h) (.inl ⟨by rfl, fun w0 hS => ?y13⟩) S6.out ?n13
        case y13 =>
          obtain ⟨s1, s2⟩ := hS
          go_simp
          try with_reducible rfl
        try simp only [Act.put, List.getElem_toArray, List.getElem_cons_zero, List.getElem_cons_succ, List.setIfInBounds_toArray, List.set_cons_zero, List.set_cons_succ]
        refine wpAnyH_take (i := 12) (v := ?v14) rfl (by kernel_rfl) (by kernel_rfl) (by kernel_rfl) (fun c a w h => h) (.inl ⟨by rfl, fun w0 hS => ?y14⟩) S6.out ?n14
        case y14 =>
          obtain ⟨s1, s2⟩ := hS
          go_simp
          try with_reducible rfl
        try simp only [Act.put, List.getElem_toArray, List.getElem_cons_zero, List.getElem_cons_succ, List.setIfInBounds_toArray, List.set_cons_zero, List.set_cons_succ]
        refine wpAnyH_take (i := 13) (v := ?v15) rfl (by kernel_rfl) (by kernel_rfl) (by kernel_rfl) (fun c a w h => h) (.inl ⟨by rfl, fun w0 hS => ?y15⟩) S6.out ?n15
        case y15 =>
          obtain ⟨s1, s2⟩ := hS
          go_simp
          try with_reducible rfl
        try simp only [Act.put, List.getElem_toArray, List.getElem_cons_zero, List.getElem_cons_succ, List.setIfInBounds_toArray, List.set_cons_zero, List.set_cons_succ]
        refine wpAnyH_all (rs := [14]) (by kernel_rfl) (by simp) (fun i hi2 => ?_)
        obtain rfl : i = 14 := by simpa using hi2
        unfold wpOp
        simp only [List.getElem?_toArray, List.getElem?_cons_zero, List.getElem?_cons_succ]
        rw [if_pos (by rfl)]
        refine .inl ?_
        go_simp
        go_at_call 9
        refine (awake8_is _).mono ?_
        rintro e w7 ⟨rfl, hF7⟩
        have hF8 : Frm NoB w4 w7 := hF6.trans hF7
        have S7 := hide (And.intro (CA.out _ hF8) (CB.out _ hF8))
        refine ⟨S7.out, ?_⟩
        try simp only [Act.put, List.getElem_toArray, List.getElem_cons_zero, List.getElem_cons_succ, List.setIfInBounds_toArray, List.set_cons_zero, List.set_cons_succ]
        refine wpAnyH_take (i := 15) (v := ?v16) rfl (by kernel_rfl) (by kernel_rfl) (by kernel_rfl) (fun c a w h => h) (.inl ⟨by rfl, fun w0 hS => ?y16⟩) S7.out ?n16
        case y16 =>
          obtain ⟨s1, s2⟩ := hS
          go_simp
          try with_reducible rfl
        try simp only [Act.put, List.getElem_toArray, List.getElem_cons_zero, List.getElem_cons_succ, List.setIfInBounds_toArray, List.set_cons_zero, List.set_cons_succ]
        refine wpAnyH_take (i := 16) (v := ?v17) rfl (by kernel_rfl) (by kernel_rfl) (by kernel_rfl) (fun c a w h => h) (.inl ⟨by rfl, fun w0 hS => ?y17⟩) S7.out ?n17
        case y17 =>
          obtain ⟨s1, s2⟩ := hS
          go_simp
          try with_reducible rfl
        try simp only [Act.put, List.getElem_toArray, List.getElem_cons_zero, List.getElem_cons_succ, List.setIfInBounds_toArray, List.set_cons_zero, List.set_cons_succ]
        refine wpAnyH_done (by kernel_rfl) ?_ _
        go_wp2
        go_ret
        exact ⟨rfl, HF4.out.trans hF8⟩
      · unfold wpOp
        simp only [List.getElem?_toArray, List.getElem?_cons_zero, List.getElem?_cons_succ]
        rw [if_pos (by rfl)]
        refine .inl ?_
        go_simp
        refine ⟨S6.out, ?_⟩
        try simp only [Act.put, List.getElem_toArray, List.getElem_cons_zero, List.getElem_cons_succ, List.setIfInBounds_toArray, List.set_cons_zero, List.set_cons_succ]
        refine wpAnyH_all (rs := [2]) (by kernel_rfl) (by simp) (fun i hi2 => ?_)
        obtain rfl : i = 2 := by simpa using hi2
        unfold wpOp
        simp only [List.getElem?_toArray, List.getElem?_cons_zero, List.getElem?_cons_succ]
        rw [if_pos (by rfl)]
        refine .inl ?_
        go_simp
        refine ⟨S6.out, ?_⟩
        try simp only [Act.put, List.getElem_toArray, List.getElem_cons_zero, List.getElem_cons_succ, List.setIfInBounds_toArray, List.set_cons_zero, List.set_cons_succ]
        refine wpAnyH_take (i := 6) (v := ?v18) rfl (by kernel_rfl) (by kernel_rfl) (by kernel_rfl) (fun c a w h => h) (.inl ⟨by rfl, fun w0 hS => ?y18⟩) S6.out ?n18
        case y18 =>
          obtain ⟨s1, s2⟩ := hS
          go_simp
          try with_reducible rfl
        try simp only [Act.put, List.getElem_toArray, List.getElem_cons_zero, List.getElem_cons_succ, List.setIfInBounds_toArray, List.set_cons_zero, List.set_cons_succ]
        refine wpAnyH_take (i := 12) (v := ?v19) rfl (by kernel_rfl) (by kernel_rfl) (by kernel_rfl) (fun c a w h => h) (.inl ⟨by rfl, fun w0 hS => ?y19⟩) S6.out ?n19
        case y19 =>
          obtain ⟨s1, s2⟩ := hS
          go_simp
          try with_reducible rfl
        try simp only [Act.put, List.getElem_toArray, List.getElem_cons_zero, List.getElem_cons_succ, List.setIfInBounds_toArray, List.set_cons_zero, List.set_cons_succ]
        refine wpAnyH_take (i := 13) (v := ?v20) rfl (by kernel_rfl) (by kernel_rfl) (by kernel_rfl) (fun c a w h => h) (.inl ⟨by rfl, fun w0 hS => ?y20⟩) S6.out ?n20
        case y20 =>
          obtain ⟨s1, s2⟩ := hS
          go_simp
          try with_reducible rfl
        try simp only [Act.put, List.getElem_toArray, List.getElem_cons_zero, List.getElem_cons_succ, List.setIfInBounds_toArray, List.set_cons_zero, List.set_cons_succ]
        refine wpAnyH_all (rs := [14]) (by kernel_rfl) (by simp) (fun i hi2 => ?_)
        obtain rfl : i = 14 := by simpa using hi2
        unfold wpOp
        simp only [List.getElem?_toArray, List.getElem?_cons_zero, List.getElem?_cons_succ]
        rw [if_pos (by rfl)]
        refine .inl ?_
        go_simp
        go_at_call 9
        refine (awake8_is _).mono ?_
        rintro e w7 ⟨rfl, hF7⟩
        have hF8 : Frm NoB w4 w7 := hF6.trans hF7
        have S7 := hide (And.intro (CA.out _ hF8) (CB.out _ hF8))
        refine ⟨S7.out, ?_⟩
        try simp only [Act.put, List.getElem_toArray, List.getElem_cons_zero, List.getElem_cons_succ, List.setIfInBounds_toArray, List.set_cons_zero, List.set_cons_succ]
        refine wpAnyH_take (i := 15) (v := ?v21) rfl (by kernel_rfl) (by kernel_rfl) (by kernel_rfl) (fun c a w h => h) (.inl ⟨by rfl, fun w0 hS => ?y21⟩) S7.out ?n21
        case y21 =>
          obtain ⟨s1, s2⟩ := hS
          go_simp
          try with_reducible rfl
        try simp only [Act.put, List.getElem_toArray, List.getElem_cons_zero, List.getElem_cons_succ, List.setIfInBounds_toArray, List.set_cons_zero, List.set_cons_succ]
        refine wpAnyH_take (i := 16) (v := ?v22) rfl (by kernel_rfl) (by kernel_rfl) (by kernel_rfl) (fun c a w h => h) (.inl ⟨by rfl, fun w0 hS => ?y22⟩) S7.out ?n22
        case y22 =>
          obtain ⟨s1, s2⟩ := hS
          go_simp
          try with_reducible rfl
        try simp only [Act.put, List.getElem_toArray, List.getElem_cons_zero, List.getElem_cons_succ, List.setIfInBounds_toArray, List.set_cons_zero, List.set_cons_succ]
        refine wpAnyH_done (by kernel_rfl) ?_ _
        go_wp2
        go_ret
        exact ⟨rfl, HF4.out.trans hF8⟩
  · go_wp2_with fail
    clear s1 s2 s3 s4 LT sq L1 L2 L3 LM hbb
    have hD : Frm NoB w4 w4.drew := (Frm.refl NoB w4).drew
    have S4 := hide (And.intro (CA.out _ hD) (CB.out _ hD))
    refine wp_region_held (S := fun w' => (convert 23 9 (.slice A0 a.length c0)).run Try.prog w' = .ok (.string (strOfNums a)) w' ∧ (convert 23 9 (.slice A1 b.length c1)).run Try.prog w' = .ok (.string (strOfNums b)) w') (by kernel_rfl) ?_
    show wpAnyH _ _ _ _ _ 17 _ _ w4.drew
    refine wpAnyH_take (i := 0) (v := ?v23) rfl (by kernel_rfl) (by kernel_rfl) (by kernel_rfl) (fun c a w h => h) (.inl ⟨by rfl, fun w0 hS => ?y23⟩) S4.out ?n23
    case y23 =>
      obtain ⟨s1, s2⟩ := hS
      go_simp
      try with_reducible rfl
    try simp only [Act.put, List.getElem_toArray, List.getElem_cons_zero, List.getElem_cons_succ, List.setIfInBounds_toArray, List.set_cons_zero, List.set_cons_succ]
    refine wpAnyH_take (i := 3) (v := ?v24) rfl (by kernel_rfl) (by kernel_rfl) (by kernel_rfl) (fun c a w h => h) (.inl ⟨by rfl, fun w0 hS => ?y24⟩) S4.out ?n24
    case y24 =>
      obtain ⟨s1, s2⟩ := hS
      go_simp
      try with_reducible rfl
    try simp only [Act.put, List.getElem_toArray, List.getElem_cons_zero, List.getElem_cons_succ, List.setIfInBounds_toArray, List.set_cons_zero, List.set_cons_succ]
    refine wpAnyH_take (i := 7) (v := ?v25) rfl (by kernel_rfl) (by kernel_rfl) (by kernel_rfl) (fun c a w h => h) (.inl ⟨by rfl, fun w0 hS => ?y25⟩) S4.out ?n25
    case y25 =>
      obtain ⟨s1, s2⟩ := hS
      go_simp
      try with_reducible rfl
    try simp only [Act.put, List.getElem_toArray, List.getElem_cons_zero, List.getElem_cons_succ, List.setIfInBounds_toArray, List.set_cons_zero, List.set_cons_succ]
    refine wpAnyH_take (i := 9) (v := ?v26) rfl (by kernel_rfl) (by kernel_rfl) (by kernel_rfl) (fun c a w h => h) (.inl ⟨by rfl, fun w0 hS => ?y26⟩) S4.out ?n26
    case y26 =>
      obtain ⟨s1, s2⟩ := hS
      go_simp
      try with_reducible rfl
    try simp only [Act.put, List.getElem_toArray, List.getElem_cons_zero, List.getElem_cons_succ, List.setIfInBounds_toArray, List.set_cons_zero, List.set_cons_succ]
    refine wpAnyH_take (i := 8) (v := ?v27) rfl (by kernel_rfl) (by kernel_rfl) (by kernel_rfl) (fun c a w h => h) (.inl ⟨by rfl, fun w0 hS => ?y27⟩) S4.out ?n27
    case y27 =>
      obtain ⟨s1, s2⟩ := hS
      go_simp
      try with_reducible rfl
    try simp only [Act.put, List.getElem_toArray, List.getElem_cons_zero, List.getElem_cons_succ, List.setIfInBounds_toArray, List.set_cons_zero, List.set_cons_succ]
    refine wpAnyH_take (i := 10) (v := ?v28) rfl (by kernel_rfl) (by kernel_rfl) (by kernel_rfl) (fun c a w h => h) (.inl ⟨by rfl, fun w0 hS => ?y28⟩) S4.out ?n28
    case y28 =>
      obtain ⟨s1, s2⟩ := hS
      go_simp
      try with_reducible rfl
    try simp only [Act.put, List.getElem_toArray, List.getElem_cons_zero, List.getElem_cons_succ, List.setIfInBounds_toArray, List.set_cons_zero, List.set_cons_succ]
    refine wpAnyH_take (i := 11) (v := ?v29) rfl (by kernel_rfl) (by kernel_rfl) (by kernel_rfl) (fun c a w h => h) (.inl ⟨by rfl, fun w0 hS => ?y29⟩) S4.out ?n29
    case y29 =>
      obtain ⟨s1, s2⟩ := hS
      go_simp
      try with_reducible rfl
    try simp only [Act.put, List.getElem_toArray, List.getElem_cons_zero, List.getElem_cons_succ, List.setIfInBounds_toArray, List.set_cons_zero, List.set_cons_succ]
    refine wpAnyH_all (rs := [1]) (by kernel_rfl) (by simp) (fun i hi2 => ?_)
    obtain rfl : i = 1 := by simpa using hi2
    unfold wpOp
    simp only [List.getElem?_toArray, List.getElem?_cons_zero, List.getElem?_cons_succ]
    rw [if_pos (by rfl)]
    refine .inl ?_
    go_simp
    go_at_call 12
    refine (HAB.out _ hD).mono ?_
    rintro e w5 ⟨v5, rfl, hG5⟩
    have hF5 : Frm NoB w4 w5 := hD.trans hG5.new
    have q5 := hG5.o.by_.string
    have S5 := hide (And.intro (CA.out _ hF5) (CB.out _ hF5))
    have HG5 := hide hG5
    clear hG5
    refine ⟨S5.out, ?_⟩
    try simp only [Act.put, List.getElem_toArray, List.getElem_cons_zero, List.getElem_cons_succ, List.setIfInBounds_toArray, List.set_cons_zero, List.set_cons_succ]
    refine wpAnyH_all (rs := [2, 4]) (by kernel_rfl) (by simp) (fun i hi2 => ?_)
    have hi3 : i = 2 ∨ i = 4 := by simpa using hi2
    rcases hi3 with rfl | rfl
    · unfold wpOp
      simp only [List.getElem?_toArray, List.getElem?_cons_zero, List.getElem?_cons_succ]
      rw [if_pos (by rfl)]
      refine .inl ?_
      go_simp
      refine ⟨S5.out, ?_⟩
      try simp only [Act.put, List.getElem_toArray, List.getElem_cons_zero, List.getElem_cons_succ, List.setIfInBounds_toArray, List.set_cons_zero, List.set_cons_succ]
      refine wpAnyH_all (rs := [4]) (by kernel_rfl) (by simp) (fun i hi2 => ?_)
      obtain rfl : i = 4 := by simpa using hi2
      unfold wpOp
      simp only [List.getElem?_toArray, List.getElem?_cons_zero, List.getElem?_cons_succ]
      rw [if_pos (by rfl)]
      refine .inl ?_
      go_simp
      go_at_call 12
      refine (HBB.out _ hF5).mono ?_
      rintro e w6 ⟨v6, rfl, hG6⟩
      have hF6 : Frm NoB w4 w6 := hF5.trans hG6.new
      have q6 := hG6.o.by_.string
      have p5 := (HG5.out.o.by_.frm0 hG6.new).string
      have S6 := hide (And.intro (CA.out _ hF6) (CB.out _ hF6))
      clear hG6
      refine ⟨S6.out, ?_⟩
      try simp only [Act.put, List.getElem_toArray, List.getElem_cons_zero, List.getElem_cons_succ, List.setIfInBounds_toArray, List.set_cons_zero, List.set_cons_succ]
      refine wpAnyH_all (rs := [5]) (by kernel_rfl) (by simp) (fun i hi2 => ?_)
      obtain rfl : i = 5 := by simpa using hi2
      unfold wpOp
      simp only [List.getElem?_toArray, List.getElem?_cons_zero, List.getElem?_cons_succ]
      rw [if_pos (by rfl)]
      refine .inl ?_
      go_simp
      refine ⟨S6.out, ?_⟩
      try simp only [Act.put, List.getElem_toArray, List.getElem_cons_zero, List.getElem_cons_succ, List.setIfInBounds_toArray, List.set_cons_zero, List.set_cons_succ]
      refine wpAnyH_take (i := 6) (v := ?v30) rfl (by kernel_rfl) (by kernel_rfl) (by kernel_rfl) (fun c a w h => h) (.inl ⟨by rfl, fun w0 hS => ?y30⟩) S6.out ?n30
      case y30 =>
        obtain ⟨s1, s2⟩ := hS
        go_simp
        try with_reducible rfl
      try simp only [Act.put, List.getElem_toArray, List.getElem_cons_zero, List.getElem_cons_succ, List.setIfInBounds_toArray, List.set_cons_zero, List.set_cons_succ]
      refine wpAnyH_take (i := 12) (v := ?v31) rfl (by kernel_rfl) (by kernel_rfl) (by kernel_rfl) (fun c a w h => h) (.inl ⟨by rfl, fun w0 hS => ?y31⟩) S6.out ?n31
      case y31 =>
        obtain ⟨s1, s2⟩ := hS
        go_simp
        try with_reducible rfl
      try simp only [Act.put, List.getElem_toArray, List.getElem_cons_zero, List.getElem_cons_succ, List.setIfInBounds_toArray, List.set_cons_zero, List.set_cons_succ]
      refine wpAnyH_take (i := 13) (v := ?v32) rfl (by kernel_rfl) (by kernel_rfl) (by kernel_rfl) (fun c a w h => h) (.inl ⟨by rfl, fun w0 hS => ?y32⟩) S6.out ?n32
      case y32 =>
        obtain ⟨s1, s2⟩ := hS
        go_simp
        try with_reducible rfl
      try simp only [Act.put, List.getElem_toArray, List.getElem_cons_zero, List.getElem_cons_succ, List.setIfInBounds_toArray, List.set_cons_zero, List.set_cons_succ]
      refine wpAnyH_all (rs := [14]) (by kernel_rfl) (by simp) (fun i hi2 => ?_)
      obtain rfl : i = 14 := by simpa using hi2
      unfold wpOp
      simp only [List.getElem?_toArray, List.getElem?_cons_zero, List.getElem?_cons_succ]
      rw [if_pos (by rfl)]
      refine .inl ?_
      go_simp
      go_at_call 9
      refine (awake8_is _).mono ?_
      rintro e w7 ⟨rfl, hF7⟩
      have hF8 : Frm NoB w4 w7 := hF6.trans hF7
      have S7 := hide (And.intro (CA.out _ hF8) (CB.out _ hF8))
      refine ⟨S7.out, ?_⟩
      try simp only [Act.put, List.getElem_toArray, List.getElem_cons_zero, List.getElem_cons_succ, List.setIfInBounds_toArray, List.set_cons_zero, List.set_cons_succ]
      refine wpAnyH_take (i := 15) (v := ?v33) rfl (by kernel_rfl) (by kernel_rfl) (by kernel_rfl) (fun c a w h => h) (.inl ⟨by rfl, fun w0 hS => ?y33⟩) S7.out ?n33
      case y33 =>
        obtain ⟨s1, s2⟩ := hS
        go_simp
        try with_reducible rfl
      try simp only [Act.put, List.getElem_toArray, List.getElem_cons_zero, List.getElem_cons_succ, List.setIfInBounds_toArray, List.set_cons_zero, List.set_cons_succ]
      refine wpAnyH_take (i := 16) (v := ?v34) rfl (by kernel_rfl) (by kernel_rfl) (by kernel_rfl) (fun c a w h => h) (.inl ⟨by rfl, fun w0 hS => ?y34⟩) S7.out ?n34
      case y34 =>
        obtain ⟨s1, s2⟩ := hS
        go_simp
        try with_reducible rfl
      try simp only [Act.put, List.getElem_toArray, List.getElem_cons_zero, List.getElem_cons_succ, List.setIfInBounds_toArray, List.set_cons_zero, List.set_cons_succ]
      refine wpAnyH_done (by kernel_rfl) ?_ _
      go_wp2
      go_ret
      exact ⟨rfl, HF4.out.trans hF8⟩
    · unfold wpOp
      simp only [List.getElem?_toArray, List.getElem?_cons_zero, List.getElem?_cons_succ]
      rw [if_pos (by rfl)]
      refine .inl ?_
      go_simp
      go_at_call 12
      refine (HBB.out _ hF5).mono ?_
      rintro e w6 ⟨v6, rfl, hG6⟩
      have hF6 : Frm NoB w4 w6 := hF5.trans hG6.new
      have q6 := hG6.o.by_.string
      have p5 := (HG5.out.o.by_.frm0 hG6.new).string
      have S6 := hide (And.intro (CA.out _ hF6) (CB.out _ hF6))
      clear hG6
      refine ⟨S6.out, ?_⟩
      try simp only [Act.put, List.getElem_toArray, List.getElem_cons_zero, List.getElem_cons_succ, List.setIfInBounds_toArray, List.set_cons_zero, List.set_cons_succ]
      refine wpAnyH_all (rs := [2, 5]) (by kernel_rfl) (by simp) (fun i hi2 => ?_)
      have hi3 : i = 2 ∨ i = 5 := by simpa using hi2
      rcases hi3 with rfl | rfl
      · unfold wpOp
        simp only [List.getElem?_toArray, List.getElem?_cons_zero, List.getElem?_cons_succ]
        rw [if_pos (by rfl)]
        refine .inl ?_
        go_simp
        refine ⟨S6.out, ?_⟩
        try simp only [Act.put, List.getElem_toArray, List.getElem_cons_zero, List.getElem_cons_succ, List.setIfInBounds_toArray, List.set_cons_zero, List.set_cons_succ]
        refine wpAnyH_all (rs := [5]) (by kernel_rfl) (by simp) (fun i hi2 => ?_)
        obtain rfl : i = 5 := by simpa using hi2
        unfold wpOp
        simp only [List.getElem?_toArray, List.getElem?_cons_zero, List.getElem?_cons_succ]
        rw [if_pos (by rfl)]
        refine .inl ?_
        go_simp
        refine ⟨S6.out, ?_⟩
        try simp only [Act.put, List.getElem_toArray, List.getElem_cons_zero, List.getElem_cons_succ, List.setIfInBounds_toArray, List.set_cons_zero, List.set_cons_succ]
        refine wpAnyH_take (i := 6) (v := ?v35) rfl (by kernel_rfl) (by kernel_rfl) (by kernel_rfl) (fun c a w h => h) (.inl ⟨by rfl, fun w0 hS => ?y35⟩) S6.out ?n35
        case y35 =>
          obtain ⟨s1, s2⟩ := hS
          go_simp
          try with_reducible rfl
        try simp only [Act.put, List.getElem_toArray, List.getElem_cons_zero, List.getElem_cons_succ, List.setIfInBounds_toArray, List.set_cons_zero, List.set_cons_succ]
        refine wpAnyH_take (i := 12) (v := ?v36) rfl (by kernel_rfl) (by kernel_rfl) (by kernel_rfl) (fun c a w h => h) (.inl ⟨by rfl, fun w0 hS => ?y36⟩) S6.out ?n36
        case y36 =>
          obtain ⟨s1, s2⟩ := hS
          go_simp
          try with_reducible rfl
        try simp only [Act.put, List.getElem_toArray, List.getElem_cons_zero, List.getElem_cons_succ, List.setIfInBounds_toArray, List.set_cons_zero, List.set_cons_succ]
        refine wpAnyH_take (i := 13) (v := ?v37) rfl (by kernel_rfl) (by kernel_rfl) (by kernel_rfl) (fun c a w h => h) (.inl ⟨by rfl, fun w0 hS => ?y37⟩) S6.out ?n37
        case y37 =>
          obtain ⟨s1, s2⟩ := hS
          go_simp
          try with_reducible rfl
        try simp only [Act.put, List.getElem_toArray, List.getElem_cons_zero, List.getElem_cons_succ, List.setIfInBounds_toArray, List.set_cons_zero, List.set_cons_succ]
        refine wpAnyH_all (rs := [14]) (by kernel_rfl) (by simp) (fun i hi2 => ?_)
        obtain rfl : i = 14 := by simpa using hi2
        unfold wpOp
        simp only [List.getElem?_toArray, List.getElem?_cons_zero, List.getElem?_cons_succ]
        rw [if_pos (by rfl)]
        refine .inl ?_
        go_simp
        go_at_call 9
        refine (awake8_is _).mono ?_
        rintro e w7 ⟨rfl, hF7⟩
        have hF8 : Frm NoB w4 w7 := hF6.trans hF7
        have S7 := hide (And.intro (CA.out _ hF8) (CB.out _ hF8))
        refine ⟨S7.out, ?_⟩
        try simp only [Act.put, List.getElem_toArray, List.getElem_cons_zero, List.getElem_cons_succ, List.setIfInBounds_toArray, List.set_cons_zero, List.set_cons_succ]
        refine wpAnyH_take (i := 15) (v := ?v38) rfl (by kernel_rfl) (by kernel_rfl) (by kernel_rfl) (fun c a w h => h) (.inl ⟨by rfl, fun w0 hS => ?y38⟩) S7.out ?n38
        case y38 =>
          obtain ⟨s1, s2⟩ := hS
          go_simp
          try with_reducible rfl
        try simp only [Act.put, List.getElem_toArray, List.getElem_cons_zero, List.getElem_cons_succ, List.setIfInBounds_toArray, List.set_cons_zero, List.set_cons_succ]
        refine wpAnyH_take (i := 16) (v := ?v39) rfl (by kernel_rfl) (by kernel_rfl) (by kernel_rfl) (fun c a w h => h) (.inl ⟨by rfl, fun w0 hS => ?y39⟩) S7.out ?n39
        case y39 =>
          obtain ⟨s1, s2⟩ := hS
          go_simp
          try with_reducible rfl
        try simp only [Act.put, List.getElem_toArray, List.getElem_cons_zero, List.getElem_cons_succ, List.setIfInBounds_toArray, List.set_cons_zero, List.set_cons_succ]
        refine wpAnyH_done (by kernel_rfl) ?_ _
        go_wp2
        go_ret
        exact ⟨rfl, HF4.out.trans hF8⟩
      · unfold wpOp
        simp only [List.getElem?_toArray, List.getElem?_cons_zero, List.getElem?_cons_succ]
        rw [if_pos (by rfl)]
        refine .inl ?_
        go_simp
        refine ⟨S6.out, ?_⟩
        try simp only [Act.put, List.getElem_toArray, List.getElem_cons_zero, List.getElem_cons_succ, List.setIfInBounds_toArray, List.set_cons_zero, List.set_cons_succ]
        refine wpAnyH_all (rs := [2]) (by kernel_rfl) (by simp) (fun i hi2 => ?_)
        obtain rfl : i = 2 := by simpa using hi2
        unfold wpOp
        simp only [List.getElem?_toArray, List.getElem?_cons_zero, List.getElem?_cons_succ]
        rw [if_pos (by rfl)]
        refine .inl ?_
        go_simp
        refine ⟨S6.out, ?_⟩
        try simp only [Act.put, List.getElem_toArray, List.getElem_cons_zero, List.getElem_cons_succ, List.setIfInBounds_toArray, List.set_cons_zero, List.set_cons_succ]
        refine wpAnyH_take (i := 6) (v := ?v40) rfl (by kernel_rfl) (by kernel_rfl) (by kernel_rfl) (fun c a w h => h) (.inl ⟨by rfl, fun w0 hS => ?y40⟩) S6.out ?n40
        case y40 =>
          obtain ⟨s1, s2⟩ := hS
          go_simp
          try with_reducible rfl
        try simp only [Act.put, List.getElem_toArray, List.getElem_cons_zero, List.getElem_cons_succ, List.setIfInBounds_toArray, List.set_cons_zero, List.set_cons_succ]
        refine wpAnyH_take (i := 12) (v := ?v41) rfl (by kernel_rfl) (by kernel_rfl) (by kernel_rfl) (fun c a w h => h) (.inl ⟨by rfl, fun w0 hS => ?y41⟩) S6.out ?n41
        case y41 =>
          obtain ⟨s1, s2⟩ := hS
          go_simp
          try with_reducible rfl
        try simp only [Act.put, List.getElem_toArray, List.getElem_cons_zero, List.getElem_cons_succ, List.setIfInBounds_toArray, List.set_cons_zero, List.set_cons_succ]
        refine wpAnyH_take (i := 13) (v := ?v42) rfl (by kernel_rfl) (by kernel_rfl) (by kernel_rfl) (fun c a w h => h) (.inl ⟨by rfl, fun w0 hS => ?y42⟩) S6.out ?n42
        case y42 =>
          obtain ⟨s1, s2⟩ := hS
          go_simp
          try with_reducible rfl
        try simp only [Act.put, List.getElem_toArray, List.getElem_cons_zero, List.getElem_cons_succ, List.setIfInBounds_toArray, List.set_cons_zero, List.set_cons_succ]
        refine wpAnyH_all (rs := [14]) (by kernel_rfl) (by simp) (fun i hi2 => ?_)
        obtain rfl : i = 14 := by simpa using hi2
        unfold wpOp
        simp only [List.getElem?_toArray, List.getElem?_cons_zero, List.getElem?_cons_succ]
        rw [if_pos (by rfl)]
        refine .inl ?_
        go_simp
        go_at_call 9
        refine (awake8_is _).mono ?_
        rintro e w7 ⟨rfl, hF7⟩
        have hF8 : Frm NoB w4 w7 := hF6.trans hF7
        have S7 := hide (And.intro (CA.out _ hF8) (CB.out _ hF8))
        refine ⟨S7.out, ?_⟩
        try simp only [Act.put, List.getElem_toArray, List.getElem_cons_zero, List.getElem_cons_succ, List.setIfInBounds_toArray, List.set_cons_zero, List.set_cons_succ]
        refine wpAnyH_take (i := 15) (v := ?v43) rfl (by kernel_rfl) (by kernel_rfl) (by kernel_rfl) (fun c a w h => h) (.inl ⟨by rfl, fun w0 hS => ?y43⟩) S7.out ?n43
        case y43 =>
          obtain ⟨s1, s2⟩ := hS
          go_simp
          try with_reducible rfl
        try simp only [Act.put, List.getElem_toArray, List.getElem_cons_zero, List.getElem_cons_succ, List.setIfInBounds_toArray, List.set_cons_zero, List.set_cons_succ]
        refine wpAnyH_take (i := 16) (v := ?v44) rfl (by kernel_rfl) (by kernel_rfl) (by kernel_rfl) (fun c a w h => h) (.inl ⟨by rfl, fun w0 hS => ?y44⟩) S7.out ?n44
        case y44 =>
          obtain ⟨s1, s2⟩ := hS
          go_simp
          try with_reducible rfl
        try simp only [Act.put, List.getElem_toArray, List.getElem_cons_zero, List.getElem_cons_succ, List.setIfInBounds_toArray, List.set_cons_zero, List.set_cons_succ]
        refine wpAnyH_done (by kernel_rfl) ?_ _
        go_wp2
        go_ret
        exact ⟨rfl, HF4.out.trans hF8⟩
theorem bytesShorter_is' (w : World) (n m : Int) (hn : 0 ≤ n ∧ n ≤ 18446744073709551615) (hm : 0 ≤ m ∧ m ≤ 18446744073709551615) (va vb : Value) (a b : List Int) (ha : By w va a) (hb : By w vb b) :
    Calls Try.prog 3 #[.int .u64 n, .int .u64 m, va, vb] w fun e w' => e = .returned (.bool true) ∧ Frm NoB w w' := by
  obtain ⟨N, rfl⟩ := Int.eq_ofNat_of_zero_le hn.1
  obtain ⟨M, rfl⟩ := Int.eq_ofNat_of_zero_le hm.1
  exact bytesShorter_is w N M (by omega) (by omega) va vb a b ha hb
end Go.Proofs.Ytdhcgghdimkdbaa
