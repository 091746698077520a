/-
  The document's bytes: GetUint.
-/
import Derived.Test.YtdhcgghdimkdbaaRb3
import Derived.Deep.RegionHeld3
namespace Go.Proofs.Ytdhcgghdimkdbaa
open Go.RowKit
section
variable {w : World} {v : Value} {xs : List Int}
theorem By.sub {w : World} {b o n c a k : Nat} {xs : List Int} (h : By w (.slice (some ⟨b, o, none⟩) n c) xs) (ha : a + k ≤ n) : By w (.slice (some ⟨b, o + a, none⟩) k (c - a)) ((xs.drop a).take k) := by
  obtain ⟨A', c', e, h1, h2, h3, h4, h5⟩ := h
  injection e with e1 e2 e3
  subst e1 e2 e3
  have hl : ((xs.drop a).take k).length = k := by rw [List.length_take, List.length_drop]; omega
  refine ⟨_, _, by rw [hl], fun hne => ?_, (fun e => by cases e), by omega, by omega, (h5.drop a).take k⟩
  obtain ⟨b', o', e, hc⟩ := h1 (ints_ne (by intro e; subst e; simp [ints] at hne))
  injection e with e
  injection e with e1 e2
  subst e1 e2
  refine ⟨_, _, rfl, fun i v hi => ?_⟩
  have hik : i < k := by have := (List.getElem?_eq_some_iff.1 hi).1; rwa [ints_length, hl] at this
  rw [Nat.add_assoc]
  refine hc (a + i) v ?_
  rw [← hi]
  simp only [ints, List.map_take, List.map_drop]
  rw [List.getElem?_take_of_lt hik, List.getElem?_drop]
theorem By.rest0 {w : World} {A : Option Addr} {n c m : Nat} {xs : List Int} (h : By w (.slice A n c) xs) (hm : m ≤ n) (hc : c = m) : By w (.slice A (n - m) 0) (xs.drop m) := by
  obtain ⟨A', c', e, h1, h2, h3, h4, h5⟩ := h
  injection e with e1 e2 e3
  subst e1 e2 e3
  have : xs.drop m = [] := by rw [List.drop_eq_nil_iff]; omega
  rw [this]
  exact ⟨A, 0, by rw [show xs.length - m = 0 from by omega]; rfl, Rd.nil _ _, fun e => rfl, by simp, by omega, U8.nil⟩
theorem By.rest1 {w : World} {A : Option Addr} {n c m : Nat} {xs : List Int} (h : By w (.slice A n c) xs) (hm : m ≤ n) : By w (.slice (A.map fun x => x.add m) (n - m) (c - m)) (xs.drop m) := by
  obtain ⟨A', c', e, h1, h2, h3, h4, h5⟩ := h
  injection e with e1 e2 e3
  subst e1 e2 e3
  refine ⟨A.map fun x => x.add m, c - m, by rw [List.length_drop], ?_, ?_, by rw [List.length_drop]; omega, by omega, h5.drop m⟩
  rotate_left
  · intro e
    cases A with
    | none => have := h2 rfl; omega
    | some a => cases e
  intro hne
  obtain ⟨b, o, rfl, hc⟩ := h1 (fun e => hne (by unfold ints at e ⊢; rw [List.map_drop, e]; simp))
  refine ⟨b, o + m, ?_, fun i v hv => ?_⟩
  · show some ((⟨b, o, none⟩ : Addr).add m) = _
    rw [addr_add]
  · have := hc (m + i) v (by rw [← hv]; unfold ints; rw [List.map_drop, List.getElem?_drop])
    rw [Nat.add_assoc]; exact this
def RGuPost (xs : List Int) (a : Int) (w : World) (e : Ending) (w' : World) : Prop := e = .returned (.tuple #[.int .u64 (gN xs a), .int .i64 (gX xs a), .int .i64 (gE xs a)]) ∧ Frm NoB w w'
/-- none of the first ones is a number written down -/
def NoNum (xs : List Int) (m j : Nat) : Prop := ∀ i, 1 ≤ i → i < j → m + i ≤ xs.length → ¬ uv (vl ((xs.drop m).take i) % 18446744073709551616).toNat = (xs.drop m).take i
theorem nonum_hit {xs : List Int} {m j : Nat} {T : Nat} (hT : T < 18446744073709551616) (hj : m + j ≤ xs.length) (hm : uv T = (xs.drop m).take j) : gE xs m = 0 ∧ gN xs m = T ∧ gX xs m = ((m + j : Nat) : Int) := by
  obtain ⟨g1, g2, g3⟩ := gu_uv hT ((xs.drop m).drop j)
  rw [hm, List.take_append_drop] at g1 g2 g3
  have hl : ((xs.drop m).take j).length = j := by rw [List.length_take, List.length_drop]; omega
  rw [hl] at g3
  have e1 : gE xs m = 0 := by unfold gE; rw [if_pos (by omega), Int.toNat_natCast, g1]
  refine ⟨e1, ?_, ?_⟩
  · unfold gN; rw [if_pos e1, Int.toNat_natCast, g2]
  · unfold gX; rw [if_pos e1, Int.toNat_natCast]; omega
theorem nonum_out {xs : List Int} {m j : Nat} (hu : U8 xs) (hm : m ≤ xs.length) (hn : NoNum xs m j) (hj : 10 < j ∨ xs.length < m + j) :
    gN xs m = 0 ∧ gX xs m = 0 ∧ gE xs m = if fi (xs.drop m) = (xs.drop m).length ∧ (xs.drop m).length < 10 then 10 else 11 := by
  have hgE : gE xs m = guE (xs.drop m) := by unfold gE; rw [if_pos (by omega), Int.toNat_natCast]
  have hld : (xs.drop m).length = xs.length - m := List.length_drop
  have hne : guE (xs.drop m) ≠ 0 := fun h0 => by
    obtain ⟨b1, b2, b3, b4, b5⟩ := gu_back (hu.drop m) h0
    refine hn (fi (xs.drop m) + 1) (by omega) (by omega) (by omega) ?_
    have e3 : vl ((xs.drop m).take (fi (xs.drop m) + 1)) % 18446744073709551616 = guN (xs.drop m) := Int.emod_eq_of_lt b3 b4
    rw [e3]; exact b5
  refine ⟨by unfold gN; rw [hgE, if_neg hne], by unfold gX; rw [hgE, if_neg hne], ?_⟩
  rw [hgE]
  unfold guE at hne ⊢
  by_cases hf : fi (xs.drop m) = (xs.drop m).length
  · rw [if_pos hf]
    by_cases hlt : (xs.drop m).length < 10
    · rw [if_pos hlt, if_pos ⟨hf, hlt⟩]
    · rw [if_neg hlt, if_neg (fun h => hlt h.2)]
  · rw [if_neg hf] at hne ⊢
    rw [if_neg (show ¬ (fi (xs.drop m) = (xs.drop m).length ∧ (xs.drop m).length < 10) from fun h => hf h.1)]
    by_cases hc : 10 ≤ fi (xs.drop m) ∨ (fi (xs.drop m) = 9 ∧ 1 < (xs.drop m).getD (fi (xs.drop m)) 0) ∨ (0 < fi (xs.drop m) ∧ (xs.drop m).getD (fi (xs.drop m)) 0 = 0)
    · rw [if_pos hc]
    · rw [if_neg hc] at hne; exact absurd rfl hne
def RgRel (w : World) (xs : List Int) (m : Nat) (i : Value) (wr : World) : Prop := ∃ j : Nat, 1 ≤ j ∧ j ≤ 11 ∧ m + j ≤ xs.length + 1 ∧ i = .int .i64 j ∧ NoNum xs m j ∧ Frm NoB w wr
set_option maxRecDepth 100000 in
set_option maxHeartbeats 2000000 in
theorem refGetUint_at (hv : By w v xs) (m : Nat) (hm : m ≤ xs.length) (hl : xs.length ≤ 16777216) : Calls Try.prog 23 #[v, .int .i64 m] w (RGuPost xs m w) := by
  have HV := hide hv
  obtain ⟨A, c, rfl, hr, hz, hlc, hc, hu⟩ := hv
  have HR := hide hr
  have HU := hide hu
  have z1 : decide ((m : Int) < 0) = false := decide_eq_false (by omega)
  have z2 : decide (xs.length < m) = false := decide_eq_false (by omega)
  clear hr hz hu
  go_enter Try.func23, Try.ntmps23
  go_wp2
  go_loopw [7, 8] (fun i _ wr => RgRel w xs m i wr) (fun i _ _ => 11 - (intOf i).toNat)
  case atStart => exact ⟨1, by omega, by omega, by omega, rfl, (fun i h1 h2 => by omega), Frm.refl _ _⟩
  case round =>
    obtain ⟨j, hj1, hj11, hjl, rfl, hno, hF⟩ := hrel
    by_cases hlt : j ≤ 10 ∧ m + j ≤ xs.length
    · obtain ⟨l1, l2⟩ := hlt
      obtain ⟨b, o, rfl, -⟩ := HR.out (ints_ne (by intro e; rw [e] at l2; simp at l2; omega))
      have HS := hide ((HV.out.frm0 hF).sub l2)
      have HNO := hide hno
      have HF := hide hF
      have hu2 := (HU.out.drop m).take j
      have HL : Hid (((xs.drop m).take j).length = j) := by show _ = _; rw [List.length_take, List.length_drop]; omega
      have HH : Hid _ := fun (T : Nat) (hT : T < 18446744073709551616) => nonum_hit (xs := xs) (m := m) (j := j) hT l2
      have HNX : Hid (¬ uv (vl ((xs.drop m).take j) % 18446744073709551616).toNat = (xs.drop m).take j → NoNum xs m (j + 1)) := fun h i h1 h2 h3 => by
        by_cases e : i = j
        · subst e; exact h
        · exact HNO.out i h1 (by omega) h3
      have HU2 := hide hu2
      clear hu2 hno hF
      generalize (xs.drop m).take j = Y at *
      obtain ⟨T, hT⟩ := Int.eq_ofNat_of_zero_le (Int.emod_nonneg (vl Y) (show (18446744073709551616 : Int) ≠ 0 by decide))
      have hTl : T < 18446744073709551616 := by have := Int.emod_lt_of_pos (vl Y) (show (0 : Int) < 18446744073709551616 by decide); omega
      have HTl := hide hTl
      rw [hT, Int.toNat_natCast] at HNX
      have HT := hide hT
      clear hT hTl
      have wj : IntKind.i64.wrap ((m : Int) + j) = ((m + j : Nat) : Int) := IntWalk.i64_in _ (by omega)
      go_wp2_with fail
      refine (value_is HS.out (by rw [HL.out]; omega)).mono ?_
      rintro e w1 ⟨rfl, rfl⟩
      rw [HT.out]
      have b0 : 0 ≤ (m : Int) + (j : Int) ∧ (m : Int) + (j : Int) ≤ (c : Int) := by omega
      have b1 : (m : Int) ≤ (m : Int) + (j : Int) := by omega
      have b2 : ¬ c = m := by omega
      have b3 : ((m : Int) + (j : Int)).toNat - m = j := by omega
      have K := (HS.out.frm0 ((Frm.refl NoB wr).drew)).string
      by_cases hq : uv T = Y
      · have strq : ((strOfNums (uv T)).toList == (strOfNums Y).toList) = true := by rw [str_eq (uv_u8 HTl.out) HU2.out, decide_eq_true hq]
        have HQ := hide (HH.out T HTl.out hq)
        clear hq
        go_wp2_with fail
        --R7
        have hD : Frm NoB wr wr.drew := (Frm.refl NoB wr).drew
        have S1 := hide (HS.out.frm0 hD).string
        refine wp_region_held (S := fun w' => (convert 23 9 (.slice (some ⟨b, o + m, none⟩) j (c - m))).run Try.prog w' = .ok (.string (strOfNums Y)) w') (by kernel_rfl) ?_
        show wpAnyH _ _ _ _ _ 11 _ _ wr.drew
        refine wpAnyH_take (i := 0) (v := ?v1) rfl (by kernel_rfl) (by kernel_rfl) (by kernel_rfl) (fun c a w h => h) (.inl ⟨by rfl, fun w0 hS => ?y1⟩) S1.out ?n1
        case y1 =>
          go_simp
          try with_reducible rfl
        try simp only [Act.put, List.getElem_toArray, List.getElem_cons_zero, List.getElem_cons_succ, List.setIfInBounds_toArray, List.set_cons_zero, List.set_cons_succ]
        refine wpAnyH_take (i := 3) (v := ?v2) rfl (by kernel_rfl) (by kernel_rfl) (by kernel_rfl) (fun c a w h => h) (.inl ⟨by rfl, fun w0 hS => ?y2⟩) S1.out ?n2
        case y2 =>
          go_simp
          try with_reducible rfl
        try simp only [Act.put, List.getElem_toArray, List.getElem_cons_zero, List.getElem_cons_succ, List.setIfInBounds_toArray, List.set_cons_zero, List.set_cons_succ]
        refine wpAnyH_take (i := 4) (v := ?v3) rfl (by kernel_rfl) (by kernel_rfl) (by kernel_rfl) (fun c a w h => h) (.inl ⟨by rfl, fun w0 hS => ?y3⟩) S1.out ?n3
        case y3 =>
          go_simp
          try with_reducible rfl
        try simp only [Act.put, List.getElem_toArray, List.getElem_cons_zero, List.getElem_cons_succ, List.setIfInBounds_toArray, List.set_cons_zero, List.set_cons_succ]
        refine wpAnyH_take (i := 5) (v := ?v4) rfl (by kernel_rfl) (by kernel_rfl) (by kernel_rfl) (fun c a w h => h) (.inl ⟨by rfl, fun w0 hS => ?y4⟩) S1.out ?n4
        case y4 =>
          go_simp
          try with_reducible rfl
        try simp only [Act.put, List.getElem_toArray, List.getElem_cons_zero, List.getElem_cons_succ, List.setIfInBounds_toArray, List.set_cons_zero, List.set_cons_succ]
        refine wpAnyH_take (i := 6) (v := ?v5) rfl (by kernel_rfl) (by kernel_rfl) (by kernel_rfl) (fun c a w h => h) (.inl ⟨by rfl, fun w0 hS => ?y5⟩) S1.out ?n5
        case y5 =>
          go_simp
          try with_reducible rfl
        try simp only [Act.put, List.getElem_toArray, List.getElem_cons_zero, List.getElem_cons_succ, List.setIfInBounds_toArray, List.set_cons_zero, List.set_cons_succ]
        refine wpAnyH_take (i := 7) (v := ?v6) rfl (by kernel_rfl) (by kernel_rfl) (by kernel_rfl) (fun c a w h => h) (.inl ⟨by rfl, fun w0 hS => ?y6⟩) S1.out ?n6
        case y6 =>
          go_simp
          try with_reducible rfl
        try simp only [Act.put, List.getElem_toArray, List.getElem_cons_zero, List.getElem_cons_succ, List.setIfInBounds_toArray, List.set_cons_zero, List.set_cons_succ]
        refine wpAnyH_take (i := 8) (v := ?v7) rfl (by kernel_rfl) (by kernel_rfl) (by kernel_rfl) (fun c a w h => h) (.inl ⟨by rfl, fun w0 hS => ?y7⟩) S1.out ?n7
        case y7 =>
          go_simp
          try with_reducible rfl
        try simp only [Act.put, List.getElem_toArray, List.getElem_cons_zero, List.getElem_cons_succ, List.setIfInBounds_toArray, List.set_cons_zero, List.set_cons_succ]
        refine wpAnyH_take (i := 9) (v := ?v8) rfl (by kernel_rfl) (by kernel_rfl) (by kernel_rfl) (fun c a w h => h) (.inl ⟨by rfl, fun w0 hS => ?y8⟩) S1.out ?n8
        case y8 =>
          go_simp
          try with_reducible rfl
        try simp only [Act.put, List.getElem_toArray, List.getElem_cons_zero, List.getElem_cons_succ, List.setIfInBounds_toArray, List.set_cons_zero, List.set_cons_succ]
        refine wpAnyH_all (rs := [1]) (by kernel_rfl) (by simp) (fun i hi2 => ?_)
        obtain rfl : i = 1 := by simpa using hi2
        unfold wpOp
        simp only [List.getElem?_toArray, List.getElem?_cons_zero, List.getElem?_cons_succ]
        rw [if_pos (by rfl)]
        refine .inl ?_
        go_simp
        go_at_call 42
        refine (varint_is T HTl.out).mono ?_
        rintro e w2 ⟨v2, rfl, hG⟩
        have k2 := hG.o.by_.string
        have S2 := hide (HS.out.frm0 (hD.trans hG.new)).string
        have HG := hide hG
        clear hG
        refine ⟨S2.out, ?_⟩
        try simp only [Act.put, List.getElem_toArray, List.getElem_cons_zero, List.getElem_cons_succ, List.setIfInBounds_toArray, List.set_cons_zero, List.set_cons_succ]
        refine wpAnyH_all (rs := [2]) (by kernel_rfl) (by simp) (fun i hi2 => ?_)
        obtain rfl : i = 2 := by simpa using hi2
        unfold wpOp
        simp only [List.getElem?_toArray, List.getElem?_cons_zero, List.getElem?_cons_succ]
        rw [if_pos (by rfl)]
        refine .inl ?_
        go_simp
        refine ⟨S2.out, ?_⟩
        try simp only [Act.put, List.getElem_toArray, List.getElem_cons_zero, List.getElem_cons_succ, List.setIfInBounds_toArray, List.set_cons_zero, List.set_cons_succ]
        refine wpAnyH_take (i := 10) (v := ?v9) rfl (by kernel_rfl) (by kernel_rfl) (by kernel_rfl) (fun c a w h => h) (.inl ⟨by rfl, fun w0 hS => ?y9⟩) S2.out ?n9
        case y9 =>
          go_simp
          try with_reducible rfl
        try simp only [Act.put, List.getElem_toArray, List.getElem_cons_zero, List.getElem_cons_succ, List.setIfInBounds_toArray, List.set_cons_zero, List.set_cons_succ]
        refine wpAnyH_done (by kernel_rfl) ?_ _
        --R7END
        go_wp2_with fail
        refine bodyPost_ret (results_tmp3 rfl _ _ _) rfl ?_
        refine ⟨ret3 HQ.out.2.1.symm ?_ HQ.out.1.symm, HF.out.trans (hD.trans HG.out.new)⟩
        rw [HQ.out.2.2]; omega
      · have strq : ((strOfNums (uv T)).toList == (strOfNums Y).toList) = false := by rw [str_eq (uv_u8 HTl.out) HU2.out, decide_eq_false hq]
        have HQ := hide (HNX.out hq)
        clear hq
        go_wp2_with fail
        --R7
        have hD : Frm NoB wr wr.drew := (Frm.refl NoB wr).drew
        have S1 := hide (HS.out.frm0 hD).string
        refine wp_region_held (S := fun w' => (convert 23 9 (.slice (some ⟨b, o + m, none⟩) j (c - m))).run Try.prog w' = .ok (.string (strOfNums Y)) w') (by kernel_rfl) ?_
        show wpAnyH _ _ _ _ _ 11 _ _ wr.drew
        refine wpAnyH_take (i := 0) (v := ?v10) rfl (by kernel_rfl) (by kernel_rfl) (by kernel_rfl) (fun c a w h => h) (.inl ⟨by rfl, fun w0 hS => ?y10⟩) S1.out ?n10
        case y10 =>
          go_simp
          try with_reducible rfl
        try simp only [Act.put, List.getElem_toArray, List.getElem_cons_zero, List.getElem_cons_succ, List.setIfInBounds_toArray, List.set_cons_zero, List.set_cons_succ]
        refine wpAnyH_take (i := 3) (v := ?v11) rfl (by kernel_rfl) (by kernel_rfl) (by kernel_rfl) (fun c a w h => h) (.inl ⟨by rfl, fun w0 hS => ?y11⟩) S1.out ?n11
        case y11 =>
          go_simp
          try with_reducible rfl
        try simp only [Act.put, List.getElem_toArray, List.getElem_cons_zero, List.getElem_cons_succ, List.setIfInBounds_toArray, List.set_cons_zero, List.set_cons_succ]
        refine wpAnyH_take (i := 4) (v := ?v12) rfl (by kernel_rfl) (by kernel_rfl) (by kernel_rfl) (fun c a w h => h) (.inl ⟨by rfl, fun w0 hS => ?y12⟩) S1.out ?n12
        case y12 =>
          go_simp
          try with_reducible rfl
        try simp only [Act.put, List.getElem_toArray, List.getElem_cons_zero, List.getElem_cons_succ, List.setIfInBounds_toArray, List.set_cons_zero, List.set_cons_succ]
        refine wpAnyH_take (i := 5) (v := ?v13) rfl (by kernel_rfl) (by kernel_rfl) (by kernel_rfl) (fun c a w h => h) (.inl ⟨by rfl, fun w0 hS => ?y13⟩) S1.out ?n13
        case y13 =>
          go_simp
          try with_reducible rfl
        try simp only [Act.put, List.getElem_toArray, List.getElem_cons_zero, List.getElem_cons_succ, List.setIfInBounds_toArray, List.set_cons_zero, List.set_cons_succ]
        refine wpAnyH_take (i := 6) (v := ?v14) rfl (by kernel_rfl) (by kernel_rfl) (by kernel_rfl) (fun c a w h => h) (.inl ⟨by rfl, fun w0 hS => ?y14⟩) S1.out ?n14
        case y14 =>
          go_simp
          try with_reducible rfl
        try simp only [Act.put, List.getElem_toArray, List.getElem_cons_zero, List.getElem_cons_succ, List.setIfInBounds_toArray, List.set_cons_zero, List.set_cons_succ]
        refine wpAnyH_take (i := 7) (v := ?v15) rfl (by kernel_rfl) (by kernel_rfl) (by kernel_rfl) (fun c a w h => h) (.inl ⟨by rfl, fun w0 hS => ?y15⟩) S1.out ?n15
        case y15 =>
          go_simp
          try with_reducible rfl
        try simp only [Act.put, List.getElem_toArray, List.getElem_cons_zero, List.getElem_cons_succ, List.setIfInBounds_toArray, List.set_cons_zero, List.set_cons_succ]
        refine wpAnyH_take (i := 8) (v := ?v16) rfl (by kernel_rfl) (by kernel_rfl) (by kernel_rfl) (fun c a w h => h) (.inl ⟨by rfl, fun w0 hS => ?y16⟩) S1.out ?n16
        case y16 =>
          go_simp
          try with_reducible rfl
        try simp only [Act.put, List.getElem_toArray, List.getElem_cons_zero, List.getElem_cons_succ, List.setIfInBounds_toArray, List.set_cons_zero, List.set_cons_succ]
        refine wpAnyH_take (i := 9) (v := ?v17) rfl (by kernel_rfl) (by kernel_rfl) (by kernel_rfl) (fun c a w h => h) (.inl ⟨by rfl, fun w0 hS => ?y17⟩) S1.out ?n17
        case y17 =>
          go_simp
          try with_reducible rfl
        try simp only [Act.put, List.getElem_toArray, List.getElem_cons_zero, List.getElem_cons_succ, List.setIfInBounds_toArray, List.set_cons_zero, List.set_cons_succ]
        refine wpAnyH_all (rs := [1]) (by kernel_rfl) (by simp) (fun i hi2 => ?_)
        obtain rfl : i = 1 := by simpa using hi2
        unfold wpOp
        simp only [List.getElem?_toArray, List.getElem?_cons_zero, List.getElem?_cons_succ]
        rw [if_pos (by rfl)]
        refine .inl ?_
        go_simp
        go_at_call 42
        refine (varint_is T HTl.out).mono ?_
        rintro e w2 ⟨v2, rfl, hG⟩
        have k2 := hG.o.by_.string
        have S2 := hide (HS.out.frm0 (hD.trans hG.new)).string
        have HG := hide hG
        clear hG
        refine ⟨S2.out, ?_⟩
        try simp only [Act.put, List.getElem_toArray, List.getElem_cons_zero, List.getElem_cons_succ, List.setIfInBounds_toArray, List.set_cons_zero, List.set_cons_succ]
        refine wpAnyH_all (rs := [2]) (by kernel_rfl) (by simp) (fun i hi2 => ?_)
        obtain rfl : i = 2 := by simpa using hi2
        unfold wpOp
        simp only [List.getElem?_toArray, List.getElem?_cons_zero, List.getElem?_cons_succ]
        rw [if_pos (by rfl)]
        refine .inl ?_
        go_simp
        refine ⟨S2.out, ?_⟩
        try simp only [Act.put, List.getElem_toArray, List.getElem_cons_zero, List.getElem_cons_succ, List.setIfInBounds_toArray, List.set_cons_zero, List.set_cons_succ]
        refine wpAnyH_take (i := 10) (v := ?v18) rfl (by kernel_rfl) (by kernel_rfl) (by kernel_rfl) (fun c a w h => h) (.inl ⟨by rfl, fun w0 hS => ?y18⟩) S2.out ?n18
        case y18 =>
          go_simp
          try with_reducible rfl
        try simp only [Act.put, List.getElem_toArray, List.getElem_cons_zero, List.getElem_cons_succ, List.setIfInBounds_toArray, List.set_cons_zero, List.set_cons_succ]
        refine wpAnyH_done (by kernel_rfl) ?_ _
        --R7END
        go_wp2
        go_roundw
        case rel => exact ⟨j + 1, by omega, by omega, by omega, by go_num, HQ.out, HF.out.trans (hD.trans HG.out.new)⟩
        case measure => simp [intOf]; omega
    · have HO := hide (nonum_out HU.out hm hno (by omega))
      have HF := hide hF
      have hld : (xs.drop m).length = xs.length - m := List.length_drop
      clear hno hF
      by_cases hcm : c = m
      · have HB := hide ((HV.out.frm0 HF.out).rest0 hm hcm)
        by_cases h10 : 10 < j
        · obtain rfl : j = 11 := by omega
          clear hlt
          go_wp2_with fail
          refine (begins_is HB.out (by rw [hld]; omega)).mono ?_
          rintro e w1 ⟨rfl, rfl⟩
          rw [hld] at HO ⊢
          by_cases hq : fi (xs.drop m) = xs.length - m ∧ xs.length - m < 10
          · have HO2 := hide HO.out
            rw [if_pos hq] at HO2
            rw [decide_eq_true hq.1, decide_eq_true hq.2]
            clear HO hq
            go_wp2_with fail
            refine bodyPost_ret (results_tmp3 rfl _ _ _) rfl ?_
            exact ⟨ret3 HO2.out.1.symm HO2.out.2.1.symm HO2.out.2.2.symm, HF.out⟩
          · have HO2 := hide HO.out
            rw [if_neg hq] at HO2
            have hb : (decide (fi (xs.drop m) = xs.length - m) && decide (xs.length - m < 10)) = false := by
              rw [Bool.and_eq_false_iff, decide_eq_false_iff_not, decide_eq_false_iff_not]
              by_cases h3 : fi (xs.drop m) = xs.length - m
              · exact .inr (fun h4 => hq ⟨h3, h4⟩)
              · exact .inl h3
            rw [hb]
            clear HO hq hb
            go_wp2_with fail
            refine bodyPost_ret (results_tmp3 rfl _ _ _) rfl ?_
            exact ⟨ret3 HO2.out.1.symm HO2.out.2.1.symm HO2.out.2.2.symm, HF.out⟩
        · have hml : xs.length < m + j := by omega
          have hb2 : decide ((m : Int) + (j : Int) ≤ (xs.length : Int)) = false := decide_eq_false (by omega)
          clear hlt
          go_wp2_with fail
          refine (begins_is HB.out (by rw [hld]; omega)).mono ?_
          rintro e w1 ⟨rfl, rfl⟩
          rw [hld] at HO ⊢
          by_cases hq : fi (xs.drop m) = xs.length - m ∧ xs.length - m < 10
          · have HO2 := hide HO.out
            rw [if_pos hq] at HO2
            rw [decide_eq_true hq.1, decide_eq_true hq.2]
            clear HO hq
            go_wp2_with fail
            refine bodyPost_ret (results_tmp3 rfl _ _ _) rfl ?_
            exact ⟨ret3 HO2.out.1.symm HO2.out.2.1.symm HO2.out.2.2.symm, HF.out⟩
          · have HO2 := hide HO.out
            rw [if_neg hq] at HO2
            have hb : (decide (fi (xs.drop m) = xs.length - m) && decide (xs.length - m < 10)) = false := by
              rw [Bool.and_eq_false_iff, decide_eq_false_iff_not, decide_eq_false_iff_not]
              by_cases h3 : fi (xs.drop m) = xs.length - m
              · exact .inr (fun h4 => hq ⟨h3, h4⟩)
              · exact .inl h3
            rw [hb]
            clear HO hq hb
            go_wp2_with fail
            refine bodyPost_ret (results_tmp3 rfl _ _ _) rfl ?_
            exact ⟨ret3 HO2.out.1.symm HO2.out.2.1.symm HO2.out.2.2.symm, HF.out⟩
      · have HB := hide ((HV.out.frm0 HF.out).rest1 hm)
        by_cases h10 : 10 < j
        · obtain rfl : j = 11 := by omega
          clear hlt
          go_wp2_with fail
          refine (begins_is HB.out (by rw [hld]; omega)).mono ?_
          rintro e w1 ⟨rfl, rfl⟩
          rw [hld] at HO ⊢
          by_cases hq : fi (xs.drop m) = xs.length - m ∧ xs.length - m < 10
          · have HO2 := hide HO.out
            rw [if_pos hq] at HO2
            rw [decide_eq_true hq.1, decide_eq_true hq.2]
            clear HO hq
            go_wp2_with fail
            refine bodyPost_ret (results_tmp3 rfl _ _ _) rfl ?_
            exact ⟨ret3 HO2.out.1.symm HO2.out.2.1.symm HO2.out.2.2.symm, HF.out⟩
          · have HO2 := hide HO.out
            rw [if_neg hq] at HO2
            have hb : (decide (fi (xs.drop m) = xs.length - m) && decide (xs.length - m < 10)) = false := by
              rw [Bool.and_eq_false_iff, decide_eq_false_iff_not, decide_eq_false_iff_not]
              by_cases h3 : fi (xs.drop m) = xs.length - m
              · exact .inr (fun h4 => hq ⟨h3, h4⟩)
              · exact .inl h3
            rw [hb]
            clear HO hq hb
            go_wp2_with fail
            refine bodyPost_ret (results_tmp3 rfl _ _ _) rfl ?_
            exact ⟨ret3 HO2.out.1.symm HO2.out.2.1.symm HO2.out.2.2.symm, HF.out⟩
        · have hml : xs.length < m + j := by omega
          have hb2 : decide ((m : Int) + (j : Int) ≤ (xs.length : Int)) = false := decide_eq_false (by omega)
          clear hlt
          go_wp2_with fail
          refine (begins_is HB.out (by rw [hld]; omega)).mono ?_
          rintro e w1 ⟨rfl, rfl⟩
          rw [hld] at HO ⊢
          by_cases hq : fi (xs.drop m) = xs.length - m ∧ xs.length - m < 10
          · have HO2 := hide HO.out
            rw [if_pos hq] at HO2
            rw [decide_eq_true hq.1, decide_eq_true hq.2]
            clear HO hq
            go_wp2_with fail
            refine bodyPost_ret (results_tmp3 rfl _ _ _) rfl ?_
            exact ⟨ret3 HO2.out.1.symm HO2.out.2.1.symm HO2.out.2.2.symm, HF.out⟩
          · have HO2 := hide HO.out
            rw [if_neg hq] at HO2
            have hb : (decide (fi (xs.drop m) = xs.length - m) && decide (xs.length - m < 10)) = false := by
              rw [Bool.and_eq_false_iff, decide_eq_false_iff_not, decide_eq_false_iff_not]
              by_cases h3 : fi (xs.drop m) = xs.length - m
              · exact .inr (fun h4 => hq ⟨h3, h4⟩)
              · exact .inl h3
            rw [hb]
            clear HO hq hb
            go_wp2_with fail
            refine bodyPost_ret (results_tmp3 rfl _ _ _) rfl ?_
            exact ⟨ret3 HO2.out.1.symm HO2.out.2.1.symm HO2.out.2.2.symm, HF.out⟩
theorem refGetUint_is (hv : By w v xs) (a : Int) (hl : xs.length ≤ 16777216) : Calls Try.prog 23 #[v, .int .i64 a] w (RGuPost xs a w) := by
  by_cases h : 0 ≤ a ∧ a ≤ xs.length
  · obtain ⟨m, rfl⟩ := Int.eq_ofNat_of_zero_le h.1
    exact refGetUint_at hv m (by omega) hl
  · obtain ⟨A, c, rfl, -⟩ := hv
    have E : Hid (gE xs a = 2) := by show _ = _; unfold gE; rw [if_neg h]
    have fin : Hid (RGuPost xs a w (.returned (.tuple #[.int .u64 0, .int .i64 0, .int .i64 2])) w) := by
      refine ⟨ret3 ?_ ?_ E.out.symm, Frm.refl _ _⟩
      · unfold gN; rw [E.out]; rfl
      · unfold gX; rw [E.out]; rfl
    by_cases h1 : a < 0
    · clear h
      go_enter Try.func23, Try.ntmps23
      go_wp2_with fail
      refine bodyPost_ret (results_tmp3 rfl _ _ _) rfl ?_
      exact fin.out
    · have h2 : (xs.length : Int) < a := by omega
      clear h
      go_enter Try.func23, Try.ntmps23
      go_wp2_with fail
      refine bodyPost_ret (results_tmp3 rfl _ _ _) rfl ?_
      exact fin.out
end
end Go.Proofs.Ytdhcgghdimkdbaa
