/-
  What is written down, piece by piece, is read back: the walk (all).
-/
import Derived.Test.YtdhcgghdimkdbaaBlRound0
namespace Go.Proofs.Ytdhcgghdimkdbaa
open Go.RowKit
set_option maxRecDepth 100000 in
set_option maxHeartbeats 4000000 in
theorem bytesRound_is (w : World) (A : Option Addr) (c bl o : Nat) (ps : List PcS) (hP : PcsIn w A c ps bl o)  (va vb : Value) (xs ys : List Int) (ha : By w va xs) (hb : By w vb ys) :
    Calls Try.prog 7 #[.slice A ps.length c, va, vb] w fun e w' => e = .returned (.bool true) ∧ Frm NoB w w' := by
  obtain ⟨qs, hqs⟩ : ∃ qs, ps.take 30 = qs := ⟨_, rfl⟩
  obtain ⟨n, hql⟩ : ∃ n, qs.length = n := ⟨_, rfl⟩
  have hmn : min (ps.length : Int) 30 = (n : Int) := by rw [← hql, ← hqs, List.length_take]; omega
  have hn30 : n ≤ 30 ∧ n ≤ ps.length := by rw [← hql, ← hqs, List.length_take]; omega
  have hqg : ∀ i (h : i < qs.length), ∃ h2, qs[i]'h = ps[i]'h2 := fun i h => by
    subst hqs
    refine ⟨by rw [List.length_take] at h; omega, ?_⟩
    rw [List.getElem_take]
  have HQ : Hid (∀ i (hi : i < qs.length), ∃ v, PcIn w (qs[i]'hi) v ∧ w.cell? ⟨bl, o + i * 3, none⟩ = some (.int .u8 (qs[i]'hi).kind) ∧ w.cell? ⟨bl, o + i * 3 + 1, none⟩ = some (.int .u64 (qs[i]'hi).n) ∧ w.cell? ⟨bl, o + i * 3 + 2, none⟩ = some v) := fun i hi => by
    obtain ⟨h2, e⟩ := hqg i hi
    rw [e]; exact hP.at_ i h2
  have HA0 : Hid (qs ≠ [] → A = some ⟨bl, o, none⟩ ∧ bl < w.heap.size) := fun hne => hP.a (fun e => hne (by rw [← hqs, e]; rfl))
  have HA := hide ha
  have HB := hide hb
  have hlc := hP.l
  have hcm := hP.m
  have HQL := hide hql
  obtain ⟨A1, c1, rfl, -⟩ := ha
  obtain ⟨A2, c2, rfl, -⟩ := hb
  clear hqg hqs hP
  go_enter Try.func7, Try.ntmps7
  go_wp2_with fail
  go_loopw [23] (fun i wr => Rd1Rel w qs i wr) (fun i _ => qs.length - (intOf i).toNat)
  case atStart => exact ⟨0, by omega, rfl, fun k _ h => by omega, Frm.refl _ _⟩
  case round =>
    obtain ⟨j, hj, rfl, hsm, hF⟩ := hrel
    have HF := hide hF
    have HSM := hide hsm
    clear hF hsm
    by_cases hlt : j < qs.length
    · obtain ⟨v, hin, k0, k1, k2⟩ := HQ.out j hlt
      obtain ⟨rfl, hbl⟩ := HA0.out (by intro e; rw [e] at hlt; simp at hlt)
      have d0 := (HF.out.cell (World.block_lt_of_cell? w _ k0) (fun e => e)).trans k0
      have d1 := (HF.out.cell (World.block_lt_of_cell? w _ k1) (fun e => e)).trans k1
      have d2 := (HF.out.cell (World.block_lt_of_cell? w _ k2) (fun e => e)).trans k2
      obtain ⟨A3, c3, e3, -⟩ := hin.y
      subst e3
      have i0 : (0 : Int) ≤ (j : Int) := by omega
      have i1 : (j : Int) < (n : Int) := by omega
      have i2 : j < n := by omega
      obtain ⟨p, hp⟩ : ∃ p, qs[j]'hlt = p := ⟨_, rfl⟩
      have HP1 := hide hp
      rw [hp] at d0 d1 d2
      obtain ⟨L, hL⟩ : ∃ L, (qs[j]'hlt).b.length = L := ⟨_, rfl⟩
      have hL2 : p.b.length = L := by rw [← hp]; exact hL
      have HLL := hide hL
      rw [hL2] at d2
      clear k0 k1 k2 hin hp hL hL2 hbl
      by_cases h1 : 100 < L
      · have b1 : decide (100 < (L : Int)) = true := decide_eq_true (by omega)
        go_wp2_with fail
        refine (awake8_is _).mono ?_
        rintro e w2 ⟨rfl, hF2⟩
        have HF2 := hide ((HF.out.alloc (.cells #[.int .u8 p.kind, .int .u64 p.n, .slice A3 L c3] 54)).trans hF2)
        go_wp2
        go_ret
        exact ⟨rfl, HF2.out⟩
      · have b1 : decide (100 < (L : Int)) = false := decide_eq_false (by omega)
        have HF2 := hide (HF.out.alloc (.cells #[.int .u8 p.kind, .int .u64 p.n, .slice A3 L c3] 54))
        go_wp2_with fail
        go_roundw
        case rel =>
          refine ⟨j + 1, by omega, by go_num, fun k hk hk2 => ?_, HF2.out⟩
          by_cases e : k = j
          · subst e; rw [HLL.out]; omega
          · exact HSM.out k hk (by omega)
        case measure => simp [intOf]; omega
    · have ej : j = qs.length := by omega
      subst ej
      have HOK : Hid (∀ p ∈ qs, p.Ok) := fun p hp => by
        obtain ⟨i, hi, rfl⟩ := List.getElem_of_mem hp
        obtain ⟨v, hin, -⟩ := HQ.out i hi
        exact hin.ok (HSM.out i hi hi)
      rw [HQL.out]
      by_cases h1 : 100 < xs.length
      · go_wp2_with fail
        refine (awake8_is _).mono ?_
        rintro e w2 ⟨rfl, hF2⟩
        have HF2 := hide (HF.out.trans hF2)
        go_wp2
        go_ret
        exact ⟨rfl, HF2.out⟩
      by_cases h2 : 100 < ys.length
      · go_wp2_with fail
        refine (awake8_is _).mono ?_
        rintro e w2 ⟨rfl, hF2⟩
        have HF2 := hide (HF.out.trans hF2)
        go_wp2
        go_ret
        exact ⟨rfl, HF2.out⟩
      have hxl : xs.length ≤ 100 := by omega
      have hyl : ys.length ≤ 100 := by omega
      have hwl := wrtAll_len qs HOK.out
      have hq30 : qs.length ≤ 30 := by omega
      have hwl2 : (wrtAll qs).length ≤ 3300 := by omega
      have HWL := hide hwl2
      have HQ30 := hide hq30
      clear h1 h2 hwl hwl2 hq30
      go_wp2_with fail
      refine (copyBytes_is (HA.out.frm0 HF.out) (by omega)).mono ?_
      rintro e w1 ⟨v1, rfl, hG⟩
      have HG1 := hide hG
      have HF1 := hide (HF.out.trans hG.new)
      clear hG
      go_wp2_with fail
      have PA : PcAt w1 wr.heap.size bl o qs := ⟨fun i hi => by
        obtain ⟨v, hin, k0, k1, k2⟩ := HQ.out i hi
        have hsz := HF.out.size
        exact ⟨v, hin.y.frm0 HF1.out, fun hne k hk => Nat.lt_of_lt_of_le (hin.k hne k hk) hsz, (HF1.out.cell (World.block_lt_of_cell? w _ k0) (fun e => e)).trans k0, (HF1.out.cell (World.block_lt_of_cell? w _ k1) (fun e => e)).trans k1, (HF1.out.cell (World.block_lt_of_cell? w _ k2) (fun e => e)).trans k2⟩⟩
      refine (written_is bl o n c A qs (fun hne => (HA0.out hne).1) PA (fun hne => Nat.lt_of_lt_of_le (HA0.out hne).2 HF.out.size) HOK.out HG1.out.o (HG1.out.new.size) HQL.out (by have := HQ30.out; have := HQL.out; omega)).mono ?_
      rintro e w2 ⟨v2, rfl, hG⟩
      have HG2 := hide hG
      have HF2 := hide (hG.below HG1.out.o HF1.out HF.out.size)
      have HB2 := hide (HB.out.frm0 HF2.out)
      clear hG PA
      obtain ⟨B2, d2, rfl, -⟩ := HG2.out.o.by_
      have hel : (xs ++ wrtAll qs).length = xs.length + (wrtAll qs).length := List.length_append
      obtain ⟨E, hE⟩ : ∃ E, (xs ++ wrtAll qs).length = E := ⟨_, rfl⟩
      rw [hE] at HG2 hel ⊢
      have HEL := hide hel
      clear hE hel
      go_wp2_with (at_builtin; refine append_bytes rfl (.tmp 48) (.tmp 49) rfl wr.heap.size _ _ (xs ++ wrtAll qs) ys rfl rfl HG2.out.o HB2.out (by have := HWL.out; rw [List.length_append]; omega) (Nat.le_trans HG1.out.new.size HG2.out.f.size) ?_; intro v3 w3 hg)
      have HF3 := hide (hg.below HG2.out.o HF2.out HF.out.size)
      have HV3 := hide hg.o.by_
      clear hg
      go_wp2_with fail
      go_loopw [11, 55] (fun a i wr => Rd2Rel w3 xs qs a i wr) (fun _ i _ => qs.length - (intOf i).toNat)
      case atStart => exact ⟨0, by omega, rfl, by rw [List.take_zero]; rfl, Frm.refl _ _⟩
      case round =>
        obtain ⟨j, hj, rfl, rfl, hF⟩ := hrel
        have HFr := hide hF
        clear hF
        by_cases hlt : j < qs.length
        · obtain ⟨v, hin, k0, k1, k2⟩ := HQ.out j hlt
          obtain ⟨rfl, hbl⟩ := HA0.out (by intro e; rw [e] at hlt; simp at hlt)
          have hFF := HF3.out.trans HFr.out
          have d0 := (hFF.cell (World.block_lt_of_cell? w _ k0) (fun e => e)).trans k0
          have d1 := (hFF.cell (World.block_lt_of_cell? w _ k1) (fun e => e)).trans k1
          have d2 := (hFF.cell (World.block_lt_of_cell? w _ k2) (fun e => e)).trans k2
          obtain ⟨r, hr, hle⟩ := wrtAll_drop (xs := xs) (ys := ys) hlt
          have hok := HOK.out _ (List.getElem_mem hlt)
          have hwpos := PcS.wrt_len hok
          have hnx := wrtAll_next hlt
          have hX3 : (xs ++ wrtAll qs ++ ys).length ≤ 16777216 := by have := HWL.out; simp only [List.length_append]; omega
          have RD := fun (W : World) (hf : Frm NoB wr W) => pread_is (w := W) _ hok ((HV3.out.frm0 HFr.out).frm0 hf) hX3 (by omega) hr ((hin.y.frm0 hFF).frm0 hf)
          have HRD := hide RD
          obtain ⟨a, hae⟩ : ∃ a, xs.length + (wrtAll (qs.take j)).length = a := ⟨_, rfl⟩
          obtain ⟨t, ht⟩ : ∃ t, (qs[j]'hlt).wrt.length = t := ⟨_, rfl⟩
          have hnl : xs.length + (wrtAll (qs.take (j + 1))).length = a + t := by rw [hnx, List.length_append, ht]; omega
          have HNL := hide hnl
          rw [hae, ht] at HRD
          rw [ht] at hwpos
          rw [hae] at ⊢
          obtain ⟨A3, c3, e3, -⟩ := hin.y
          subst e3
          have i0 : (0 : Int) ≤ (j : Int) := by omega
          have i1 : (j : Int) < (n : Int) := by omega
          have i2 : j < n := by omega
          have t1 : 1 ≤ t := hwpos.1
          have a1 : a + t ≤ 16777216 := by have := hle; have := hX3; omega
          clear k0 k1 k2 hin hbl hr hle hok hwpos hnx hX3 RD hae ht hnl hFF
          generalize qs[j]'hlt = p at *
          go_wp2_with fail
          refine (HRD.out _ ((Frm.refl NoB _).alloc _)).mono ?_
          rintro e w5 ⟨rfl, hF5⟩
          have HF5 := hide ((HFr.out.alloc (.cells #[.int .u8 p.kind, .int .u64 p.n, .slice A3 p.b.length c3] 54)).trans hF5)
          clear hF5 HRD
          go_wp2_with fail
          go_roundw
          case rel =>
            refine ⟨j + 1, by omega, by go_num, ?_, HF5.out⟩
            rw [HNL.out]
            try rfl
          case measure => simp [intOf]; omega
        · have ej : j = qs.length := by omega
          subst ej
          rw [List.take_length]
          have hEa : xs.length + (wrtAll qs).length = E := HEL.out.symm
          rw [hEa]
          have HV4 := hide (HV3.out.frm0 HFr.out)
          have HF4 := hide (HF3.out.trans HFr.out)
          obtain ⟨B3, d3, rfl, -⟩ := HV3.out
          have hX4 : xs.length ≤ (xs ++ wrtAll qs ++ ys).length := by simp only [List.length_append]; omega
          have HT : Hid (By wr (.slice B3 xs.length d3) xs) := by
            have h := HV4.out.take hX4
            rw [List.append_assoc, List.take_left] at h
            exact h
          have hcd : xs.length ≤ d3 := by obtain ⟨A', c', e, -, -, h4, -, -⟩ := HT.out; injection e with e1 e2 e3; subst e3; omega
          have HA4 := hide (HA.out.frm0 HF4.out)
          obtain ⟨LL, hLL⟩ : ∃ LL, (xs ++ wrtAll qs ++ ys).length = LL := ⟨_, rfl⟩
          rw [hLL] at hX4 ⊢
          clear hEa HV4 hLL
          go_wp2_with fail
          have hD : Frm NoB wr wr.drew := (Frm.refl NoB wr).drew
          have K1 := (HT.out.frm0 hD).string
          have K2 := (HA4.out.frm0 hD).string
          go_region_held3 (fun w' => (convert 23 9 (.slice B3 xs.length d3)).run Try.prog w' = .ok (.string (strOfNums xs)) w' ∧ (convert 23 9 (.slice A1 xs.length c1)).run Try.prog w' = .ok (.string (strOfNums xs)) w') (go_keep)
            (first
              | (go_at_call 9; refine (awake8_is _).mono ?_; rintro e w8 ⟨rfl, hF8⟩; have k1 := (HT.out.frm0 (hD.trans hF8)).string; have k2 := (HA4.out.frm0 (hD.trans hF8)).string))
          go_wp2
          go_ret
          exact ⟨rfl, HF4.out.trans (hD.trans hF8)⟩
end Go.Proofs.Ytdhcgghdimkdbaa
