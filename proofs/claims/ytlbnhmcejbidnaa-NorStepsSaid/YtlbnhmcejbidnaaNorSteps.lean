/-
  An armed flash does as many steps as it is armed with: the walk.
-/
import Derived.Test.YtlbnhmcejbidnaaNorStepsP
import Derived.Test.YtlbnhmcejbidnaaNorAwake
import Derived.Test.YtlbnhmcejbidnaaNorApart
import Derived.Test.YtlbnhmcejbidnaaNorDoes
import Derived.Test.YtlbnhmcejbidnaaNorOwn
import Derived.Deep.RegionHeld3
namespace Go.Proofs.Ytlbnhmcejbidnaa
open Go.RowKit
section
theorem own_arm' {w0 w : World} {p q c : Nat} {s : NorS} (k : Int) (h : Own w0 w p q c s) (hk : k ≤ 9223372036854775807) :
    Calls Try.prog 19 #[.pointer (some ⟨p, 0, none⟩), .int .i64 k] w fun e w' => e = .returned (.tuple #[]) ∧ Own w0 w' p q c (s.arms k) ∧ Frm (Two p q) w w' := by
  refine (arm_is k h.n hk).mono ?_
  rintro e w' ⟨rfl, hn, hf⟩
  exact ⟨rfl, h.step hn hf, hf⟩
structure StepsInv (w0 wr : World) (p q c p' q' c' : Nat) (b : NorS) (m : Int) : Prop where
  oa : Own w0 wr p q c (b.armed m)
  ob : Own w0 wr p' q' c' b
  u : b.Up
  m0 : 0 ≤ m
  m1 : m ≤ 200
def StepsRel (w : World) (ops : List OpS) (p q c p' q' c' : Nat) (i lv : Value) (wr : World) : Prop := ∃ (j : Nat) (b : NorS) (m : Int), j ≤ ops.length ∧ j ≤ 40 ∧ i = .int .i64 j ∧ lv = .int .i64 m ∧ StepsInv w wr p q c p' q' c' b m

set_option maxRecDepth 100000 in
set_option maxHeartbeats 8000000 in
theorem norSteps_is (w : World) (A : Option Addr) (cp : Nat) (ops : List OpS) (r : Nat) (h : OpsAt w w.heap.size A ops) (hm : (ops.length : Int) ≤ 9223372036854775807) (hr : r < 256) :
    Calls Try.prog 5 #[.slice A ops.length cp, .int .u8 r] w fun e w' => e = .returned (.bool true) ∧ Frm NoB w w' := by
  have HO0 := hide h
  clear h
  have hr1 : IntKind.u8.wrap ((r : Int).tmod 201) = ((r % 201 : Nat) : Int) := by
    rw [show (r : Int).tmod 201 = ((r % 201 : Nat) : Int) from rfl]
    exact IntWalk.u8_in _ (by omega)
  have hr2 : (r : Int).tmod 201 = ((r % 201 : Nat) : Int) := rfl
  have hr3 : ((r % 201 : Nat) : Int) ≤ 200 := by omega
  have hr4 : (0 : Int) ≤ ((r % 201 : Nat) : Int) := by omega
  generalize ((r % 201 : Nat) : Int) = lft at hr1 hr2 hr3 hr4
  go_enter Try.func5, Try.ntmps5
  go_wp2_with fail
  refine (own_new 4 2 (Frm.refl NoB w) (by omega) (by omega) (by omega)).mono ?_
  rintro e w1 ⟨p, q, c, rfl, hN, hp, hq, hF⟩
  have HN := hide hN
  have HFa := hide hF
  clear hN hF
  go_wp2_with fail
  refine (own_new 4 2 (Hid.out HN).f (by omega) (by omega) (by omega)).mono ?_
  rintro e w2 ⟨p', q', c', rfl, hN', hp', hq', hF⟩
  have HAp : Hid (Apart p q p' q') := by
    have := (Hid.out HN).n.ltp; have := (Hid.out HN).n.ltq
    exact ⟨by omega, by omega, by omega, by omega⟩
  have HN1 := hide ((Hid.out HN).frm hF)
  have HN2 := hide hN'
  clear hN' hF hp hq hp' hq'
  go_wp2_with fail
  refine (own_arm' _ (Hid.out HN1) (by omega)).mono ?_
  rintro e w3 ⟨rfl, hA, hFR⟩
  rw [NorS.new_armed hr4] at hA
  have HN2' := hide ((Hid.out HN2).beside hFR (Hid.out HN1) HAp.out.symm)
  have HA0 := hide hA
  clear hA HN HFa
  go_wp2_with fail
  go_loopw [10, 9] (fun i lv wr => StepsRel w ops p q c p' q' c' i lv wr) (fun i _ _ => ops.length - (intOf i).toNat)
  case atStart => exact ⟨0, _, _, by omega, by omega, rfl, rfl, ⟨HA0.out, HN2'.out, NorS.new_up _ _, hr4, hr3⟩⟩
  case round =>
    obtain ⟨j, b, m, hj, hj40, rfl, rfl, ⟨hA, hB, hu, hm0, hm1⟩⟩ := hrel
    obtain ⟨wo, rfl⟩ : ∃ wo : World, wo = wr := ⟨_, rfl⟩
    have HA := hide hA
    have HB := hide hB
    have HU := hide hu
    clear hA hB hu hr1 hr2 hr3 hr4
    by_cases hlt : j < ops.length
    · by_cases hlt4 : j < 40
      · obtain ⟨bb, xx, AL, cL, AK, cK, rfl, hbb, h0, h1, h2, h3, h4, h5⟩ := (HO0.out.frm (Hid.out HA).f (fun _ _ e => e)).at_ j hlt
        generalize ops[j] = o at h0 h1 h2 h3 h4 h5
        have H0 := hide h0
        clear h0
        rcases (by omega : o.kind < 8 ∨ (8 ≤ o.kind ∧ o.kind ≤ 10) ∨ (8 ≤ o.kind ∧ 10 < o.kind)) with hk | hk | hk
        · have k8 : decide (o.kind ≥ 8) = false := by simp; omega
          go_wp2_with fail
          have O1 : Hid (Own w ((wo.alloc (.cells (opCells o AL cL AK cK) 30)).drew) p q c (b.armed m)) := ((Hid.out HA).alloc _).drew
          have P1 : Hid (OpIs ((wo.alloc (.cells (opCells o AL cL AK cK) 30)).drew) w.heap.size o AL cL AK cK) := (H0.out.frm ((Frm.refl NoB wo).alloc _) (fun _ _ e => e)).frm (Frm.refl NoB _).drew (fun _ _ e => e)
          have CS : Hid (∀ v, Blk v wo.heap.size 30 (opCells o AL cL AK cK) → v.cell? ⟨wo.heap.size, 0, none⟩ = some (.int .i64 o.kind) ∧ v.cell? ⟨wo.heap.size, 1, none⟩ = some (.int .i64 o.sector) ∧ v.cell? ⟨wo.heap.size, 2, none⟩ = some (.int .i64 o.at_) ∧ v.cell? ⟨wo.heap.size, 3, none⟩ = some (.slice AL o.l.length cL) ∧ v.cell? ⟨wo.heap.size, 4, none⟩ = some (.slice AK o.keeps.length cK)) := fun v h => ⟨h.cell 0, h.cell 1, h.cell 2, h.cell 3, h.cell 4⟩
          have GX : Hid (∀ {k}, k = wo.heap.size → ¬ Two p' q' k) := fun {k} e1 e => by
            have := (Hid.out HB).n.ltp; have := (Hid.out HB).n.ltq
            rcases e with e | e <;> omega
          have G1 : Hid (∀ w1, Frm (Two p q) ((wo.alloc (.cells (opCells o AL cL AK cK) 30)).drew) w1 → Blk w1 wo.heap.size 30 (opCells o AL cL AK cK)) := fun w1 hF => (Blk.new wo 30 (opCells o AL cL AK cK)).drew.frm hF (fun e => by
            have := (Hid.out HA).n.ltp; have := (Hid.out HA).n.ltq
            rcases e with e | e <;> omega)
          have m0 : (wo.alloc (.cells (opCells o AL cL AK cK) 30)).cell? ⟨wo.heap.size, 0, none⟩ = some (.int .i64 o.kind) := (Blk.new wo 30 (opCells o AL cL AK cK)).cell 0
          have m1 : (wo.alloc (.cells (opCells o AL cL AK cK) 30)).cell? ⟨wo.heap.size, 1, none⟩ = some (.int .i64 o.sector) := (Blk.new wo 30 (opCells o AL cL AK cK)).cell 1
          have m2 : (wo.alloc (.cells (opCells o AL cL AK cK) 30)).cell? ⟨wo.heap.size, 2, none⟩ = some (.int .i64 o.at_) := (Blk.new wo 30 (opCells o AL cL AK cK)).cell 2
          have m3 : (wo.alloc (.cells (opCells o AL cL AK cK) 30)).cell? ⟨wo.heap.size, 3, none⟩ = some (.slice AL o.l.length cL) := (Blk.new wo 30 (opCells o AL cL AK cK)).cell 3
          have m4 : (wo.alloc (.cells (opCells o AL cL AK cK) 30)).cell? ⟨wo.heap.size, 4, none⟩ = some (.slice AK o.keeps.length cK) := (Blk.new wo 30 (opCells o AL cL AK cK)).cell 4
          go_region_held3 (fun w' => w'.cell? ⟨wo.heap.size, 0, none⟩ = some (.int .i64 o.kind) ∧ w'.cell? ⟨wo.heap.size, 1, none⟩ = some (.int .i64 o.sector) ∧ w'.cell? ⟨wo.heap.size, 2, none⟩ = some (.int .i64 o.at_) ∧ w'.cell? ⟨wo.heap.size, 3, none⟩ = some (.slice AL o.l.length cL) ∧ w'.cell? ⟨wo.heap.size, 4, none⟩ = some (.slice AK o.keeps.length cK)) (go_keep)
            (first
              | (go_at_call_of 10 (Value.pointer (some ⟨p, 0, none⟩)); refine (own_does O1.out P1.out (Nat.le_refl _)).mono ?_; rintro e w1 ⟨rfl, hA1, hF1⟩; have hg1 := G1.out w1 hF1; have HX1 := hide hA1; have HF1 := hide hF1; clear hA1 hF1; obtain ⟨m0, m1, m2, m3, m4⟩ := CS.out w1 hg1; have HG1 := hide hg1; clear hg1; have BX := hide (((Hid.out HB).alloc (.cells (opCells o AL cL AK cK) 30)).drew.beside HF1.out O1.out HAp.out.symm); have PX := hide (P1.out.frm HF1.out (below_two (Hid.out HA).p0 (Hid.out HA).q0)))
              | (go_at_call_of 10 (Value.pointer (some ⟨p', 0, none⟩)); refine (own_does BX.out PX.out (Nat.le_refl _)).mono ?_; rintro e w2 ⟨rfl, hB2, hF2⟩; have HA2 := hide (HX1.out.beside hF2 BX.out HAp.out); have HB2 := hide hB2; have HG2 := hide (HG1.out.frm hF2 (GX.out rfl)); have HO2 := hide (PX.out.frm hF2 (below_two (Hid.out HB).p0 (Hid.out HB).q0)); clear hB2 hF2; obtain ⟨m0, m1, m2, m3, m4⟩ := CS.out w2 HG2.out))
          have hD := NorS.does_armed HU.out o (by omega) m hm0
          obtain ⟨du, dl, dg⟩ := hD
          clear O1 P1 CS GX G1 BX PX HX1 HF1 HG1
          generalize (b.armed m).doesE o = x at *
          generalize b.doesE o = y at *
          rcases (by omega : (y = 0 ∧ 1 ≤ o.kind ∧ o.kind ≤ 4 ∧ (o.l.length : Int) ≤ 70) ∨ (y = 0 ∧ 1 ≤ o.kind ∧ o.kind ≤ 4 ∧ (70 : Int) < o.l.length) ∨ (y = 0 ∧ o.kind = 5) ∨ (y = 0 ∧ o.kind = 6) ∨ (y ≠ 0) ∨ (y = 0 ∧ o.kind < 1) ∨ (y = 0 ∧ 6 < o.kind)) with hy | hy | hy | hy | hy | hy | hy
          · have hc : NorS.cost y o = (o.l.length : Int) := by unfold NorS.cost; split <;> (try split) <;> omega
            rw [hc] at dl dg
            have fy0 : (y == 0) = true := by simp; omega
            have fge1 : decide (o.kind ≥ 1) = true := by simp; omega
            have fle4 : decide (o.kind ≤ 4) = true := by simp; omega
            have fe5 : (o.kind == 5) = false := by simp; omega
            have fe6 : (o.kind == 6) = false := by simp; omega
            rcases (by omega : m < (o.l.length : Int) ∨ (o.l.length : Int) ≤ m) with ho | ho
            · have fo : decide ((o.l.length : Int) > m) = true := by simp; omega
              obtain ⟨rfl, hdn⟩ := dg (by omega)
              clear dg dl
              go_wp2_with fail
              refine (down_is (Hid.out HA2).n).mono ?_
              rintro e w3 ⟨rfl, rfl⟩
              go_wp2_with fail
              refine (awake_is _).mono ?_
              rintro e w5 ⟨rfl, hF5⟩
              go_wp2
              go_ret
              exact ⟨rfl, (Hid.out HA2).f.trans hF5⟩
            · have fo : decide ((o.l.length : Int) > m) = false := by simp; omega
              have fw : IntKind.i64.wrap (m - (o.l.length : Int)) = m - (o.l.length : Int) := IntWalk.i64_in _ (by omega)
              obtain ⟨hst, rfl⟩ := dl (by omega)
              rw [hst] at HA2
              clear dg dl hst
              go_wp2_with fail
              refine (own_same (Hid.out HA2) (Hid.out HB2) true (NorS.armed_same _ _)).mono ?_
              rintro e w3 ⟨rfl, hF3⟩
              have HA3 := hide ((Hid.out HA2).frm hF3)
              have HB3 := hide ((Hid.out HB2).frm hF3)
              clear hF3
              go_wp2
              go_roundw
              case rel => exact ⟨j + 1, _, _, by omega, by omega, by go_num, by go_num, ⟨HA3.out, HB3.out, du, by omega, by omega⟩⟩
              case measure => simp [intOf]; omega
          · have hc : NorS.cost y o = 70 := by unfold NorS.cost; split <;> (try split) <;> omega
            rw [hc] at dl dg
            have fy0 : (y == 0) = true := by simp; omega
            have fge1 : decide (o.kind ≥ 1) = true := by simp; omega
            have fle4 : decide (o.kind ≤ 4) = true := by simp; omega
            have fe5 : (o.kind == 5) = false := by simp; omega
            have fe6 : (o.kind == 6) = false := by simp; omega
            rcases (by omega : m < 70 ∨ 70 ≤ m) with ho | ho
            · have fo : decide (70 > m) = true := by simp; omega
              obtain ⟨rfl, hdn⟩ := dg (by omega)
              clear dg dl
              go_wp2_with fail
              refine (down_is (Hid.out HA2).n).mono ?_
              rintro e w3 ⟨rfl, rfl⟩
              go_wp2_with fail
              refine (awake_is _).mono ?_
              rintro e w5 ⟨rfl, hF5⟩
              go_wp2
              go_ret
              exact ⟨rfl, (Hid.out HA2).f.trans hF5⟩
            · have fo : decide (70 > m) = false := by simp; omega
              have fw : IntKind.i64.wrap (m - 70) = m - 70 := IntWalk.i64_in _ (by omega)
              obtain ⟨hst, rfl⟩ := dl (by omega)
              rw [hst] at HA2
              clear dg dl hst
              go_wp2_with fail
              refine (own_same (Hid.out HA2) (Hid.out HB2) true (NorS.armed_same _ _)).mono ?_
              rintro e w3 ⟨rfl, hF3⟩
              have HA3 := hide ((Hid.out HA2).frm hF3)
              have HB3 := hide ((Hid.out HB2).frm hF3)
              clear hF3
              go_wp2
              go_roundw
              case rel => exact ⟨j + 1, _, _, by omega, by omega, by go_num, by go_num, ⟨HA3.out, HB3.out, du, by omega, by omega⟩⟩
              case measure => simp [intOf]; omega
          · have hc : NorS.cost y o = 1 := by unfold NorS.cost; split <;> (try split) <;> omega
            rw [hc] at dl dg
            have fy0 : (y == 0) = true := by simp; omega
            have fge1 : decide (o.kind ≥ 1) = true := by simp; omega
            have fle4 : decide (o.kind ≤ 4) = false := by simp; omega
            have fe5 : (o.kind == 5) = true := by simp; omega
            rcases (by omega : m < 1 ∨ 1 ≤ m) with ho | ho
            · have fo : decide (1 > m) = true := by simp; omega
              obtain ⟨rfl, hdn⟩ := dg (by omega)
              clear dg dl
              go_wp2_with fail
              refine (down_is (Hid.out HA2).n).mono ?_
              rintro e w3 ⟨rfl, rfl⟩
              go_wp2_with fail
              refine (awake_is _).mono ?_
              rintro e w5 ⟨rfl, hF5⟩
              go_wp2
              go_ret
              exact ⟨rfl, (Hid.out HA2).f.trans hF5⟩
            · have fo : decide (1 > m) = false := by simp; omega
              have fw : IntKind.i64.wrap (m - 1) = m - 1 := IntWalk.i64_in _ (by omega)
              obtain ⟨hst, rfl⟩ := dl (by omega)
              rw [hst] at HA2
              clear dg dl hst
              go_wp2_with fail
              refine (own_same (Hid.out HA2) (Hid.out HB2) true (NorS.armed_same _ _)).mono ?_
              rintro e w3 ⟨rfl, hF3⟩
              have HA3 := hide ((Hid.out HA2).frm hF3)
              have HB3 := hide ((Hid.out HB2).frm hF3)
              clear hF3
              go_wp2
              go_roundw
              case rel => exact ⟨j + 1, _, _, by omega, by omega, by go_num, by go_num, ⟨HA3.out, HB3.out, du, by omega, by omega⟩⟩
              case measure => simp [intOf]; omega
          · have hc : NorS.cost y o = 1 := by unfold NorS.cost; split <;> (try split) <;> omega
            rw [hc] at dl dg
            have fy0 : (y == 0) = true := by simp; omega
            have fge1 : decide (o.kind ≥ 1) = true := by simp; omega
            have fle4 : decide (o.kind ≤ 4) = false := by simp; omega
            have fe5 : (o.kind == 5) = false := by simp; omega
            have fe6 : (o.kind == 6) = true := by simp; omega
            rcases (by omega : m < 1 ∨ 1 ≤ m) with ho | ho
            · have fo : decide (1 > m) = true := by simp; omega
              obtain ⟨rfl, hdn⟩ := dg (by omega)
              clear dg dl
              go_wp2_with fail
              refine (down_is (Hid.out HA2).n).mono ?_
              rintro e w3 ⟨rfl, rfl⟩
              go_wp2_with fail
              refine (awake_is _).mono ?_
              rintro e w5 ⟨rfl, hF5⟩
              go_wp2
              go_ret
              exact ⟨rfl, (Hid.out HA2).f.trans hF5⟩
            · have fo : decide (1 > m) = false := by simp; omega
              have fw : IntKind.i64.wrap (m - 1) = m - 1 := IntWalk.i64_in _ (by omega)
              obtain ⟨hst, rfl⟩ := dl (by omega)
              rw [hst] at HA2
              clear dg dl hst
              go_wp2_with fail
              refine (own_same (Hid.out HA2) (Hid.out HB2) true (NorS.armed_same _ _)).mono ?_
              rintro e w3 ⟨rfl, hF3⟩
              have HA3 := hide ((Hid.out HA2).frm hF3)
              have HB3 := hide ((Hid.out HB2).frm hF3)
              clear hF3
              go_wp2
              go_roundw
              case rel => exact ⟨j + 1, _, _, by omega, by omega, by go_num, by go_num, ⟨HA3.out, HB3.out, du, by omega, by omega⟩⟩
              case measure => simp [intOf]; omega
          · have hc : NorS.cost y o = 0 := by unfold NorS.cost; split <;> (try split) <;> omega
            rw [hc] at dl dg
            have fy0 : (y == 0) = false := by simp; omega
            have fo : decide ((0 : Int) > m) = false := by simp; omega
            have fw : IntKind.i64.wrap (m - 0) = m - 0 := IntWalk.i64_in _ (by omega)
            obtain ⟨hst, rfl⟩ := dl (by omega)
            rw [hst] at HA2
            clear dg dl hst
            go_wp2_with fail
            refine (own_same (Hid.out HA2) (Hid.out HB2) true (NorS.armed_same _ _)).mono ?_
            rintro e w3 ⟨rfl, hF3⟩
            have HA3 := hide ((Hid.out HA2).frm hF3)
            have HB3 := hide ((Hid.out HB2).frm hF3)
            clear hF3
            go_wp2
            go_roundw
            case rel => exact ⟨j + 1, _, _, by omega, by omega, by go_num, by go_num, ⟨HA3.out, HB3.out, du, by omega, by omega⟩⟩
            case measure => simp [intOf]; omega
          · have hc : NorS.cost y o = 0 := by unfold NorS.cost; split <;> (try split) <;> omega
            rw [hc] at dl dg
            have fy0 : (y == 0) = true := by simp; omega
            have fge1 : decide (o.kind ≥ 1) = false := by simp; omega
            have fe5 : (o.kind == 5) = false := by simp; omega
            have fe6 : (o.kind == 6) = false := by simp; omega
            have fo : decide ((0 : Int) > m) = false := by simp; omega
            have fw : IntKind.i64.wrap (m - 0) = m - 0 := IntWalk.i64_in _ (by omega)
            obtain ⟨hst, rfl⟩ := dl (by omega)
            rw [hst] at HA2
            clear dg dl hst
            go_wp2_with fail
            refine (own_same (Hid.out HA2) (Hid.out HB2) true (NorS.armed_same _ _)).mono ?_
            rintro e w3 ⟨rfl, hF3⟩
            have HA3 := hide ((Hid.out HA2).frm hF3)
            have HB3 := hide ((Hid.out HB2).frm hF3)
            clear hF3
            go_wp2
            go_roundw
            case rel => exact ⟨j + 1, _, _, by omega, by omega, by go_num, by go_num, ⟨HA3.out, HB3.out, du, by omega, by omega⟩⟩
            case measure => simp [intOf]; omega
          · have hc : NorS.cost y o = 0 := by unfold NorS.cost; split <;> (try split) <;> omega
            rw [hc] at dl dg
            have fy0 : (y == 0) = true := by simp; omega
            have fge1 : decide (o.kind ≥ 1) = true := by simp; omega
            have fle4 : decide (o.kind ≤ 4) = false := by simp; omega
            have fe5 : (o.kind == 5) = false := by simp; omega
            have fe6 : (o.kind == 6) = false := by simp; omega
            have fo : decide ((0 : Int) > m) = false := by simp; omega
            have fw : IntKind.i64.wrap (m - 0) = m - 0 := IntWalk.i64_in _ (by omega)
            obtain ⟨hst, rfl⟩ := dl (by omega)
            rw [hst] at HA2
            clear dg dl hst
            go_wp2_with fail
            refine (own_same (Hid.out HA2) (Hid.out HB2) true (NorS.armed_same _ _)).mono ?_
            rintro e w3 ⟨rfl, hF3⟩
            have HA3 := hide ((Hid.out HA2).frm hF3)
            have HB3 := hide ((Hid.out HB2).frm hF3)
            clear hF3
            go_wp2
            go_roundw
            case rel => exact ⟨j + 1, _, _, by omega, by omega, by go_num, by go_num, ⟨HA3.out, HB3.out, du, by omega, by omega⟩⟩
            case measure => simp [intOf]; omega
        · have k8 : decide (o.kind ≥ 8) = true := by simp; omega
          have k10 : decide (o.kind ≤ 10) = true := by simp; omega
          go_wp2
          go_roundw
          case rel => exact ⟨j + 1, _, _, by omega, by omega, by go_num, rfl, ⟨(Hid.out HA).alloc _, (Hid.out HB).alloc _, HU.out, hm0, hm1⟩⟩
          case measure => simp [intOf]; omega
        · have k8 : decide (o.kind ≥ 8) = true := by simp; omega
          have k10 : decide (o.kind ≤ 10) = false := by simp; omega
          go_wp2_with fail
          have O1 : Hid (Own w ((wo.alloc (.cells (opCells o AL cL AK cK) 30)).drew) p q c (b.armed m)) := ((Hid.out HA).alloc _).drew
          have P1 : Hid (OpIs ((wo.alloc (.cells (opCells o AL cL AK cK) 30)).drew) w.heap.size o AL cL AK cK) := (H0.out.frm ((Frm.refl NoB wo).alloc _) (fun _ _ e => e)).frm (Frm.refl NoB _).drew (fun _ _ e => e)
          have CS : Hid (∀ v, Blk v wo.heap.size 30 (opCells o AL cL AK cK) → v.cell? ⟨wo.heap.size, 0, none⟩ = some (.int .i64 o.kind) ∧ v.cell? ⟨wo.heap.size, 1, none⟩ = some (.int .i64 o.sector) ∧ v.cell? ⟨wo.heap.size, 2, none⟩ = some (.int .i64 o.at_) ∧ v.cell? ⟨wo.heap.size, 3, none⟩ = some (.slice AL o.l.length cL) ∧ v.cell? ⟨wo.heap.size, 4, none⟩ = some (.slice AK o.keeps.length cK)) := fun v h => ⟨h.cell 0, h.cell 1, h.cell 2, h.cell 3, h.cell 4⟩
          have GX : Hid (∀ {k}, k = wo.heap.size → ¬ Two p' q' k) := fun {k} e1 e => by
            have := (Hid.out HB).n.ltp; have := (Hid.out HB).n.ltq
            rcases e with e | e <;> omega
          have G1 : Hid (∀ w1, Frm (Two p q) ((wo.alloc (.cells (opCells o AL cL AK cK) 30)).drew) w1 → Blk w1 wo.heap.size 30 (opCells o AL cL AK cK)) := fun w1 hF => (Blk.new wo 30 (opCells o AL cL AK cK)).drew.frm hF (fun e => by
            have := (Hid.out HA).n.ltp; have := (Hid.out HA).n.ltq
            rcases e with e | e <;> omega)
          have m0 : (wo.alloc (.cells (opCells o AL cL AK cK) 30)).cell? ⟨wo.heap.size, 0, none⟩ = some (.int .i64 o.kind) := (Blk.new wo 30 (opCells o AL cL AK cK)).cell 0
          have m1 : (wo.alloc (.cells (opCells o AL cL AK cK) 30)).cell? ⟨wo.heap.size, 1, none⟩ = some (.int .i64 o.sector) := (Blk.new wo 30 (opCells o AL cL AK cK)).cell 1
          have m2 : (wo.alloc (.cells (opCells o AL cL AK cK) 30)).cell? ⟨wo.heap.size, 2, none⟩ = some (.int .i64 o.at_) := (Blk.new wo 30 (opCells o AL cL AK cK)).cell 2
          have m3 : (wo.alloc (.cells (opCells o AL cL AK cK) 30)).cell? ⟨wo.heap.size, 3, none⟩ = some (.slice AL o.l.length cL) := (Blk.new wo 30 (opCells o AL cL AK cK)).cell 3
          have m4 : (wo.alloc (.cells (opCells o AL cL AK cK) 30)).cell? ⟨wo.heap.size, 4, none⟩ = some (.slice AK o.keeps.length cK) := (Blk.new wo 30 (opCells o AL cL AK cK)).cell 4
          go_region_held3 (fun w' => w'.cell? ⟨wo.heap.size, 0, none⟩ = some (.int .i64 o.kind) ∧ w'.cell? ⟨wo.heap.size, 1, none⟩ = some (.int .i64 o.sector) ∧ w'.cell? ⟨wo.heap.size, 2, none⟩ = some (.int .i64 o.at_) ∧ w'.cell? ⟨wo.heap.size, 3, none⟩ = some (.slice AL o.l.length cL) ∧ w'.cell? ⟨wo.heap.size, 4, none⟩ = some (.slice AK o.keeps.length cK)) (go_keep)
            (first
              | (go_at_call_of 10 (Value.pointer (some ⟨p, 0, none⟩)); refine (own_does O1.out P1.out (Nat.le_refl _)).mono ?_; rintro e w1 ⟨rfl, hA1, hF1⟩; have hg1 := G1.out w1 hF1; have HX1 := hide hA1; have HF1 := hide hF1; clear hA1 hF1; obtain ⟨m0, m1, m2, m3, m4⟩ := CS.out w1 hg1; have HG1 := hide hg1; clear hg1; have BX := hide (((Hid.out HB).alloc (.cells (opCells o AL cL AK cK) 30)).drew.beside HF1.out O1.out HAp.out.symm); have PX := hide (P1.out.frm HF1.out (below_two (Hid.out HA).p0 (Hid.out HA).q0)))
              | (go_at_call_of 10 (Value.pointer (some ⟨p', 0, none⟩)); refine (own_does BX.out PX.out (Nat.le_refl _)).mono ?_; rintro e w2 ⟨rfl, hB2, hF2⟩; have HA2 := hide (HX1.out.beside hF2 BX.out HAp.out); have HB2 := hide hB2; have HG2 := hide (HG1.out.frm hF2 (GX.out rfl)); have HO2 := hide (PX.out.frm hF2 (below_two (Hid.out HB).p0 (Hid.out HB).q0)); clear hB2 hF2; obtain ⟨m0, m1, m2, m3, m4⟩ := CS.out w2 HG2.out))
          have hD := NorS.does_armed HU.out o (by omega) m hm0
          obtain ⟨du, dl, dg⟩ := hD
          clear O1 P1 CS GX G1 BX PX HX1 HF1 HG1
          generalize (b.armed m).doesE o = x at *
          generalize b.doesE o = y at *
          rcases (by omega : (y ≠ 0) ∨ (y = 0 ∧ 6 < o.kind)) with hy | hy
          · have hc : NorS.cost y o = 0 := by unfold NorS.cost; split <;> (try split) <;> omega
            rw [hc] at dl dg
            have fy0 : (y == 0) = false := by simp; omega
            have fo : decide ((0 : Int) > m) = false := by simp; omega
            have fw : IntKind.i64.wrap (m - 0) = m - 0 := IntWalk.i64_in _ (by omega)
            obtain ⟨hst, rfl⟩ := dl (by omega)
            rw [hst] at HA2
            clear dg dl hst
            go_wp2_with fail
            refine (own_same (Hid.out HA2) (Hid.out HB2) true (NorS.armed_same _ _)).mono ?_
            rintro e w3 ⟨rfl, hF3⟩
            have HA3 := hide ((Hid.out HA2).frm hF3)
            have HB3 := hide ((Hid.out HB2).frm hF3)
            clear hF3
            go_wp2
            go_roundw
            case rel => exact ⟨j + 1, _, _, by omega, by omega, by go_num, by go_num, ⟨HA3.out, HB3.out, du, by omega, by omega⟩⟩
            case measure => simp [intOf]; omega
          · have hc : NorS.cost y o = 0 := by unfold NorS.cost; split <;> (try split) <;> omega
            rw [hc] at dl dg
            have fy0 : (y == 0) = true := by simp; omega
            have fge1 : decide (o.kind ≥ 1) = true := by simp; omega
            have fle4 : decide (o.kind ≤ 4) = false := by simp; omega
            have fe5 : (o.kind == 5) = false := by simp; omega
            have fe6 : (o.kind == 6) = false := by simp; omega
            have fo : decide ((0 : Int) > m) = false := by simp; omega
            have fw : IntKind.i64.wrap (m - 0) = m - 0 := IntWalk.i64_in _ (by omega)
            obtain ⟨hst, rfl⟩ := dl (by omega)
            rw [hst] at HA2
            clear dg dl hst
            go_wp2_with fail
            refine (own_same (Hid.out HA2) (Hid.out HB2) true (NorS.armed_same _ _)).mono ?_
            rintro e w3 ⟨rfl, hF3⟩
            have HA3 := hide ((Hid.out HA2).frm hF3)
            have HB3 := hide ((Hid.out HB2).frm hF3)
            clear hF3
            go_wp2
            go_roundw
            case rel => exact ⟨j + 1, _, _, by omega, by omega, by go_num, by go_num, ⟨HA3.out, HB3.out, du, by omega, by omega⟩⟩
            case measure => simp [intOf]; omega
      · obtain rfl : j = 40 := by omega
        go_wp2_with fail
        refine (awake_is _).mono ?_
        rintro e w5 ⟨rfl, hF5⟩
        go_wp2
        go_ret
        exact ⟨rfl, (Hid.out HA).f.trans hF5⟩
    · obtain rfl : j = ops.length := by omega
      go_wp2_with fail
      refine (awake_is _).mono ?_
      rintro e w5 ⟨rfl, hF5⟩
      go_wp2
      go_ret
      exact ⟨rfl, (Hid.out HA).f.trans hF5⟩
theorem norSteps_is' (w : World) (A : Option Addr) (cp : Nat) (ops : List OpS) (r : Int) (h : OpsAt w w.heap.size A ops) (hm : (ops.length : Int) ≤ 9223372036854775807) (hr : 0 ≤ r ∧ r ≤ 255) :
    Calls Try.prog 5 #[.slice A ops.length cp, .int .u8 r] w fun e w' => e = .returned (.bool true) ∧ Frm NoB w w' := by
  obtain ⟨n, rfl⟩ := Int.eq_ofNat_of_zero_le hr.1
  exact norSteps_is w A cp ops n h hm (by omega)
end
end Go.Proofs.Ytlbnhmcejbidnaa

