/-
  Texts of this claim, joined: CelNone.
-/
import Derived.Test.YtiapoalkkhpmlaaCelJ8
/-
  A cell that Open did not make: the walk.
-/
namespace Go.Proofs.Ytiapoalkkhpmlaa
open Go.RowKit
def CNoneRel (w : World) (i : Value) (wr : World) : Prop := ∃ j : Nat, j ≤ 2 ∧ i = .int .i64 j ∧ Frm NoB w wr ∧ wr.cell? ⟨w.heap.size, 0, none⟩ = some (.pointer none) ∧ wr.cell? ⟨w.heap.size + 1, 0, none⟩ = some (.pointer none) ∧ wr.cell? ⟨w.heap.size + 1, 1, none⟩ = some (.pointer (some ⟨w.heap.size, 0, none⟩))
theorem ccell_two (w : World) (o : Obj) (t : TypeId) (v0 v1 : Value) : ((w.alloc o).alloc (.cells #[v0, v1] t)).cell? ⟨w.heap.size + 1, 0, none⟩ = some v0 ∧ ((w.alloc o).alloc (.cells #[v0, v1] t)).cell? ⟨w.heap.size + 1, 1, none⟩ = some v1 := by
  have h := Blk.new (w.alloc o) t #[v0, v1]
  rw [show (w.alloc o).heap.size = w.heap.size + 1 from by simp] at h
  exact ⟨h.cell 0, h.cell 1⟩
set_option maxRecDepth 100000 in
set_option maxHeartbeats 4000000 in
theorem cellNone_is (w : World) (A : Option Addr) (n c : Nat) : Calls Try.prog 4 #[.slice A n c] w fun e w' => e = .returned (.bool true) ∧ Frm NoB w w' := by
  go_enter Try.func4, Try.ntmps4
  go_wp2_with fail
  go_loopw [13] (fun i wr => CNoneRel w i wr) (fun i _ => 2 - (intOf i).toNat)
  case atStart =>
    refine ⟨0, by omega, rfl, ((Frm.refl NoB w).alloc _).alloc _, ?_, ?_, ?_⟩
    · exact ((Blk.new w _ _).alloc _).cell 0
    · exact (ccell_two w _ _ _ _).1
    · exact (ccell_two w _ _ _ _).2
  case round =>
    obtain ⟨j, hj, rfl, hF, hc0, hc1, hc2⟩ := hrel
    obtain ⟨wo, rfl⟩ : ∃ wo : World, wo = wr := ⟨_, rfl⟩
    rcases (by omega : j = 2 ∨ j < 2) with rfl | hlt
    · go_wp2_with fail
      refine (awake_is _).mono ?_
      rintro e w5 ⟨rfl, hF5⟩
      go_wp2
      go_ret
      exact ⟨rfl, hF.trans hF5⟩
    · obtain ⟨v, hv, hno⟩ : ∃ v, wo.cell? ⟨w.heap.size + 1, j, none⟩ = some v ∧ NoCel wo v := by
        rcases (by omega : j = 0 ∨ j = 1) with rfl | rfl
        · exact ⟨_, hc1, .inl rfl⟩
        · exact ⟨_, hc2, .inr ⟨_, rfl, hc0⟩⟩
      have i0 : (0 : Int) ≤ (j : Int) := by omega
      have i1 : (j : Int) < 2 := by omega
      have H0 := hide hno
      have HC := hide (And.intro hc0 (And.intro hc1 hc2))
      have hl := World.block_lt_of_cell? wo _ hv
      have hl0 := World.block_lt_of_cell? wo _ hc0
      have HLT : Hid (w.heap.size < wo.heap.size ∧ w.heap.size + 1 < wo.heap.size) := ⟨hl0, hl⟩
      have HF := hide hF
      clear hno hc0 hc1 hc2 hl hl0 hF
      go_wp2_with fail
      refine (cget_no v H0.out).mono ?_
      rintro e w' ⟨rfl, rfl⟩
      go_wp2_with fail
      refine (cput_no v _ H0.out).mono ?_
      rintro e w2 ⟨rfl, hF2⟩
      have HN2 : Hid (NoCel w2 v) := by
        rcases H0.out with rfl | ⟨g, rfl, hc⟩
        · exact .inl rfl
        · exact .inr ⟨g, rfl, (hF2.cell (World.block_lt_of_cell? _ _ hc) (fun e => e)).trans hc⟩
      have HC2 : Hid (w2.cell? ⟨w.heap.size, 0, none⟩ = some (.pointer none) ∧ w2.cell? ⟨w.heap.size + 1, 0, none⟩ = some (.pointer none) ∧ w2.cell? ⟨w.heap.size + 1, 1, none⟩ = some (.pointer (some ⟨w.heap.size, 0, none⟩))) :=
        ⟨(hF2.cell (p := ⟨w.heap.size, 0, none⟩) HLT.out.1 (fun e => e)).trans HC.out.1, (hF2.cell (p := ⟨w.heap.size + 1, 0, none⟩) HLT.out.2 (fun e => e)).trans HC.out.2.1, (hF2.cell (p := ⟨w.heap.size + 1, 1, none⟩) HLT.out.2 (fun e => e)).trans HC.out.2.2⟩
      have HF2 := hide (HF.out.trans hF2)
      clear hF2 hv
      go_wp2_with fail
      refine (cturn_no v HN2.out).mono ?_
      rintro e w' ⟨rfl, rfl⟩
      go_wp2_with fail
      refine (cover_no v HN2.out).mono ?_
      rintro e w' ⟨rfl, rfl⟩
      go_wp2
      go_roundw
      case rel => exact ⟨j + 1, by omega, by go_num, HF2.out, HC2.out.1, HC2.out.2.1, HC2.out.2.2⟩
      case measure => simp [intOf]; omega
end Go.Proofs.Ytiapoalkkhpmlaa
