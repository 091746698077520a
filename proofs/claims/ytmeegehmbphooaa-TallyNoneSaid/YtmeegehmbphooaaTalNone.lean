/-
  A tally that Open did not make: the walk.
-/
import Derived.Test.YtmeegehmbphooaaTalOwn
namespace Go.Proofs.Ytmeegehmbphooaa
open Go.RowKit
def TNoneRel (w : World) (i : Value) (wr : World) : Prop := ∃ j : Nat, j ≤ 2 ∧ i = .int .i64 j ∧ Frm NoB w wr ∧ wr.cell? ⟨w.heap.size, 0, none⟩ = some (.pointer none) ∧ wr.cell? ⟨w.heap.size + 1, 0, none⟩ = some (.pointer none) ∧ wr.cell? ⟨w.heap.size + 1, 1, none⟩ = some (.pointer (some ⟨w.heap.size, 0, none⟩))
theorem tal_zero0 : Try.zeroCells45[0]? = some (.pointer none) := by kernel_rfl
theorem tcell_two (w : World) (o : Obj) (t : TypeId) (v0 v1 : Value) : ((w.alloc o).alloc (.cells #[v0, v1] t)).cell? ⟨w.heap.size + 1, 0, none⟩ = some v0 ∧ ((w.alloc o).alloc (.cells #[v0, v1] t)).cell? ⟨w.heap.size + 1, 1, none⟩ = some v1 := by
  have h := Blk.new (w.alloc o) t #[v0, v1]
  rw [show (w.alloc o).heap.size = w.heap.size + 1 from by simp] at h
  exact ⟨h.cell 0, h.cell 1⟩
set_option maxRecDepth 100000 in
set_option maxHeartbeats 4000000 in
theorem tallyNone_is (w : World) : Calls Try.prog 5 #[] w fun e w' => e = .returned (.bool true) ∧ Frm NoB w w' := by
  go_enter Try.func5, Try.ntmps5
  go_wp2_with fail
  go_loopw [9] (fun i wr => TNoneRel w i wr) (fun i _ => 2 - (intOf i).toNat)
  case atStart =>
    refine ⟨0, by omega, rfl, ((Frm.refl NoB w).alloc _).alloc _, ?_, ?_, ?_⟩
    · have h := (Blk.new w 45 Try.zeroCells45).alloc (.cells #[.pointer none, .pointer (some ⟨w.heap.size, 0, none⟩)] 25)
      exact (h.cell 0).trans tal_zero0
    · exact (tcell_two w _ _ _ _).1
    · exact (tcell_two w _ _ _ _).2
  case round =>
    obtain ⟨j, hj, rfl, hF, hc0, hc1, hc2⟩ := hrel
    obtain ⟨wo, rfl⟩ : ∃ wo : World, wo = wr := ⟨_, rfl⟩
    rcases (by omega : j = 2 ∨ j < 2) with rfl | hlt
    · go_wp2_with fail
      refine (awake_is _).mono ?_
      rintro e w5 ⟨rfl, hF5⟩
      go_wp2
      go_ret
      exact ⟨rfl, hF.trans hF5⟩
    · obtain ⟨v, hv, hno⟩ : ∃ v, wo.cell? ⟨w.heap.size + 1, j, none⟩ = some v ∧ NoTal wo v := by
        rcases (by omega : j = 0 ∨ j = 1) with rfl | rfl
        · exact ⟨_, hc1, .inl rfl⟩
        · exact ⟨_, hc2, .inr ⟨_, rfl, hc0⟩⟩
      have i0 : (0 : Int) ≤ (j : Int) := by omega
      have i1 : (j : Int) < 2 := by omega
      have H0 := hide hno
      have HC := hide (And.intro hc0 (And.intro hc1 hc2))
      clear hno hc0 hc1 hc2
      go_wp2_with fail
      refine (tstep_no v H0.out).mono ?_
      rintro e w' ⟨rfl, rfl⟩
      go_wp2_with fail
      refine (tcount_no v H0.out).mono ?_
      rintro e w' ⟨rfl, rfl⟩
      go_wp2_with fail
      refine (tover_no v H0.out).mono ?_
      rintro e w' ⟨rfl, rfl⟩
      go_wp2
      go_roundw
      case rel => exact ⟨j + 1, by omega, by go_num, hF, HC.out.1, HC.out.2.1, HC.out.2.2⟩
      case measure => simp [intOf]; omega
end Go.Proofs.Ytmeegehmbphooaa
