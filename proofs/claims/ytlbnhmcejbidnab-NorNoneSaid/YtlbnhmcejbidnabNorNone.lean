/-
  A flash that New did not make: the walk.
-/
import Derived.Test.YtlbnhmcejbidnabNorAwake
import Derived.Test.YtlbnhmcejbidnabArgs
namespace Go.Proofs.Ytlbnhmcejbidnab
open Go.RowKit
def NoneRel (w : World) (i : Value) (wr : World) : Prop := ∃ j : Nat, j ≤ 2 ∧ i = .int .i64 j ∧ Frm NoB w wr ∧ wr.cell? ⟨w.heap.size, 0, none⟩ = some (.slice none 0 0) ∧ wr.cell? ⟨w.heap.size + 1, 0, none⟩ = some (.pointer none) ∧ wr.cell? ⟨w.heap.size + 1, 1, none⟩ = some (.pointer (some ⟨w.heap.size, 0, none⟩))
theorem cell_alloc {w : World} {a : Addr} {v : Value} (h : w.cell? a = some v) (o : Obj) : (w.alloc o).cell? a = some v := by
  rw [(Frm.refl NoB w).alloc o |>.cell (World.block_lt_of_cell? w _ h) (fun e => e)]; exact h
theorem cell_two (w : World) (o : Obj) (t : TypeId) (v0 v1 : Value) : ((w.alloc o).alloc (.cells #[v0, v1] t)).cell? ⟨w.heap.size + 1, 0, none⟩ = some v0 ∧ ((w.alloc o).alloc (.cells #[v0, v1] t)).cell? ⟨w.heap.size + 1, 1, none⟩ = some v1 := by
  have h := Blk.new (w.alloc o) t #[v0, v1]
  rw [show (w.alloc o).heap.size = w.heap.size + 1 from by simp] at h
  exact ⟨h.cell 0, h.cell 1⟩
set_option maxRecDepth 100000 in
set_option maxHeartbeats 4000000 in
theorem norNone_is (w : World) (sec k : Int) (A : Option Addr) (n cp : Nat) :
    Calls Try.prog 3 #[.int .i64 sec, .int .i64 k, .slice A n cp] w fun e w' => e = .returned (.bool true) ∧ Frm NoB w w' := by
  go_enter Try.func3, Try.ntmps3
  go_wp2_with fail
  go_loopw [17] (fun i wr => NoneRel w i wr) (fun i _ => 2 - (intOf i).toNat)
  case atStart =>
    refine ⟨0, by omega, rfl, ((Frm.refl NoB w).alloc _).alloc _, ?_, ?_, ?_⟩
    · exact cell_alloc ((Blk.new w _ #[.slice none 0 0, .int .i64 0, .int .i64 0, .bool false, .int .i64 0]).cell 0) _
    · exact (cell_two w _ _ _ _).1
    · exact (cell_two w _ _ _ _).2
  case round =>
    obtain ⟨j, hj, rfl, hF, hc0, hc1, hc2⟩ := hrel
    have hb0 := cell_alloc hc0
    have hb1 := cell_alloc hc1
    have hb2 := cell_alloc hc2
    obtain ⟨wo, rfl⟩ : ∃ wo : World, wo = wr := ⟨_, rfl⟩
    rcases (by omega : j = 0 ∨ j = 1 ∨ j = 2) with rfl | rfl | rfl
    · go_wp2_with fail
      refine (arm_no _ (.pointer none) (Or.inl rfl)).mono ?_
      rintro e w1 ⟨rfl, rfl⟩
      go_wp2_with fail
      refine (crash_no _ _ _ (.pointer none) (Or.inl rfl)).mono ?_
      rintro e w1 ⟨rfl, rfl⟩
      go_wp2_with fail
      refine (read_no _ _ (.pointer none) (Or.inl rfl)).mono ?_
      rintro e w1 ⟨rfl, rfl⟩
      go_wp2_with fail
      refine (program_no _ _ _ _ _ (.pointer none) (Or.inl rfl)).mono ?_
      rintro e w1 ⟨rfl, rfl⟩
      go_wp2_with fail
      refine (erase_no _ (.pointer none) (Or.inl rfl)).mono ?_
      rintro e w1 ⟨rfl, rfl⟩
      go_wp2_with fail
      refine (rewrite_no _ _ _ _ _ (.pointer none) (Or.inl rfl)).mono ?_
      rintro e w1 ⟨rfl, rfl⟩
      go_wp2_with fail
      refine (sectors_no (.pointer none) (Or.inl rfl)).mono ?_
      rintro e w1 ⟨rfl, rfl⟩
      go_wp2_with fail
      refine (guard_no (.pointer none) (Or.inl rfl)).mono ?_
      rintro e w1 ⟨rfl, rfl⟩
      go_wp2_with fail
      refine (down_no (.pointer none) (Or.inl rfl)).mono ?_
      rintro e w1 ⟨rfl, rfl⟩
      go_wp2
      go_roundw
      case rel => exact ⟨1, by omega, by go_num, hF.alloc _, hb0 _, hb1 _, hb2 _⟩
      case measure => simp [intOf]
    · go_wp2_with fail
      refine (arm_no _ (.pointer (some ⟨w.heap.size, 0, none⟩)) (Or.inr ⟨_, _, _, rfl, hc0⟩)).mono ?_
      rintro e w1 ⟨rfl, rfl⟩
      go_wp2_with fail
      refine (crash_no _ _ _ (.pointer (some ⟨w.heap.size, 0, none⟩)) (Or.inr ⟨_, _, _, rfl, hb0 _⟩)).mono ?_
      rintro e w1 ⟨rfl, rfl⟩
      go_wp2_with fail
      refine (read_no _ _ (.pointer (some ⟨w.heap.size, 0, none⟩)) (Or.inr ⟨_, _, _, rfl, hb0 _⟩)).mono ?_
      rintro e w1 ⟨rfl, rfl⟩
      go_wp2_with fail
      refine (program_no _ _ _ _ _ (.pointer (some ⟨w.heap.size, 0, none⟩)) (Or.inr ⟨_, _, _, rfl, hb0 _⟩)).mono ?_
      rintro e w1 ⟨rfl, rfl⟩
      go_wp2_with fail
      refine (erase_no _ (.pointer (some ⟨w.heap.size, 0, none⟩)) (Or.inr ⟨_, _, _, rfl, hb0 _⟩)).mono ?_
      rintro e w1 ⟨rfl, rfl⟩
      go_wp2_with fail
      refine (rewrite_no _ _ _ _ _ (.pointer (some ⟨w.heap.size, 0, none⟩)) (Or.inr ⟨_, _, _, rfl, hb0 _⟩)).mono ?_
      rintro e w1 ⟨rfl, rfl⟩
      go_wp2_with fail
      refine (sectors_no (.pointer (some ⟨w.heap.size, 0, none⟩)) (Or.inr ⟨_, _, _, rfl, hb0 _⟩)).mono ?_
      rintro e w1 ⟨rfl, rfl⟩
      go_wp2_with fail
      refine (guard_no (.pointer (some ⟨w.heap.size, 0, none⟩)) (Or.inr ⟨_, _, _, rfl, hb0 _⟩)).mono ?_
      rintro e w1 ⟨rfl, rfl⟩
      go_wp2_with fail
      refine (down_no (.pointer (some ⟨w.heap.size, 0, none⟩)) (Or.inr ⟨_, _, _, rfl, hb0 _⟩)).mono ?_
      rintro e w1 ⟨rfl, rfl⟩
      go_wp2
      go_roundw
      case rel => exact ⟨2, by omega, by go_num, hF.alloc _, hb0 _, hb1 _, hb2 _⟩
      case measure => simp [intOf]
    · go_wp2_with fail
      refine (awake_is _).mono ?_
      rintro e w5 ⟨rfl, hF5⟩
      go_wp2
      go_ret
      exact ⟨rfl, hF.trans hF5⟩
end Go.Proofs.Ytlbnhmcejbidnab
