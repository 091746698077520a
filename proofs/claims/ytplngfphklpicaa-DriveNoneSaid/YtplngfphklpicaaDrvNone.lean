/-
  A drive that Open did not make: the walk.
-/
import Derived.Test.YtplngfphklpicaaDrvAwake
namespace Go.Proofs.Ytplngfphklpicaa
open Go.RowKit
def DNoneRel (w : World) (i : Value) (wr : World) : Prop := ∃ j : Nat, j ≤ 2 ∧ i = .int .i64 j ∧ Frm NoB w wr ∧ wr.cell? ⟨w.heap.size, 0, none⟩ = some (.pointer none) ∧ wr.cell? ⟨w.heap.size + 1, 0, none⟩ = some (.pointer none) ∧ wr.cell? ⟨w.heap.size + 1, 1, none⟩ = some (.pointer (some ⟨w.heap.size, 0, none⟩))
theorem dcell_alloc {w : World} {a : Addr} {v : Value} (h : w.cell? a = some v) (o : Obj) : (w.alloc o).cell? a = some v := by
  rw [(Frm.refl NoB w).alloc o |>.cell (World.block_lt_of_cell? w _ h) (fun e => e)]; exact h
theorem dcell_two (w : World) (o : Obj) (t : TypeId) (v0 v1 : Value) : ((w.alloc o).alloc (.cells #[v0, v1] t)).cell? ⟨w.heap.size + 1, 0, none⟩ = some v0 ∧ ((w.alloc o).alloc (.cells #[v0, v1] t)).cell? ⟨w.heap.size + 1, 1, none⟩ = some v1 := by
  have h := Blk.new (w.alloc o) t #[v0, v1]
  rw [show (w.alloc o).heap.size = w.heap.size + 1 from by simp] at h
  exact ⟨h.cell 0, h.cell 1⟩
theorem dcell_frm {w w' : World} {a : Addr} {v : Value} (h : w.cell? a = some v) (hf : Frm NoB w w') : w'.cell? a = some v := (hf.cell (World.block_lt_of_cell? w a h) (fun e => e)).trans h
set_option maxRecDepth 100000 in
set_option maxHeartbeats 4000000 in
theorem driveNone_is (w : World) (a m : Int) (A : Option Addr) (n cp : Nat) (hn : (n : Int) ≤ 9223372036854775807) (hs : -9223372036854775808 ≤ a) :
    Calls Try.prog 3 #[.int .i64 a, .int .i64 m, .slice A n cp] w fun e w' => e = .returned (.bool true) ∧ Frm NoB w w' := by
  go_enter Try.func3, Try.ntmps3
  go_wp2_with fail
  go_loopw [21] (fun i wr => DNoneRel w i wr) (fun i _ => 2 - (intOf i).toNat)
  case atStart =>
    refine ⟨0, by omega, rfl, ((Frm.refl NoB w).alloc _).alloc _, ?_, ?_, ?_⟩
    · exact dcell_alloc ((Blk.new w _ #[.pointer none, .int .i64 0, .int .i64 0]).cell 0) _
    · exact (dcell_two w _ _ _ _).1
    · exact (dcell_two w _ _ _ _).2
  case round =>
    obtain ⟨j, hj, rfl, hF, hc0, hc1, hc2⟩ := hrel
    obtain ⟨wo, rfl⟩ : ∃ wo : World, wo = wr := ⟨_, rfl⟩
    rcases (by omega : j = 2 ∨ j < 2) with rfl | hlt
    · go_wp2_with fail
      refine (dopen_no a m _ (Or.inr ⟨_, _, _, rfl, (Blk.new wo 40 #[.slice none 0 0, .int .i64 0, .int .i64 0, .bool false, .int .i64 0]).cell 0⟩)).mono ?_
      rintro e w' ⟨rfl, rfl⟩
      go_wp2_with fail
      refine (awake_is _).mono ?_
      rintro e w5 ⟨rfl, hF5⟩
      go_wp2
      go_ret
      exact ⟨rfl, (hF.alloc _).trans hF5⟩
    · obtain ⟨v, hv, hno⟩ : ∃ v, wo.cell? ⟨w.heap.size + 1, j, none⟩ = some v ∧ NoDrv wo v := by
        rcases (by omega : j = 0 ∨ j = 1) with rfl | rfl
        · exact ⟨_, hc1, .inl rfl⟩
        · exact ⟨_, hc2, .inr ⟨_, rfl, hc0⟩⟩
      have i0 : (0 : Int) ≤ (j : Int) := by omega
      have i1 : (j : Int) < 2 := by omega
      have H0 := hide hno
      have HC := hide (And.intro hc0 (And.intro hc1 hc2))
      clear hno hc0 hc1 hc2
      go_wp2_with fail
      refine (dread_no a m v H0.out).mono ?_
      rintro e w1 ⟨rfl, hF1⟩
      have H1 := hide (H0.out.frm hF1)
      go_wp2_with fail
      refine (dpart_no a m v H1.out).mono ?_
      rintro e w' ⟨rfl, rfl⟩
      go_wp2_with fail
      refine (dwrite_no a v A n cp H1.out hn).mono ?_
      rintro e w2 ⟨rfl, hF2⟩
      have H2 := hide (H1.out.frm hF2)
      go_wp2_with fail
      refine (derase_no a v H2.out).mono ?_
      rintro e w' ⟨rfl, rfl⟩
      go_wp2_with fail
      refine (dblank_no a m v H2.out).mono ?_
      rintro e w3 ⟨rfl, hF3⟩
      have H3 := hide (H2.out.frm hF3)
      go_wp2_with fail
      refine (dsectors_no v H3.out).mono ?_
      rintro e w' ⟨rfl, rfl⟩
      go_wp2_with fail
      refine (dsize_no v H3.out).mono ?_
      rintro e w' ⟨rfl, rfl⟩
      go_wp2
      go_roundw
      case rel =>
        have hf := (hF1.trans hF2).trans hF3
        exact ⟨j + 1, by omega, by go_num, hF.trans hf, dcell_frm HC.out.1 hf, dcell_frm HC.out.2.1 hf, dcell_frm HC.out.2.2 hf⟩
      case measure => simp [intOf]; omega
end Go.Proofs.Ytplngfphklpicaa
