/-
  The flash: blank.
-/
import Derived.Test.YtmeegehmbphooaaNor3
namespace Go.Proofs.Ytmeegehmbphooaa
open Go.RowKit
def one32 : Value := .int .u32 4294967295
def zero32 : Value := .int .u32 0
/-- a sector of ones -/
def ones64 : Array Value := Array.replicate 64 one32
def zeros64 : Array Value := Array.replicate 64 zero32
theorem ones64_all : ones64.all (·.oneCell') = true := by kernel_rfl
theorem sector_size : (Try.prog.info? 97).map (·.size) = some 64 := by kernel_rfl
set_option maxRecDepth 100000 in
theorem blank_is (w : World) :
    Calls Try.prog 46 #[] w fun e w' => e = .returned (.agg ones64) ∧ Frm NoB w w' := by
  go_enter Try.func46, Try.ntmps46
  go_wp2
  have hb0 := (Blk.new w 97 zeros64).alloc (.cells zeros64 97)
  have hb1 := Blk.new (w.alloc (.cells zeros64 97)) 97 zeros64
  have hf1 := ((Frm.refl NoB w).alloc (.cells zeros64 97)).alloc (.cells zeros64 97)
  rw [World.size_alloc] at hb1
  have ez : zeros64 = #[zero32, zero32, zero32, zero32, zero32, zero32, zero32, zero32, zero32, zero32, zero32, zero32, zero32, zero32, zero32, zero32, zero32, zero32, zero32, zero32, zero32, zero32, zero32, zero32, zero32, zero32, zero32, zero32, zero32, zero32, zero32, zero32, zero32, zero32, zero32, zero32, zero32, zero32, zero32, zero32, zero32, zero32, zero32, zero32, zero32, zero32, zero32, zero32, zero32, zero32, zero32, zero32, zero32, zero32, zero32, zero32, zero32, zero32, zero32, zero32, zero32, zero32, zero32, zero32] := by rfl
  generalize hW : (w.alloc (.cells zeros64 97)).alloc (.cells zeros64 97) = W at *
  rw [ez] at hW
  unfold zero32 at hW
  rw [hW]
  clear hW ez
  go_loopw [3] (fun i wr => ∃ j : Nat, j ≤ 64 ∧ i = .int .i64 j ∧ Blk wr w.heap.size 97 zeros64 ∧ Blk wr (w.heap.size + 1) 97 (fillTo 64 one32 zero32 j) ∧ Frm NoB w wr) (fun i _ => 64 - (intOf i).toNat)
  case atStart => exact ⟨0, by omega, rfl, hb0, by rw [fillTo_zero]; exact hb1, hf1⟩
  case round =>
    clear hb0 hb1 hf1
    obtain ⟨j, hj, rfl, h0, h1, hf⟩ := hrel
    by_cases hlt : j < 64
    · have hc : wr.cell? ⟨w.heap.size + 1, j, none⟩ = some zero32 := by rw [h1.cell, fillTo_get hlt]
      have hz := h1.frozen j
      have H0 := hide h0
      have H1 := hide h1
      clear h0 h1
      go_wp2
      go_roundw
      case rel =>
        refine ⟨j + 1, by omega, by go_num, (Hid.out H0).far (p := ⟨w.heap.size + 1, j, none⟩) (by simp) _, ?_, hf.setNew (by omega) _ _⟩
        have := (Hid.out H1).set_ j one32
        rw [fillTo_set hlt] at this
        exact this
      case measure => simp [intOf]; omega
    · obtain rfl : j = 64 := by omega
      have h1 : Blk wr (w.heap.size + 1) 97 ones64 := by rw [fillTo_all] at h1; exact h1
      have H0 := hide h0
      have H1 := hide h1
      clear h0 h1
      go_wp2_with (first
        | (refine wpList_load_row rfl 97 (.tmp 1) rfl (w.heap.size + 1) rfl 97 _ (0, 0) _ H1.out Try.underlying97 rfl sector_size ?_)
        | (refine wpList_store_row rfl 97 (.tmp 0) (.tmp 9) rfl w.heap.size _ rfl rfl 97 _ H0.out sector_size rfl ones64_all ?_))
      refine bodyPost_ret (results_cell_row rfl _ _ w.heap.size 97 ones64 (0, 0) _ rfl ((Hid.out H0).setRow ones64) Try.underlying97 rfl sector_size) rfl ⟨rfl, hf.setRow (.inr (Nat.le_refl _)) _⟩
end Go.Proofs.Ytmeegehmbphooaa
