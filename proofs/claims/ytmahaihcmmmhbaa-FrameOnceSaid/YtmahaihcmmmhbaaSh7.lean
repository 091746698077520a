/-
  sha: right, New.
-/
import Derived.Test.YtmahaihcmmmhbaaSh5
import Derived.Test.YtmahaihcmmmhbaaSh6
namespace Go.Proofs.Ytmahaihcmmmhbaa
open Go.RowKit
theorem hasher_size : (Try.prog.info? 96).map (·.size) = some 10 := by kernel_rfl
set_option maxRecDepth 100000 in
theorem right_is (HC : Array Value) (A : Option Addr) (n c : Nat) (L : Int) (w : World) (h8 : HC[8]? = some (.slice A n c)) (h9 : HC[9]? = some (.int .i64 L)) (h0 : 0 ≤ L) (h1 : L ≤ 72057594037927936) (hn : (n : Int) = L % 64) :
    Calls Try.prog 62 #[.agg HC] w fun e w' => e = .returned (.bool true) ∧ Frm NoB w w' := by
  have hb : Blk (w.alloc (.cells HC 96)) w.heap.size 96 HC := Blk.new _ _ _
  have c8 : (w.alloc (.cells HC 96)).cell? ⟨w.heap.size, 8, none⟩ = some (.slice A n c) := by rw [hb.cell 8]; exact h8
  have c9 : (w.alloc (.cells HC 96)).cell? ⟨w.heap.size, 9, none⟩ = some (.int .i64 L) := by rw [hb.cell 9]; exact h9
  have d1 : decide (0 ≤ L) = true := decide_eq_true h0
  have d2 : decide (L ≤ 72057594037927936) = true := decide_eq_true h1
  have d3 : Int.tmod L 64 = L % 64 := Int.tmod_eq_emod_of_nonneg h0
  have d4 : decide ((n : Int) = L % 64) = true := decide_eq_true hn
  go_enter Try.func62, Try.ntmps62
  go_wp2
  go_ret
  exact ⟨rfl, (Frm.refl NoB w).alloc _⟩
/-- a hasher's cells -/
def hashC (x0 x1 x2 x3 x4 x5 x6 x7 : Int) (r : Value) (L : Int) : Array Value := #[.int .u32 x0, .int .u32 x1, .int .u32 x2, .int .u32 x3, .int .u32 x4, .int .u32 x5, .int .u32 x6, .int .u32 x7, r, .int .i64 L]
set_option maxRecDepth 100000 in
theorem new_is (b : Nat) (T : List Int) (w : World) (h : RdAt w b T) :
    Calls Try.prog 55 #[.pointer (some ⟨b, 0, none⟩)] w fun e w' => e = .returned (.agg (hashC (T.getD 0 0) (T.getD 1 0) (T.getD 2 0) (T.getD 3 0) (T.getD 4 0) (T.getD 5 0) (T.getD 6 0) (T.getD 7 0) (.slice none 0 0) 0)) ∧ Frm NoB w w' := by
  have hf : Frm NoB w (w.alloc (.cells #[.int .u32 0, .int .u32 0, .int .u32 0, .int .u32 0, .int .u32 0, .int .u32 0, .int .u32 0, .int .u32 0, .slice none 0 0, .int .i64 0] 96)) := (Frm.refl NoB w).alloc _
  have c0 := (h.frm hf (fun e => e)).cell (i := 0) (by omega)
  have c1 := (h.frm hf (fun e => e)).cell (i := 1) (by omega)
  have c2 := (h.frm hf (fun e => e)).cell (i := 2) (by omega)
  have c3 := (h.frm hf (fun e => e)).cell (i := 3) (by omega)
  have c4 := (h.frm hf (fun e => e)).cell (i := 4) (by omega)
  have c5 := (h.frm hf (fun e => e)).cell (i := 5) (by omega)
  have c6 := (h.frm hf (fun e => e)).cell (i := 6) (by omega)
  have c7 := (h.frm hf (fun e => e)).cell (i := 7) (by omega)
  clear h hf
  generalize T.getD 0 0 = x0 at *
  generalize T.getD 1 0 = x1 at *
  generalize T.getD 2 0 = x2 at *
  generalize T.getD 3 0 = x3 at *
  generalize T.getD 4 0 = x4 at *
  generalize T.getD 5 0 = x5 at *
  generalize T.getD 6 0 = x6 at *
  generalize T.getD 7 0 = x7 at *
  go_enter Try.func55, Try.ntmps55
  go_wp2
  refine bodyPost_ret (results_cell_row rfl _ _ w.heap.size 96 _ (0, 0) _ rfl (Blk.new _ _ _) Try.underlying96 rfl hasher_size) rfl ⟨rfl, (Frm.refl NoB w).alloc _⟩
end Go.Proofs.Ytmahaihcmmmhbaa
