/-
  slices.Grow of none.
-/
import Derived.Test.YtmahaihcmmmhbaaSh9
import Derived.Lib.AppendZeros
namespace Go.Proofs.Ytmahaihcmmmhbaa
open Go.RowKit
theorem zeros_size (z : Value) (hz : z.cells.size = 1) : ∀ n, (Builtin.zeroCells z.cells n).size = n := by
  intro n
  simp [Builtin.zeroCells, hz]
set_option maxRecDepth 100000 in
/-- Grow of none: an empty row with room -/
theorem grow_is (n : Nat) (hn : n ≤ 16777216) (w : World) : Calls Try.prog 72 #[.slice none 0 0, .int .i64 n] w (ClonePost w []) := by
  by_cases h0 : n = 0
  · subst h0
    go_enter Try.func72, Try.ntmps72
    go_wp2
    go_ret
    exact ⟨_, rfl, Ob.nil _ _, Frm.refl _ _⟩
  · have d0 : decide ((n : Int) < 0) = false := decide_eq_false (by omega)
    have d1 : decide ((0 : Int) < (n : Int)) = true := decide_eq_true (by omega)
    obtain ⟨i0, hi0, hz0, hz1, hz2⟩ := info_parts uint8_info
    have hrun := fun ty => Lib.run_append_nil_zeros (P := Try.prog) w 32 3 ty 5 i0 _ .i64 .i64 Try.underlying32 Try.underlying3 hi0 hz0 n (by omega) (by omega) (by omega) (by rw [hz2]; omega)
    have hO : Ob (w.drew.alloc (.cells (Builtin.zeroCells (Value.int .u8 0).cells n ++ Builtin.zeroCells (Value.int .u8 0).cells (grownCap w n 0 5 - n)) 5)) w.heap.size (.slice (some ⟨w.heap.size, 0, none⟩) 0 (grownCap w n 0 5)) [] :=
      ⟨World.ownsRow_made w.drew _ _ (Nat.le_refl _) (grownCap_le_maxLen _ _ _ _ (by simp only [maxLen]; omega)) (by
        rw [Array.size_append, zeros_size _ rfl, zeros_size _ rfl]
        have := grownCap_ge w n 0 5
        omega), U8.nil⟩
    have HO := hide hO
    clear hO
    go_enter Try.func72, Try.ntmps72
    go_wp2_with (at_builtin; refine Lib.wpList_append_run w rfl (.tmp 20) (.tmp 21) 32 3 rfl _ _ rfl rfl _ _ (hrun _) ?_)
    go_ret
    exact ⟨_, rfl, HO.out, ((Frm.refl NoB w).alloc _).drew⟩
end Go.Proofs.Ytmahaihcmmmhbaa
