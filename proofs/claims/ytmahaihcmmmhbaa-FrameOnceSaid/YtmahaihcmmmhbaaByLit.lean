/-
  Bytes that were just laid.
-/
import Derived.Test.YtmahaihcmmmhbaaBytW
import Derived.Lib.SlBytesConst
namespace Go.Proofs.Ytmahaihcmmmhbaa
open Go.RowKit
theorem by_lit' (w : World) (g : Nat) (hg : w.heap.size = g) (ys : List Int) (u : U8 ys) (hl : ys.length ≤ 16777216) (cs : Array Value) (hcs : cs = (ints .u8 ys).toArray) (n : Nat) (hn : ys.length = n) : By (w.alloc (.cells cs 5)) (.slice (some ⟨g, 0, none⟩) n n) ys := by
  subst hg; exact by_lit w ys u hl cs hcs n hn
theorem Blk.new' (w : World) (g : Nat) (hg : w.heap.size = g) (t : TypeId) (cs : Array Value) : Blk (w.alloc (.cells cs t)) g t cs := by
  subst hg; exact Blk.new w t cs
/-- bytes of a constant string, just laid -/
theorem by_mark (w : World) (ys : List Int) (u : U8 ys) (hl : ys.length ≤ 16777216) (cs : Array Value) (hcs : cs = (ints .u8 ys).toArray) (n : Nat) (hn : ys.length = n) (fr : Nat × Nat) : By (w.alloc (.cells cs 5 fr)) (.slice (some ⟨w.heap.size, 0, none⟩) n n) ys := by
  subst hcs hn
  refine ⟨_, _, rfl, fun _ => ⟨w.heap.size, 0, rfl, fun i v hv => ?_⟩, (fun e => by cases e), Nat.le_refl _, by omega, u⟩
  rw [Nat.zero_add, World.cell?_alloc_mark]
  simpa using hv
theorem const_bytes (w : World) (C : Array Value) (n c : Nat) : (convert 32 32 (.slice (some ⟨w.heap.size, 0, none⟩) n c)).run Try.prog (w.alloc (.cells C 5)) = .ok (.slice (some ⟨w.heap.size, 0, none⟩) n c) (w.alloc (.cells C 5 (C.size, C.size + 1))) :=
  Lib.run_convert_bytes_const w 32 5 C n c Try.underlying32 Try.underlying5
end Go.Proofs.Ytmahaihcmmmhbaa
