/-
  What is erased is blank, what is blank takes any words, what is written twice is as once: the walk.
-/
import Derived.Test.YtplngfphklpicaaDrvOps
import Derived.Test.YtplngfphklpicaaDrvEraseP
import Derived.Test.YtplngfphklpicaaDrvAwake
import Derived.Test.YtplngfphklpicaaArgs
namespace Go.Proofs.Ytplngfphklpicaa
open Go.RowKit
theorem mD_ok {s : NorS} (h : s.n = 5) : mD.Ok s := ⟨by decide, by rw [h]; decide⟩
theorem mD_read {s : NorS} (h : DrvS.Calm s) : mD.rdE s 0 192 = 0 := DrvS.rdE_ok h.dn ⟨by decide, by decide, by decide, by decide⟩
theorem mD_rd {s : NorS} (h : DrvS.Calm s) : mD.rd s 0 192 = mD.words s 0 192 := by
  unfold DrvS.rd; rw [if_pos (mD_read h)]; rfl
theorem dread_all {w : World} {g p q c : Nat} {s : NorS} (h : DrvAt w g p mD) (hn : NorAt w p q c s) (hd : mD.Ok s) (hc : DrvS.Calm s) :
    Calls Try.prog 9 #[.pointer (some ⟨g, 0, none⟩), .int .i64 0, .int .i64 192] w fun e w' => ∃ A cp, e = .returned (.tuple #[.slice A 192 cp, .int .i64 0]) ∧ Rd w' A (ints .u32 (mD.words s 0 192)) ∧ (∀ b, A = some b → w.heap.size ≤ b.block) ∧ Frm NoB w w' := by
  have hl := DrvS.words_length (a := 0) (m := 192) hn.ok hd (by decide)
  refine (dread_is 0 192 h hn hd).mono ?_
  rintro e w' ⟨A, cp, h1, h2, h3, h4, h5⟩
  rw [mD_rd hc] at h1 h2
  rw [mD_read hc, hl] at h1
  exact ⟨A, cp, h1, h2, h3, h5⟩
theorem cast64 (k : Nat) : ((64 * k : Nat) : Int) = 64 * (k : Int) := by omega
def DErRel (w6 : World) (i : Value) (wr : World) : Prop := ∃ j : Nat, j ≤ 192 ∧ i = .int .i64 j ∧ wr = w6
end Go.Proofs.Ytplngfphklpicaa
