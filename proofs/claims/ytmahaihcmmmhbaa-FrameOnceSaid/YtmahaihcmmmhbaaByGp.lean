/-
  What a function that appends tells.
-/
import Derived.Test.YtmahaihcmmmhbaaByNw
import Derived.Test.YtmahaihcmmmhbaaBytW
namespace Go.Proofs.Ytmahaihcmmmhbaa
open Go.RowKit
theorem take_next {l : List Int} {j : Nat} (h : j < l.length) : l.take j ++ [l.getD j 0] = l.take (j + 1) := by
  rw [List.take_succ_eq_append_getElem h, List.getD_eq_getElem?_getD, List.getElem?_eq_getElem h]; rfl
section
variable {w : World} {B : Nat} {sv vx : Value} {xs ys : List Int}
def GrewPost (w : World) (B : Nat) (sv : Value) (ys : List Int) (e : Ending) (w' : World) : Prop := ∃ v', e = .returned v' ∧ Grew w B sv v' ys w'
end
end Go.Proofs.Ytmahaihcmmmhbaa
