/-
  What is erased is blank, what is blank takes any words, what is written twice is as once.
-/
import Derived.Test.YtplngfphklpicaaDrvErases1
import Derived.Test.YtplngfphklpicaaDrvErases2
namespace Go.Proofs.Ytplngfphklpicaa
open Go.RowKit
theorem driveErases_is (w : World) (A : Option Addr) (cp : Nat) (ops : List OpS) (hO : OpsAt w w.heap.size A ops) (hm : (ops.length : Int) ≤ 9223372036854775807) (sec : Int) (b1 : -9223372036854775808 ≤ sec ∧ sec ≤ 9223372036854775807)
    (AL : Option Addr) (cL : Nat) (l : List Int) (hL : RowArg w w.heap.size AL cL l) :
    Calls Try.prog 7 #[.slice A ops.length cp, .int .i64 sec, .slice AL l.length cL] w fun e w' => e = .returned (.bool true) ∧ Frm NoB w w' := by
  rcases Nat.lt_or_ge 64 l.length with h | h
  · exact driveErases_1 w A cp ops hO hm sec b1 AL cL l hL h
  · exact driveErases_2 w A cp ops hO hm sec b1 AL cL l hL h
end Go.Proofs.Ytplngfphklpicaa
