/-
  What was written with OK is read so.
-/
import Derived.Test.YtplngfphklpicaaDrvKeeps1
import Derived.Test.YtplngfphklpicaaDrvKeeps2
namespace Go.Proofs.Ytplngfphklpicaa
open Go.RowKit
theorem driveKeeps_is (w : World) (A : Option Addr) (cp : Nat) (ops : List OpS) (hO : OpsAt w w.heap.size A ops) (hm : (ops.length : Int) ≤ 9223372036854775807) (pl : Int) (b1 : -9223372036854775808 ≤ pl ∧ pl ≤ 9223372036854775807)
    (AL : Option Addr) (cL : Nat) (l : List Int) (hL : RowArg w w.heap.size AL cL l) (steps : Nat) (hst : steps ≤ 255) (fails : Bool) :
    Calls Try.prog 4 #[.slice A ops.length cp, .int .i64 pl, .slice AL l.length cL, .int .u8 steps, .bool fails] w fun e w' => e = .returned (.bool true) ∧ Frm NoB w w' := by
  obtain ⟨k, hk⟩ := Int.eq_ofNat_of_zero_le (pick_lo pl (n := 193) (by omega))
  rcases Nat.lt_or_ge (192 - k) l.length with h | h
  · exact driveKeeps_1 w A cp ops hO hm pl b1 AL cL l hL steps hst fails k hk h
  · exact driveKeeps_2 w A cp ops hO hm pl b1 AL cL l hL steps hst fails k hk h
theorem driveKeeps_is' (w : World) (A : Option Addr) (cp : Nat) (ops : List OpS) (hO : OpsAt w w.heap.size A ops) (hm : (ops.length : Int) ≤ 9223372036854775807) (pl : Int) (b1 : -9223372036854775808 ≤ pl ∧ pl ≤ 9223372036854775807)
    (AL : Option Addr) (cL : Nat) (l : List Int) (hL : RowArg w w.heap.size AL cL l) (steps : Int) (hst : 0 ≤ steps ∧ steps ≤ 255) (fails : Bool) :
    Calls Try.prog 4 #[.slice A ops.length cp, .int .i64 pl, .slice AL l.length cL, .int .u8 steps, .bool fails] w fun e w' => e = .returned (.bool true) ∧ Frm NoB w w' := by
  obtain ⟨n, rfl⟩ := Int.eq_ofNat_of_zero_le hst.1
  exact driveKeeps_is w A cp ops hO hm pl b1 AL cL l hL n (by omega) fails
end Go.Proofs.Ytplngfphklpicaa
