/-
  Program, Rewrite at an argument.
-/
import Derived.Test.YtmeegehmbphooaaNor8
import Derived.Test.YtmeegehmbphooaaGen
namespace Go.Proofs.Ytmeegehmbphooaa
open Go.RowKit
section
variable {w : World} {p q c : Nat} {s : NorS}
theorem program_at (sec k : Int) (A : Option Addr) (cp n : Nat) (xs : List Int) (hn : xs.length = n) (h : NorAt w p q c s) (hx : Rd w A (ints .u32 xs)) (hA : xs ≠ [] → ∀ a, A = some a → ¬ Two p q a.block) (ux : U32 xs) (hm : (xs.length : Int) ≤ 9223372036854775807) :
    Calls Try.prog 49 #[.pointer (some ⟨p, 0, none⟩), .int .i64 sec, .int .i64 k, .slice A n cp] w fun e w' => e = .returned (.int .i64 (s.programE sec k xs)) ∧ NorAt w' p q c (s.program sec k xs) ∧ Frm (Two p q) w w' := by
  subst hn; exact program_is sec k A cp xs h hx hA ux hm
theorem rewrite_at (sec k : Int) (A : Option Addr) (cp n : Nat) (xs : List Int) (hn : xs.length = n) (h : NorAt w p q c s) (hx : Rd w A (ints .u32 xs)) (ux : U32 xs) (hm : (xs.length : Int) ≤ 9223372036854775807) :
    Calls Try.prog 25 #[.pointer (some ⟨p, 0, none⟩), .int .i64 sec, .int .i64 k, .slice A n cp] w fun e w' => e = .returned (.int .i64 (s.rewriteE sec k xs)) ∧ NorAt w' p q c (s.rewrite sec k xs) ∧ Frm (Two p q) w w' := by
  subst hn; exact rewrite_is sec k A cp xs h hx ux hm
end
end Go.Proofs.Ytmeegehmbphooaa
