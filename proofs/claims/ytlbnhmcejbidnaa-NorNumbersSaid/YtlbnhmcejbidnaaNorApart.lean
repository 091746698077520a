/-
  Two flashes, apart.
-/
import Derived.Test.YtlbnhmcejbidnaaNorLaw6
namespace Go.Proofs.Ytlbnhmcejbidnaa
open Go.RowKit
structure Apart (p q p' q' : Nat) : Prop where
  h1 : p ≠ p'
  h2 : p ≠ q'
  h3 : q ≠ p'
  h4 : q ≠ q'
theorem Apart.symm {p q p' q' : Nat} (h : Apart p q p' q') : Apart p' q' p q := ⟨h.h1.symm, h.h3.symm, h.h2.symm, h.h4.symm⟩
theorem Own.beside {w0 w w' : World} {p q c : Nat} {s : NorS} {p' q' c' : Nat} {s' : NorS} (h : Own w0 w p q c s) (k : Frm (Two p' q') w w') (h' : Own w0 w p' q' c' s') (ha : Apart p q p' q') : Own w0 w' p q c s :=
  h.other k h'.p0 h'.q0 ha.h1 ha.h2 ha.h3 ha.h4
end Go.Proofs.Ytlbnhmcejbidnaa
