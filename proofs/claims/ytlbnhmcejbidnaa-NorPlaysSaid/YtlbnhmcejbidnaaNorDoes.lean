/-
  An op, done to a flash that is owned.
-/
import Derived.Test.YtlbnhmcejbidnaaNorLaw5
import Derived.Test.YtlbnhmcejbidnaaNorLaw6
import Derived.Deep.DeepCutAuto
namespace Go.Proofs.Ytlbnhmcejbidnaa
open Go.RowKit
section
variable {w0 w : World} {p q c : Nat} {s : NorS} {B : Nat} {o : OpS} {AL AK : Option Addr} {cL cK : Nat}
theorem own_does (h : Own w0 w p q c s) (ho : OpIs w B o AL cL AK cK) (hB : B ≤ w0.heap.size) :
    Calls Try.prog 10 #[.pointer (some ⟨p, 0, none⟩), opVal o AL cL AK cK] w fun e w' => e = .returned (.int .i64 (s.doesE o)) ∧ Own w0 w' p q c (s.does o) ∧ Frm (Two p q) w w' := by
  have h1 := h.p0; have h2 := h.q0
  refine (does_is h.n ho (by omega) (by omega)).mono ?_
  rintro e w' ⟨rfl, hn, hf⟩
  exact ⟨rfl, h.step hn hf, hf⟩
theorem quiet_of {P : Program} {f : FuncId} {args : Array Value} {w : World} {n : Nat} {v : Value} (h : ∀ n, Calls P f args (w.drewN n) fun e w' => e = .returned v ∧ w.drewN n = w') : Calls P f args (w.drewN n) fun e w'' => e = .returned v ∧ ∃ m, w'' = w.drewN m :=
  (h n).mono fun _ _ ⟨he, hm⟩ => ⟨he, n, hm.symm⟩
/-- an op that was copied into block g -/
def opCells (o : OpS) (AL : Option Addr) (cL : Nat) (AK : Option Addr) (cK : Nat) : Array Value := #[.int .i64 o.kind, .int .i64 o.sector, .int .i64 o.at_, .slice AL o.l.length cL, .slice AK o.keeps.length cK]
end
end Go.Proofs.Ytlbnhmcejbidnaa
