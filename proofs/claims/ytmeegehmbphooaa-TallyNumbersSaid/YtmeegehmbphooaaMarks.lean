/-
  A function whose body holds a range over a function: how its contract is shown, by the plain walk.
-/
import Derived.Test.YtmeegehmbphooaaRoundOp
namespace Go.Proofs.Ytmeegehmbphooaa
open Go.RowKit
variable {P : Program}
theorem quiet_of' {f : FuncId} {args : Array Value} {w : World} {n : Nat} {v : Value} (h : ∀ n, Calls P f args (w.drewN n) fun e w' => e = .returned v ∧ w.drewN n = w') : Calls P f args (w.drewN n) fun e w'' => e = .returned v ∧ ∃ m, w'' = w.drewN m :=
  (h n).mono fun _ _ ⟨he, hm⟩ => ⟨he, n, hm.symm⟩
theorem calls_marks {f : FuncId} {fn : Func} {c : Code} {args : Array Value} {w : World} {R : Ending → World → Prop} (hf : P.funcs[f]? = some fn) (hb : fn.body = some c)
    (h : c.wp P (bodyPostM Fence.wide 4 P fn R) { tmps := args ++ Array.replicate (fn.ntmps - args.size) undef, defers := [] } w) : Calls P f args w R :=
  (callsIn_wide (n := 4)).1 (callsIn_of_wp_marks hf hb trivial (wpIn_wide.2 h))
theorem postM_ret {fn : Func} {a : Act} {w : World} {R : Ending → World → Prop} {v : Value} (hres : (results fn a.tmps).run P w = .ok v w) (hd : a.defers = []) (hR : R (.returned v) w) : bodyPostM Fence.wide 4 P fn R .ret a w := by
  show LeavesInM _ _ _ _ _ _ a.defers _ _
  rw [hd]
  exact ⟨v, hres, hR⟩
theorem postM_mark {fn : Func} {a : Act} {w : World} {R : Ending → World → Prop} {v : Value} {D : Nat} (hres : (results fn a.tmps).run P (w.putObj D (.deferred none)) = .ok v (w.putObj D (.deferred none))) (hd : a.defers = [{ target := .collected D, args := #[] }])
    (hD : w.heap[D]? = some (.deferred (some []))) (hR : R (.returned v) (w.putObj D (.deferred none))) : bodyPostM Fence.wide 4 P fn R .ret a w := by
  show LeavesInM _ _ _ _ _ _ a.defers _ _
  rw [hd]
  exact ⟨by simp, .inl ⟨D, _, rfl, run_takeDeferred hD, v, hres, hR⟩⟩
theorem range_prefix {pre : List Nat} {x n : Nat} (h : pre ++ [x] <+: List.range n) : pre = List.range x ∧ x < n := by
  have hl := h.length_le
  simp at hl
  have e := List.prefix_iff_eq_take.1 h
  rw [List.length_append, List.length_singleton, List.take_range, Nat.min_eq_left (by omega), List.range_succ] at e
  obtain ⟨h1, h2⟩ := List.append_inj' e rfl
  have h3 : x = pre.length := by simpa using h2
  subst h3
  exact ⟨h1, by omega⟩
end Go.Proofs.Ytmeegehmbphooaa
