/-
  An argument of numbers of 16 bits, opened.
-/
import Derived.Test.YtmeegehmbphooaaTalOpens
import Derived.Test.YtmeegehmbphooaaOpenRows
namespace Go.Proofs.Ytmeegehmbphooaa
open Go.ChangeShapes Go.WideShapes Go.ChangeAt Go.RowKit Go.Deep
section
variable {H : Type} {enc : TypeId × Value → H} {W : World}
theorem open_arg_row16 {t e : TypeId} (ht : Try.prog.underlying t = some (.slice e)) (he : Try.prog.underlying e = some (.int .u16)) (hc : Try.prog.cellsOf e = 1) {A0 : Option Addr} {len0 cap0 : Nat} {d : DataW H} {p : List MemPlace} (h : DataW.Trod enc Try.prog W 0 (fun _ => true) true t (.slice A0 len0 cap0) d p) :
    ∃ (A : Option Addr) (c : Nat) (xs : List Int), Value.slice A0 len0 cap0 = .slice A xs.length c ∧ Row16 W W.heap.size A xs := by
  obtain ⟨fuel, hf⟩ := h
  obtain ⟨A, c, xs, e, r, w, l, m⟩ := open_row ht he hc hf
  have := cap_i64 m
  exact ⟨A, c, xs, e, ⟨r, fun hne => r.below (ints_ne hne), fun x hx => by have := bounds_u16 (w x hx); omega, by omega⟩⟩
end
end Go.Proofs.Ytmeegehmbphooaa
