/-
  A row of numbers of 16 bits as an argument, opened.
-/
import Derived.Test.YtmahaihcmmmhbaaOpenRows
namespace Go.Proofs.Ytmahaihcmmmhbaa
open Go.ChangeShapes Go.WideShapes Go.ChangeAt Go.RowKit Go.Deep
structure R16 (w : World) (B : Nat) (A : Option Addr) (xs : List Int) : Prop where
  r : Rd w A (ints .u16 xs)
  b : xs ≠ [] → ∀ a, A = some a → a.block < B
  u : ∀ x ∈ xs, 0 ≤ x ∧ x < 65536
  m : (xs.length : Int) ≤ 9223372036854775807
theorem R16.get {w : World} {B : Nat} {A : Option Addr} {xs : List Int} (h : R16 w B A xs) (i : Nat) : 0 ≤ xs.getD i 0 ∧ xs.getD i 0 < 65536 := by
  rcases Nat.lt_or_ge i xs.length with hi | hi
  · rw [List.getD_eq_getElem?_getD, List.getElem?_eq_getElem hi]; exact h.u _ (List.getElem_mem _)
  · rw [List.getD_eq_getElem?_getD, List.getElem?_eq_none hi]; simp
section
variable {H : Type} {enc : TypeId × Value → H} {W : World}
theorem open_arg_row16 {t e : TypeId} (ht : Try.prog.underlying t = some (.slice e)) (he : Try.prog.underlying e = some (.int .u16)) (hc : Try.prog.cellsOf e = 1) {A0 : Option Addr} {len0 cap0 : Nat} {d : DataW H} {p : List MemPlace} (h : DataW.Trod enc Try.prog W 0 (fun _ => true) true t (.slice A0 len0 cap0) d p) :
    ∃ (A : Option Addr) (c : Nat) (xs : List Int), Value.slice A0 len0 cap0 = .slice A xs.length c ∧ R16 W W.heap.size A xs := by
  obtain ⟨fuel, hf⟩ := h
  obtain ⟨A, c, xs, e, r, w, l, m⟩ := open_row ht he hc hf
  have := cap_i64 m
  exact ⟨A, c, xs, e, ⟨r, fun hne => r.below (ints_ne hne), fun x hx => by have := bounds_u16 (w x hx); omega, by omega⟩⟩
end
end Go.Proofs.Ytmahaihcmmmhbaa
