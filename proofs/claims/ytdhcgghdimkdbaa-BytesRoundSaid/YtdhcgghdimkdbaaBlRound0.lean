/-
  What is written down, piece by piece, is read back: what the walk wants.
-/
import Derived.Test.YtdhcgghdimkdbaaBl4
import Derived.Deep.RegionHeld3
namespace Go.Proofs.Ytdhcgghdimkdbaa
open Go.RowKit
/-- rows of pieces that came in -/
structure PcsIn (w : World) (A : Option Addr) (c : Nat) (ps : List PcS) (bl o : Nat) : Prop where
  a : ps ≠ [] → A = some ⟨bl, o, none⟩ ∧ bl < w.heap.size
  l : ps.length ≤ c
  m : (c : Int) ≤ 9223372036854775807
  at_ : ∀ i (hi : i < ps.length), ∃ v, PcIn w (ps[i]'hi) v ∧ w.cell? ⟨bl, o + i * 3, none⟩ = some (.int .u8 (ps[i]'hi).kind) ∧ w.cell? ⟨bl, o + i * 3 + 1, none⟩ = some (.int .u64 (ps[i]'hi).n) ∧ w.cell? ⟨bl, o + i * 3 + 2, none⟩ = some v
def Rd1Rel (w : World) (qs : List PcS) (i : Value) (wr : World) : Prop := ∃ j : Nat, j ≤ qs.length ∧ i = .int .i64 j ∧ (∀ k (h : k < qs.length), k < j → (qs[k]'h).b.length ≤ 100) ∧ Frm NoB w wr
def Rd2Rel (w : World) (xs : List Int) (qs : List PcS) (a i : Value) (wr : World) : Prop := ∃ j : Nat, j ≤ qs.length ∧ i = .int .i64 j ∧ a = .int .i64 ((xs.length + (wrtAll (qs.take j)).length : Nat) : Int) ∧ Frm NoB w wr
theorem wrtAll_drop {xs ys : List Int} {qs : List PcS} {j : Nat} (h : j < qs.length) : ∃ r, (xs ++ wrtAll qs ++ ys).drop (xs.length + (wrtAll (qs.take j)).length) = (qs[j]'h).wrt ++ r ∧ xs.length + (wrtAll (qs.take j)).length + (qs[j]'h).wrt.length ≤ (xs ++ wrtAll qs ++ ys).length := by
  have e : wrtAll qs = wrtAll (qs.take j) ++ ((qs[j]'h).wrt ++ wrtAll (qs.drop (j + 1))) := by
    have e1 : qs = qs.take (j + 1) ++ qs.drop (j + 1) := (List.take_append_drop _ _).symm
    have e2 : wrtAll qs = wrtAll (qs.take (j + 1)) ++ wrtAll (qs.drop (j + 1)) := by
      conv => lhs; rw [e1]
      unfold wrtAll; rw [List.flatMap_append]
    rw [e2, wrtAll_next h, List.append_assoc]
  refine ⟨wrtAll (qs.drop (j + 1)) ++ ys, ?_, ?_⟩
  · rw [e, List.append_assoc, ← List.drop_drop, List.drop_left, List.append_assoc, List.drop_left, List.append_assoc]
  · rw [e]; simp only [List.length_append]; omega
end Go.Proofs.Ytdhcgghdimkdbaa
