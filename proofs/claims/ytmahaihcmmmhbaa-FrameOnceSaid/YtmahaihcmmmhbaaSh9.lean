/-
  slices.Clone.
-/
import Derived.Test.YtmahaihcmmmhbaaByt2u
import Derived.Deep.DeepCutAuto
namespace Go.Proofs.Ytmahaihcmmmhbaa
open Go.RowKit
def ClonePost (w : World) (xs : List Int) (e : Ending) (w' : World) : Prop := ∃ v', e = .returned v' ∧ Ob w' w.heap.size v' xs ∧ Frm NoB w w'
section
variable {w : World} {v : Value} {xs : List Int}
set_option maxRecDepth 100000 in
theorem clone8_is (hy : By w v xs) (hl : xs.length ≤ 16777216) :
    Calls Try.prog 66 #[v] w (ClonePost w xs) := by
  have HY := hide hy
  obtain ⟨A, c, rfl, hr, hz, hlc, hc, hu⟩ := hy
  have q := fun (w : World) (a : Option Addr) (n c n' c' : Nat) => Lib.run_eql_slice_nil (P := Try.prog) w 32 5 a n c n' c' Try.underlying32
  cases A with
  | none =>
    have h0 : xs.length = 0 := by have := hz rfl; omega
    have e0 : xs = [] := List.eq_nil_of_length_eq_zero h0
    subst e0
    clear hr hz hlc hc hu
    go_enter Try.func66, Try.ntmps66
    go_wp2
    go_ret
    exact ⟨_, rfl, Ob.nil _ _, Frm.refl _ _⟩
  | some a =>
    clear hr hz hlc hc hu
    have hf : Frm NoB w (w.alloc (.cells #[] 5)) := (Frm.refl NoB w).alloc _
    have HF := hide hf
    have ho : Ob (w.alloc (.cells #[] 5)) w.heap.size (.slice (some ⟨w.heap.size, 0, none⟩) 0 0) [] := ⟨World.ownsRow_made w #[] 0 (Nat.le_refl _) (Nat.zero_le _) rfl, U8.nil⟩
    have HO := hide ho
    clear hf ho
    go_enter Try.func66, Try.ntmps66
    go_wp2_with (at_builtin; refine append_bytes rfl (.tmp 5) (.tmp 6) rfl w.heap.size _ _ [] xs rfl rfl HO.out (HY.out.frm0 HF.out) (by simpa using hl) (by simp) ?_; intro v' w' hg)
    go_ret
    refine ⟨v', rfl, hg.o, ?_⟩
    exact (HF.out).then_ hg.f (fun i hi e => by
      have e : some w.heap.size = some i := e
      injection e with e
      omega)
end
end Go.Proofs.Ytmahaihcmmmhbaa
