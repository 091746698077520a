/-
  A flash that is owned: words and choices that are arguments; made; SameNors.
-/
import Derived.Test.YtlbnhmcejbidnaaNorLaw5
import Derived.Test.YtlbnhmcejbidnaaNorLaw6
import Derived.Test.YtlbnhmcejbidnaaArgs
namespace Go.Proofs.Ytlbnhmcejbidnaa
open Go.RowKit
section
variable {w0 w : World} {p q c : Nat} {s : NorS}
/-- words of an argument are programmed -/
theorem own_program_arg (sec k : Int) (A : Option Addr) (cp n : Nat) (xs : List Int) (hn : xs.length = n) (h : Own w0 w p q c s) (hx : Rd w A (ints .u32 xs)) (hA : xs ≠ [] → ∀ a, A = some a → a.block < w0.heap.size) (ux : U32 xs) (hm : (xs.length : Int) ≤ 9223372036854775807) :
    Calls Try.prog 20 #[.pointer (some ⟨p, 0, none⟩), .int .i64 sec, .int .i64 k, .slice A n cp] w fun e w' => e = .returned (.int .i64 (s.programE sec k xs)) ∧ Own w0 w' p q c (s.program sec k xs) ∧ Frm (Two p q) w w' := by
  have h1 := h.p0; have h2 := h.q0
  refine (program_at sec k A cp n xs hn h.n hx (fun hne a ha e => ?_) ux hm).mono ?_
  · have := hA hne a ha
    rcases e with e | e <;> omega
  · rintro e w' ⟨rfl, hn, hf⟩
    exact ⟨rfl, h.step hn hf, hf⟩
theorem own_crash_arg (A : Option Addr) (cp : Nat) (ks : List Bool) (h : Own w0 w p q c s) (hx : Rd w A (bools ks)) (hA : ks ≠ [] → ∀ a, A = some a → a.block < w0.heap.size) (hm : (ks.length : Int) ≤ 9223372036854775807) :
    Calls Try.prog 21 #[.pointer (some ⟨p, 0, none⟩), .slice A ks.length cp] w fun e w' => e = .returned (.tuple #[]) ∧ Own w0 w' p q c (s.crash ks) ∧ Frm (Two p q) w w' := by
  have h1 := h.p0; have h2 := h.q0
  refine (crash_is A cp ks h.n hx (fun hne a ha e => ?_) hm).mono ?_
  · have := hA hne a ha
    rcases e with e | e <;> omega
  · rintro e w' ⟨rfl, hn, hf⟩
    exact ⟨rfl, h.step hn hf, hf⟩
theorem own_made (A : Option Addr) (cp : Nat) (ops : List OpS) (hf : Frm NoB w0 w) (h : OpsAt w w0.heap.size A ops) (hm : (ops.length : Int) ≤ 9223372036854775807) :
    Calls Try.prog 16 #[.slice A ops.length cp] w fun e w' => ∃ p q c, e = .returned (.tuple #[.pointer (some ⟨p, 0, none⟩), .bool true]) ∧ Own w0 w' p q c (((NorS.new 4 2).runs ops).crash []) ∧ w.heap.size ≤ p ∧ w.heap.size ≤ q ∧ Frm NoB w w' := by
  refine (made_is A cp ops h hf.size hm).mono ?_
  rintro e w' ⟨p, q, c, rfl, hn, hp, hq, hF⟩
  have := hf.size
  exact ⟨p, q, c, rfl, ⟨hn, hf.trans hF, by omega, by omega⟩, hp, hq, hF⟩
theorem own_same {p' q' c' : Nat} {t : NorS} (h : Own w0 w p q c s) (h' : Own w0 w p' q' c' t) (b : Bool) (hb : s.same t = b) :
    Calls Try.prog 23 #[.pointer (some ⟨p, 0, none⟩), .pointer (some ⟨p', 0, none⟩)] w fun e w' => e = .returned (.bool b) ∧ Frm NoB w w' := by
  subst hb
  exact sameNors_is h.n h'.n
end
theorem own_arm' {w0 w : World} {p q c : Nat} {s : NorS} (k : Int) (h : Own w0 w p q c s) (hk : k ≤ 9223372036854775807) :
    Calls Try.prog 19 #[.pointer (some ⟨p, 0, none⟩), .int .i64 k] w fun e w' => e = .returned (.tuple #[]) ∧ Own w0 w' p q c (s.arms k) ∧ Frm (Two p q) w w' := by
  refine (arm_is k h.n hk).mono ?_
  rintro e w' ⟨rfl, hn, hf⟩
  exact ⟨rfl, h.step hn hf, hf⟩
end Go.Proofs.Ytlbnhmcejbidnaa
