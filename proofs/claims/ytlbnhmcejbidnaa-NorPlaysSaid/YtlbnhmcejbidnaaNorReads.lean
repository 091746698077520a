/-
  reads; words at an argument.
-/
import Derived.Test.YtlbnhmcejbidnaaNor8
namespace Go.Proofs.Ytlbnhmcejbidnaa
open Go.RowKit
theorem ints_take {k : IntKind} {xs : List Int} {n : Nat} : ints k (xs.take n) = (ints k xs).take n := by simp [ints]
theorem Rd.take {w : World} {A : Option Addr} {vs : List Value} (h : Rd w A vs) (n : Nat) : Rd w A (vs.take n) := fun hv => by
  have h0 : vs ≠ [] := fun e => hv (by rw [e]; simp)
  obtain ⟨b, o, e, hc⟩ := h h0
  refine ⟨b, o, e, fun i v hi => hc i v ?_⟩
  rw [List.getElem?_take] at hi
  split at hi
  · exact hi
  · cases hi
section
variable {w : World} {p q c : Nat} {s : NorS}
theorem reads_is (sec k x : Int) (h : NorAt w p q c s) :
    Calls Try.prog 14 #[.pointer (some ⟨p, 0, none⟩), .int .i64 sec, .int .i64 k, .int .u32 x] w fun e w' => e = .returned (.bool (decide (s.up sec k 1 = 0 ∧ s.read sec k = x))) ∧ w = w' := by
  have H := hide h
  clear h
  by_cases hu : s.up sec k 1 = 0
  · have h1 : (s.up sec k 1 == 0) = true := by simpa using hu
    have HU : Hid (s.up sec k 1 = 0) := hu
    clear hu
    go_enter Try.func14, Try.ntmps14
    go_wp2_with (first
      | (go_at_call 27; refine (read_is _ _ H.out).mono ?_; rintro e w' ⟨rfl, rfl⟩))
    go_ret
    refine ⟨ret_bool ?_, rfl⟩
    rw [Bool.eq_iff_iff]
    simp [HU.out]
  · have h1 : (s.up sec k 1 == 0) = false := by simpa using hu
    have HU : Hid (¬ s.up sec k 1 = 0) := hu
    clear hu
    go_enter Try.func14, Try.ntmps14
    go_wp2_with (first
      | (go_at_call 27; refine (read_is _ _ H.out).mono ?_; rintro e w' ⟨rfl, rfl⟩))
    go_ret
    refine ⟨ret_bool ?_, rfl⟩
    rw [Bool.eq_iff_iff]
    simp [HU.out]

theorem program_at (sec k : Int) (A : Option Addr) (cp n : Nat) (xs : List Int) (hn : xs.length = n) (h : NorAt w p q c s) (hx : Rd w A (ints .u32 xs)) (hA : xs ≠ [] → ∀ a, A = some a → ¬ Two p q a.block) (ux : U32 xs) (hm : (xs.length : Int) ≤ 9223372036854775807) :
    Calls Try.prog 20 #[.pointer (some ⟨p, 0, none⟩), .int .i64 sec, .int .i64 k, .slice A n cp] w fun e w' => e = .returned (.int .i64 (s.programE sec k xs)) ∧ NorAt w' p q c (s.program sec k xs) ∧ Frm (Two p q) w w' := by
  subst hn; exact program_is sec k A cp xs h hx hA ux hm
theorem rewrite_at (sec k : Int) (A : Option Addr) (cp n : Nat) (xs : List Int) (hn : xs.length = n) (h : NorAt w p q c s) (hx : Rd w A (ints .u32 xs)) (ux : U32 xs) (hm : (xs.length : Int) ≤ 9223372036854775807) :
    Calls Try.prog 26 #[.pointer (some ⟨p, 0, none⟩), .int .i64 sec, .int .i64 k, .slice A n cp] w fun e w' => e = .returned (.int .i64 (s.rewriteE sec k xs)) ∧ NorAt w' p q c (s.rewrite sec k xs) ∧ Frm (Two p q) w w' := by
  subst hn; exact rewrite_is sec k A cp xs h hx ux hm
theorem below_two {B p q : Nat} (hp : B ≤ p) (hq : B ≤ q) : ∀ k, k < B → ¬ Two p q k := fun k hk h => by
  rcases h with h | h <;> omega

end
end Go.Proofs.Ytlbnhmcejbidnaa
