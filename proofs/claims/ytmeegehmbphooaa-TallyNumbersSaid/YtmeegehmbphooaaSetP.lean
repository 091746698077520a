/-
  Plain: would a bit have to be set; words that are programmed in pieces.
-/
import Derived.Test.YtmeegehmbphooaaDrvP
import Derived.Laws.BitsAllLaws
namespace Go.Proofs.Ytmeegehmbphooaa
theorem and_not_zero (a b : Nat) (ha : a < 4294967296) (hb : b < 4294967296) : a &&& (4294967295 - b) = 0 ↔ a &&& b = a := by
  have hc : ∀ i, (4294967295 - b).testBit i = (decide (i < 32) && !b.testBit i) := fun i => by
    have := Nat.testBit_two_pow_sub_succ (n := 32) (x := b) (by simpa using hb) i
    rwa [show 2 ^ 32 - (b + 1) = 4294967295 - b from by omega] at this
  constructor
  · intro h
    apply Nat.eq_of_testBit_eq
    intro i
    have h1 : (a &&& (4294967295 - b)).testBit i = false := by rw [h]; simp
    rw [Nat.testBit_and, hc] at h1
    rw [Nat.testBit_and]
    by_cases hi : i < 32
    · simp [hi] at h1
      cases hx : a.testBit i
      · simp
      · simp [h1 hx]
    · have : a.testBit i = false := Nat.testBit_lt_two_pow (Nat.lt_of_lt_of_le ha (by simpa using Nat.pow_le_pow_right (show 0 < 2 by omega) (show 32 ≤ i by omega)))
      simp [this]
  · intro h
    apply Nat.eq_of_testBit_eq
    intro i
    have h1 : (a &&& b).testBit i = a.testBit i := by rw [h]
    rw [Nat.testBit_and] at h1
    rw [Nat.testBit_and, hc]
    cases hx : a.testBit i
    · simp
    · rw [hx] at h1; simp at h1; simp [h1]
theorem andNot_ne {x y : Int} (h1 : 0 ≤ x) (h2 : x < 4294967296) (h3 : 0 ≤ y) (h4 : y < 4294967296) : (bits .andNot .u32 x y != 0) = !(wand x y == x) := by
  rw [u32_andNot x y h1 h2 h3 h4]
  have h := and_not_zero x.toNat y.toNat (by omega) (by omega)
  unfold wand
  by_cases e : x.toNat &&& y.toNat = x.toNat
  · have e1 := h.2 e
    have e2 : ((x.toNat &&& y.toNat : Nat) : Int) = x := by rw [e]; omega
    rw [e1, e2]; simp
  · have e1 : ¬ x.toNat &&& (4294967295 - y.toNat) = 0 := fun e' => e (h.1 e')
    have e2 : ¬ ((x.toNat &&& y.toNat : Nat) : Int) = x := fun e' => e (by omega)
    have a1 : (((x.toNat &&& (4294967295 - y.toNat) : Nat) : Int) != 0) = true := by simpa using e1
    have a2 : (((x.toNat &&& y.toNat : Nat) : Int) == x) = false := by simpa using e2
    rw [a1, a2]; rfl
namespace NorS
theorem take_more (l : List Int) (k m : Nat) : l.take (k + m) = l.take k ++ (l.drop k).take m := by
  rw [List.take_add]
/-- a piece more -/
theorem prog_piece {s : NorS} {i k m : Nat} {l : List Int} (h : s.progs (l.take k) = true) (hk : k ≤ l.length) : s.prog i (l.take (k + m)) = (s.prog i (l.take k)).prog (i + k) ((l.drop k).take m) ∧ s.progs (l.take (k + m)) = (s.prog i (l.take k)).progs ((l.drop k).take m) := by
  rw [take_more, prog_append, progs_append (l.take k) _ s i, h, if_pos rfl, List.length_take, Nat.min_eq_left hk]
  exact ⟨rfl, by simp⟩
/-- the power fails -/
theorem prog_stop {s : NorS} {i k : Nat} {l : List Int} (h : s.progs (l.take k) = false) : s.prog i l = s.prog i (l.take k) ∧ s.progs l = false := by
  have e : l = l.take k ++ l.drop k := (List.take_append_drop k l).symm
  refine ⟨?_, ?_⟩
  · conv => lhs; rw [e]
    rw [prog_append, h, if_neg (by simp)]
  · rw [e, progs_append (l.take k) _ s i, h]; rfl
end NorS
end Go.Proofs.Ytmeegehmbphooaa
