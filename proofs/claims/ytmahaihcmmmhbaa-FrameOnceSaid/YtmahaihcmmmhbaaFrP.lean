/-
  Plain: a window, and what has come.
-/
import Derived.WalkKit
namespace Go.Proofs.Ytmahaihcmmmhbaa
/-- a number has come: the window then; was it taken? -/
def onceN (last seen seq : Nat) : Nat × Nat × Bool :=
  if last < seq then (seq, (if seq - last < 64 then (seen <<< (seq - last)) % 2 ^ 64 else 0) ||| 1, true)
  else if 64 ≤ last - seq ∨ seen.testBit (last - seq) = true then (last, seen, false)
  else (last, seen ||| (1 <<< (last - seq)), true)
/-- what a window knows -/
structure Win (come : Nat → Bool) (last seen : Nat) : Prop where
  lt : seen < 2 ^ 64
  bit : ∀ i, i < 64 → seen.testBit i = come (last - i)
  far : ∀ s, last < s → come s = false
  no : come 0 = false
def comeAnd (come : Nat → Bool) (s : Nat) : Nat → Bool := fun k => decide (k = s) || come k
theorem win0 : Win (fun _ => false) 0 0 := ⟨by decide, fun i _ => by simp, fun _ _ => rfl, rfl⟩
theorem Win.ok {come : Nat → Bool} {last seen seq : Nat} (h : Win come last seen) (h1 : 1 ≤ seq) :
    (onceN last seen seq).2.2 = (!come seq && decide (last - seq < 64)) := by
  unfold onceN
  by_cases h2 : last < seq
  · rw [if_pos h2, h.far _ h2]
    simp; omega
  · rw [if_neg h2]
    by_cases h3 : 64 ≤ last - seq
    · rw [if_pos (.inl h3)]
      simp; omega
    · have hb := h.bit (last - seq) (by omega)
      rw [show last - (last - seq) = seq from by omega] at hb
      by_cases h4 : seen.testBit (last - seq) = true
      · rw [if_pos (.inr h4), ← hb, h4]; rfl
      · rw [if_neg (fun h => h.elim h3 h4), ← hb]
        simp at h4
        rw [h4]
        simp; omega
theorem Win.same {come : Nat → Bool} {last seen seq : Nat} (_h : Win come last seen) (hn : (onceN last seen seq).2.2 = false) : (onceN last seen seq).1 = last ∧ (onceN last seen seq).2.1 = seen := by
  unfold onceN at hn ⊢
  by_cases h2 : last < seq
  · rw [if_pos h2] at hn; cases hn
  · rw [if_neg h2] at hn ⊢
    by_cases h3 : 64 ≤ last - seq ∨ seen.testBit (last - seq) = true
    · rw [if_pos h3]; exact ⟨rfl, rfl⟩
    · rw [if_neg h3] at hn; cases hn
theorem Win.next {come : Nat → Bool} {last seen seq : Nat} (h : Win come last seen) (h1 : 1 ≤ seq) (hn : (onceN last seen seq).2.2 = true) :
    Win (comeAnd come seq) (onceN last seen seq).1 (onceN last seen seq).2.1 ∧ (onceN last seen seq).1 = max last seq := by
  unfold onceN at hn ⊢
  by_cases h2 : last < seq
  · rw [if_pos h2]
    refine ⟨⟨?_, fun i hi => ?_, fun s hs => ?_, ?_⟩, by show seq = _; omega⟩
    · refine Nat.or_lt_two_pow ?_ (by decide)
      split
      · exact Nat.mod_lt _ (by decide)
      · decide
    · show (_ ||| 1).testBit i = (decide (seq - i = seq) || come (seq - i))
      rw [Nat.testBit_or]
      by_cases h0 : i = 0
      · subst h0; simp
      · have e1 : Nat.testBit 1 i = false := by
          cases e : Nat.testBit 1 i
          · rfl
          · exact absurd (Nat.testBit_one_eq_true_iff_self_eq_zero.1 e) h0
        rw [e1, Bool.or_false, decide_eq_false (by omega), Bool.false_or]
        by_cases h3 : seq - last < 64
        · rw [if_pos h3, Nat.testBit_mod_two_pow, decide_eq_true hi, Bool.true_and, Nat.testBit_shiftLeft]
          by_cases h4 : seq - last ≤ i
          · rw [h.bit _ (by omega)]
            rw [show decide (i ≥ seq - last) = true from decide_eq_true h4, Bool.true_and]
            congr 1
            omega
          · rw [show decide (i ≥ seq - last) = false from decide_eq_false h4, Bool.false_and, h.far _ (by omega)]
        · rw [if_neg h3, Nat.zero_testBit, h.far _ (by omega)]
    · show (decide (s = seq) || come s) = false
      have hs : seq < s := hs
      rw [decide_eq_false (by omega), h.far _ (by omega)]; rfl
    · show (decide (0 = seq) || come 0) = false
      rw [decide_eq_false (by omega), h.no]; rfl
  · rw [if_neg h2] at hn ⊢
    by_cases h3 : 64 ≤ last - seq ∨ seen.testBit (last - seq) = true
    · rw [if_pos h3] at hn; cases hn
    · rw [if_neg h3]
      have h4 : ¬ 64 ≤ last - seq := fun e => h3 (.inl e)
      refine ⟨⟨?_, fun i hi => ?_, fun s hs => ?_, ?_⟩, by show last = _; omega⟩
      · refine Nat.or_lt_two_pow h.lt ?_
        rw [Nat.one_shiftLeft]
        exact Nat.pow_lt_pow_right (by decide) (by omega)
      · show (seen ||| (1 <<< (last - seq))).testBit i = (decide (last - i = seq) || come (last - i))
        rw [Nat.testBit_or, h.bit _ hi, Nat.one_shiftLeft, Nat.testBit_two_pow]
        by_cases h5 : last - seq = i
        · rw [decide_eq_true h5, decide_eq_true (by omega), Bool.or_true, Bool.true_or]
        · rw [decide_eq_false h5, decide_eq_false (by omega), Bool.or_false, Bool.false_or]
      · show (decide (s = seq) || come s) = false
        have hs : last < s := hs
        rw [decide_eq_false (by omega), h.far _ hs]; rfl
      · show (decide (0 = seq) || come 0) = false
        rw [decide_eq_false (by omega), h.no]; rfl
/-- two windows that know the same are the same -/
theorem Win.eq {come : Nat → Bool} {last a b : Nat} (ha : Win come last a) (hb : Win come last b) : a = b := by
  refine Nat.eq_of_testBit_eq (fun i => ?_)
  by_cases hi : i < 64
  · rw [ha.bit i hi, hb.bit i hi]
  · rw [Nat.testBit_lt_two_pow (Nat.lt_of_lt_of_le ha.lt (Nat.pow_le_pow_right (by decide) (by omega))), Nat.testBit_lt_two_pow (Nat.lt_of_lt_of_le hb.lt (Nat.pow_le_pow_right (by decide) (by omega)))]
end Go.Proofs.Ytmahaihcmmmhbaa
