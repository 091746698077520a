/-
  Plain: numbers from 1 to 64 alone: what a window knows is which came.
-/
import Derived.Test.YtmahaihcmmmhbaaFrP
namespace Go.Proofs.Ytmahaihcmmmhbaa
/-- did it come? -/
def comeM (l : List Nat) : Nat → Bool := fun s => decide (s ∈ l)
theorem comeM_cons (l : List Nat) (s : Nat) : comeAnd (comeM l) s = comeM (s :: l) := by
  funext k
  unfold comeAnd comeM
  rw [show decide (k ∈ s :: l) = (decide (k = s) || decide (k ∈ l)) from by simp]
theorem comeM_mem {l : List Nat} {s : Nat} (h : comeM l s = true) : comeAnd (comeM l) s = comeM l := by
  funext k
  unfold comeAnd
  by_cases hk : k = s
  · subst hk; rw [h]; simp
  · rw [decide_eq_false hk, Bool.false_or]
theorem Win.small {l : List Nat} {last seen seq : Nat} (h : Win (comeM l) last seen) (hl : last ≤ 64) (h1 : 1 ≤ seq) (h2 : seq ≤ 64) :
    Win (comeM (seq :: l)) (onceN last seen seq).1 (onceN last seen seq).2.1 ∧ (onceN last seen seq).1 ≤ 64 ∧ (onceN last seen seq).1 = max last seq := by
  have hok := h.ok h1
  by_cases hc : comeM l seq = true
  · rw [hc] at hok
    simp only [Bool.not_true, Bool.false_and] at hok
    obtain ⟨e1, e2⟩ := h.same hok
    have hle : seq ≤ last := by
      rcases Nat.lt_or_ge last seq with h3 | h3
      · have := h.far _ h3; rw [hc] at this; cases this
      · exact h3
    rw [e1, e2, ← comeM_cons, comeM_mem hc]
    exact ⟨h, hl, by omega⟩
  · have hc : comeM l seq = false := by simpa using hc
    rw [hc, decide_eq_true (by omega)] at hok
    obtain ⟨hw, hm⟩ := h.next h1 hok
    rw [comeM_cons] at hw
    exact ⟨hw, by omega, hm⟩
theorem Win.taken {l : List Nat} {last seen seq : Nat} (h : Win (comeM l) last seen) (h1 : 1 ≤ seq) (hm : seq ∈ l) : (onceN last seen seq).2.2 = false := by
  rw [h.ok h1]
  unfold comeM
  rw [decide_eq_true hm]; rfl
theorem comeM_congr {a b : List Nat} (h : ∀ s, s ∈ a ↔ s ∈ b) : comeM a = comeM b := by
  funext k
  unfold comeM
  by_cases hk : k ∈ a
  · rw [decide_eq_true hk, decide_eq_true ((h k).1 hk)]
  · rw [decide_eq_false hk, decide_eq_false (fun e => hk ((h k).2 e))]
/-- the greatest -/
theorem Win.last_eq {come : Nat → Bool} {l m a b : Nat} (ha : Win come l a) (hb : Win come m b) (hl : l = 0 ∨ come l = true) (hm : m = 0 ∨ come m = true) : l = m := by
  rcases Nat.lt_trichotomy l m with h | h | h
  · rcases hm with hm | hm
    · omega
    · rw [ha.far _ h] at hm; cases hm
  · exact h
  · rcases hl with hl | hl
    · omega
    · rw [hb.far _ h] at hl; cases hl
theorem Win.small_top {l : List Nat} {last seen seq : Nat} (h : Win (comeM l) last seen) (hl : last ≤ 64) (h1 : 1 ≤ seq) (h2 : seq ≤ 64) (ht : last = 0 ∨ comeM l last = true) :
    comeM (seq :: l) (onceN last seen seq).1 = true := by
  rw [(h.small hl h1 h2).2.2]
  unfold comeM at ht ⊢
  by_cases hc : last ≤ seq
  · rw [Nat.max_eq_right hc]; simp
  · rw [Nat.max_eq_left (by omega)]
    rcases ht with ht | ht
    · omega
    · have := of_decide_eq_true ht
      simp [this]
end Go.Proofs.Ytmahaihcmmmhbaa
