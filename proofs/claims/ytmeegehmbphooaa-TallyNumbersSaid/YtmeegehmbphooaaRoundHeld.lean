/-
  A region that draws its order, within a round: reads in the order of the text, and what stands alone.
-/
import Derived.Test.YtmeegehmbphooaaRoundOp
import Derived.OrdersHeld
namespace Go.Proofs.Ytmeegehmbphooaa
open Go.RowKit
variable {P : Program} {n l₀ : Nat} {ops : Array Oper} {md : Region.Mode} {Q : Exit → Act → World → Prop} {S : World → Prop}

/-- it yields, in every world that meets S -/
def Oper.yields (P : Program) (o : Oper) (a : Act) (S : World → Prop) (K : Act → Prop) : Prop := ∃ v, (∀ w, S w → (execOp a.eval o).run P w = .ok (.value v) w) ∧ K (a.put o.dst v)
/-- the marks: true, it only reads; false, it stands alone -/
def lexM (md : Region.Mode) (ops : Array Oper) : List Bool → Nat → Array Bool → Bool
  | [], _, listed => (Region.ready md ops listed).isEmpty
  | true :: r, k, listed => (Region.ready md ops listed).contains k && Region.free md ops listed k && lexM md ops r (k + 1) (listed.setIfInBounds k true)
  | false :: r, k, listed => (Region.ready md ops listed == [k]) && lexM md ops r (k + 1) (listed.setIfInBounds k true)
/-- the walk in the order of the text -/
def wpMix (P : Program) (ops : Array Oper) (Q : Exit → Act → World → Prop) (S : World → Prop) : List Oper → List Bool → Act → World → Prop
  | o :: l, true :: r, a, w => if Region.wanted o (yielded ops a.tmps) = true then Oper.yields P o a S (fun a' => wpMix P ops Q S l r a' w) else wpMix P ops Q S l r (a.put o.dst undef) w
  | o :: l, false :: r, a, w => if Region.wanted o (yielded ops a.tmps) = true then Oper.wp P o a w (fun a' w' => S w' ∧ (S w' → wpMix P ops Q S l r a' w')) Q else S w ∧ wpMix P ops Q S l r (a.put o.dst undef) w
  | [], _, a, w => Q .normal a w
  | _, [], a, w => Q .normal a w
theorem wpMix_nil {r : List Bool} {a : Act} {w : World} (h : Q .normal a w) : wpMix P ops Q S [] r a w := by unfold wpMix; exact h
theorem wpMix_take {o : Oper} {l : List Oper} {r : List Bool} {a : Act} {w : World} (v : Value) (hw : Region.wanted o (yielded ops a.tmps) = true) (hv : ∀ w, S w → (execOp a.eval o).run P w = .ok (.value v) w) (h : wpMix P ops Q S l r (a.put o.dst v) w) :
    wpMix P ops Q S (o :: l) (true :: r) a w := by
  unfold wpMix
  rw [if_pos hw]
  exact ⟨v, hv, h⟩
theorem wpMix_alone {o : Oper} {l : List Oper} {r : List Bool} {a : Act} {w : World} (hw : Region.wanted o (yielded ops a.tmps) = true)
    (h : ∀ K : Act → World → Prop, (∀ a w, S w → (S w → wpMix P ops Q S l r a w) → K a w) → Oper.wp P o a w K Q) : wpMix P ops Q S (o :: l) (false :: r) a w := by
  unfold wpMix
  rw [if_pos hw]
  exact h _ (fun a' w' h1 h2 => ⟨h1, h2⟩)
theorem wpAnyH_mix (hs : Region.noSelect ops = true) (hQ : ∀ c a d v w, Q (.panic c) (a.put d v) w → Q (.panic c) a w) : ∀ (l : List Oper) (r : List Bool) (k : Nat) (listed : Array Bool) (a : Act) (w : World), l.length = r.length → (∀ j, l[j]? = ops[k + j]?) →
    lexM md ops r k listed = true → S w → wpMix P ops Q S l r a w → wpAnyH P md ops Q S l.length listed a w
  | [], [], k, listed, a, w, _, _, hB, _, h => by
    unfold wpMix at h
    exact ⟨by simpa [lexM] using hB, h⟩
  | [], _ :: _, _, _, _, _, hl, _, _, _, _ => by simp at hl
  | _ :: _, [], _, _, _, _, hl, _, _, _, _ => by simp at hl
  | o :: l, true :: r, k, listed, a, w, hl, hj, hB, hS, h => by
    have h0 : ops[k]? = some o := by simpa using (hj 0).symm
    have hj' : ∀ j, l[j]? = ops[k + 1 + j]? := fun j => by have := hj (j + 1); simpa [Nat.add_assoc, Nat.add_comm 1 j] using this
    simp only [lexM, Bool.and_eq_true] at hB
    obtain ⟨⟨hr, hf⟩, hB'⟩ := hB
    unfold wpMix at h
    by_cases hw : Region.wanted o (yielded ops a.tmps) = true
    · rw [if_pos hw] at h
      obtain ⟨v, hv, h⟩ := h
      exact wpAnyH_take h0 hs hf hr (fun c a w => hQ c a _ _ w) (.inl ⟨hw, hv⟩) hS (wpAnyH_mix hs hQ l r (k + 1) _ _ w (by simpa using hl) hj' hB' hS h)
    · rw [if_neg hw] at h
      exact wpAnyH_take h0 hs hf hr (fun c a w => hQ c a _ _ w) (.inr ⟨by simpa using hw, rfl⟩) hS (wpAnyH_mix hs hQ l r (k + 1) _ _ w (by simpa using hl) hj' hB' hS h)
  | o :: l, false :: r, k, listed, a, w, hl, hj, hB, hS, h => by
    have h0 : ops[k]? = some o := by simpa using (hj 0).symm
    have hj' : ∀ j, l[j]? = ops[k + 1 + j]? := fun j => by have := hj (j + 1); simpa [Nat.add_assoc, Nat.add_comm 1 j] using this
    simp only [lexM, Bool.and_eq_true] at hB
    obtain ⟨hr, hB'⟩ := hB
    have hr : Region.ready md ops listed = [k] := by simpa using hr
    refine wpAnyH_all hr (by simp) (fun i hi => ?_)
    obtain rfl : i = k := by simpa using hi
    unfold wpMix at h
    unfold wpOp
    rw [h0]
    simp only
    by_cases hw : Region.wanted o (yielded ops a.tmps) = true
    · rw [if_pos hw] at h ⊢
      exact .inl (Oper.wp_mono (fun a' w' h' => ⟨h'.1, wpAnyH_mix hs hQ l r (i + 1) _ _ w' (by simpa using hl) hj' hB' h'.1 (h'.2 h'.1)⟩) h)
    · rw [if_neg hw] at h ⊢
      exact ⟨h.1, wpAnyH_mix hs hQ l r (i + 1) _ _ w (by simpa using hl) hj' hB' hS h.2⟩
/-- A region that draws its order, within a round. -/
theorem region_mix_round {id : Nat} {a : Act} {w : World} {l : List Oper} (r : List Bool) (hm : P.follows .mixedOrders = true) (hc : l.all (fun o => Oper.calm o) = true) (hs : Region.noSelect l.toArray = true) (hl : l.length = r.length)
    (hB : lexM .any l.toArray r 0 (Array.replicate l.length false) = true) (hO : ¬ LetsOut Q) (hQ : ∀ c a d v w, Q (.panic c) (a.put d v) w → Q (.panic c) a w) (hS : S w.drew)
    (h : S w.drew → wpMix P l.toArray Q S l r a w.drew) : (Code.region id l.toArray true).wpIn (Fence.wide.inRound l₀) n P Q a w := by
  refine wpIn_region_any hm (anyIn_of_any hc hO _ _ _ _ (wpAny_of_held (S := S) _ _ _ _ ?_))
  have := wpAnyH_mix (md := .any) hs hQ l r 0 (Array.replicate l.length false) a w.drew hl (by simp) hB hS (h hS)
  simpa using this
end Go.Proofs.Ytmeegehmbphooaa
