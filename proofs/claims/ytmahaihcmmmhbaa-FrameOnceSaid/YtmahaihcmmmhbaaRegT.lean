/-
  A region that draws its order, walked in the order of the text: what always holds (S), what holds up to one store (T).
-/
import Derived.Test.YtmahaihcmmmhbaaKit
import Derived.OrdersHeld
import Derived.Deep.RegionHeld3
namespace Go.Proofs.Ytmahaihcmmmhbaa
open Go.RowKit
section
variable {P : Program} {ops : Array Oper} {Q : Exit → Act → World → Prop} {md : Region.Mode} {S T : World → Prop} {st : Nat}
/-- whatever order is picked from here on, S holds, and T as long as 'st' has not come up -/
def wpAnyU (P : Program) (md : Region.Mode) (ops : Array Oper) (Q : Exit → Act → World → Prop) (S T : World → Prop) (st : Nat) : Nat → Array Bool → Act → World → Prop
  | 0, listed, a, w => Region.ready md ops listed = [] ∧ Q .normal a w
  | fuel + 1, listed, a, w =>
    (Region.ready md ops listed = [] → Q .normal a w) ∧
    ∀ i ∈ Region.ready md ops listed, wpOp P ops Q i (fun a' w' => (S w' ∧ ((listed.setIfInBounds i true).getD st true = false → T w')) ∧ wpAnyU P md ops Q S T st fuel (listed.setIfInBounds i true) a' w') a w
theorem wpAny_of_until : ∀ (fuel : Nat) (listed : Array Bool) (a : Act) (w : World), wpAnyU P md ops Q S T st fuel listed a w → wpAny P md ops Q fuel listed a w
  | 0, _, _, _, h => h
  | fuel + 1, _, _, _, h => ⟨h.1, fun i hi => wpOp_mono (fun a' w' h' => wpAny_of_until fuel _ a' w' h'.2) (h.2 i hi)⟩
def waitsOn (md : Region.Mode) (ops : Array Oper) (i j : Nat) : Bool := ((ops[i]?).map (·.after.any fun e => e.on == j && Region.binds md e)).getD false
theorem waitsOn_spec {i j : Nat} {o : Oper} (h : waitsOn md ops i j = true) (ho : ops[i]? = some o) : ∃ e ∈ o.after, Region.binds md e = true ∧ e.on = j := by
  unfold waitsOn at h
  rw [ho] at h
  simp only [Option.map_some, Option.getD_some, Array.any_eq_true', Bool.and_eq_true, beq_iff_eq] at h
  obtain ⟨e, he, h1, h2⟩ := h
  exact ⟨e, he, h2, h1⟩
/-- what a read may lean on: S alone, or T too, if the store waits for it -/
def Leans (md : Region.Mode) (ops : Array Oper) (S T : World → Prop) (st i : Nat) (listed : Array Bool) (U : World → Prop) : Prop :=
  U = S ∨ (U = (fun w => S w ∧ T w) ∧ waitsOn md ops st i = true ∧ listed.getD st true = false)
theorem wpAnyU_first {i : Nat} {oi : Oper} {v : Value} {U : World → Prop} (hi : ops[i]? = some oi) (hist : i ≠ st) (hsel : ∀ (j : Nat) (o : Oper) cs b, ops[j]? = some o → o.op ≠ .select cs b)
    (hQ : ∀ c a w, Q (.panic c) (a.put oi.dst v) w → Q (.panic c) a w) :
    ∀ (fuel : Nat) (listed : Array Bool) (a : Act) (w : World),
      (∀ j oj, ops[j]? = some oj → j ≠ i → listed.getD j true = false → (∀ e ∈ oj.after, Region.binds md e = true → e.on ≠ i) → oi.apart ops oj = true) →
      i ∈ Region.ready md ops listed → YieldsIf P ops U oi v a → Leans md ops S T st i listed U → S w → (listed.getD st true = false → T w) →
      wpAnyU P md ops Q S T st fuel (listed.setIfInBounds i true) (a.put oi.dst v) w → wpAnyU P md ops Q S T st (fuel + 1) listed a w := by
  intro fuel
  induction fuel with
  | zero =>
    intro listed a w _ hr hy hL hS hT H
    have hU : U w := by
      rcases hL with rfl | ⟨rfl, -, h⟩
      · exact hS
      · exact ⟨hS, hT h⟩
    refine ⟨fun h => (by rw [h] at hr; cases hr), fun j hj => ?_⟩
    by_cases hji : j = i
    · subst hji
      exact hy.wpOp hi hU ⟨⟨hS, fun h => hT (by rwa [getD_set_ne true hist] at h)⟩, H⟩
    · have := ready_mono hj hji
      rw [H.1] at this
      cases this
  | succ fuel ih =>
    intro listed a w hfree hr hy hL hS hT H
    have hU : U w := by
      rcases hL with rfl | ⟨rfl, -, h⟩
      · exact hS
      · exact ⟨hS, hT h⟩
    refine ⟨fun h => (by rw [h] at hr; cases hr), fun j hj => ?_⟩
    by_cases hji : j = i
    · subst hji
      exact hy.wpOp hi hU ⟨⟨hS, fun h => hT (by rwa [getD_set_ne true hist] at h)⟩, H⟩
    · have h1 := H.2 j (ready_mono hj hji)
      obtain ⟨hjun, oj, hoj, hall⟩ := mem_ready.1 hj
      have hiun : listed.getD i true = false := (mem_ready.1 hr).1
      have hclash : ∀ x, x = i → listed.getD x false = true → False := fun x hx hq => by
        rw [hx] at hq
        rcases Nat.lt_or_ge i listed.size with h' | h'
        · simp [h'] at hiun hq; rw [hiun] at hq; cases hq
        · simp [Array.getElem?_eq_none h'] at hq
      have hnot : ∀ e ∈ oj.after, Region.binds md e = true → e.on ≠ i := fun e he hb heq => hclash _ heq (hall e he hb)
      have h2 := wpOp_putIf hoj (hfree j oj hoj hji hjun hnot) (fun cs b => hsel i oi cs b hi) (fun cs b => hsel j oj cs b hoj) hQ hy h1
      have hfree' : ∀ k ok, ops[k]? = some ok → k ≠ i → (listed.setIfInBounds j true).getD k true = false →
          (∀ e ∈ ok.after, Region.binds md e = true → e.on ≠ i) → oi.apart ops ok = true := fun k ok hk hki hun hno => by
        refine hfree k ok hk hki ?_ hno
        by_cases hjk : j = k
        · subst hjk; exact hjun
        · rw [getD_set_ne true hjk] at hun; exact hun
      have hL' : Leans md ops S T st i (listed.setIfInBounds j true) U := by
        rcases hL with h | ⟨h3, h4, h6⟩
        · exact .inl h
        · refine .inr ⟨h3, h4, ?_⟩
          have hjst : j ≠ st := fun e => by
            subst e
            obtain ⟨e, he, hb, heq⟩ := waitsOn_spec h4 hoj
            exact hnot e he hb heq
          rw [getD_set_ne true hjst]; exact h6
      refine wpOp_mono (fun a' w' h3 => ?_) h2
      have hT' : (listed.setIfInBounds j true).getD st true = false → T w' := fun h => h3.2.1.2 (by rw [Array.setIfInBounds_comm _ _ (Ne.symm hji), getD_set_ne true hist]; exact h)
      refine ⟨⟨h3.2.1.1, hT'⟩, ih (listed.setIfInBounds j true) a' w' hfree' (ready_mono hr (Ne.symm hji)) h3.1 hL' h3.2.1.1 hT' ?_⟩
      rw [Array.setIfInBounds_comm _ _ hji]
      exact h3.2.2
/-- the marks: 0, it reads under S; 1, it reads under S and T; 2, it stands alone -/
def lexU (md : Region.Mode) (ops : Array Oper) (st : Nat) : List Nat → Nat → Array Bool → Bool
  | [], _, listed => (Region.ready md ops listed).isEmpty
  | 0 :: r, k, listed => (Region.ready md ops listed).contains k && Region.free md ops listed k && !(k == st) && lexU md ops st r (k + 1) (listed.setIfInBounds k true)
  | 1 :: r, k, listed => (Region.ready md ops listed).contains k && Region.free md ops listed k && (!(k == st) && waitsOn md ops st k && !(listed.getD st true)) && lexU md ops st r (k + 1) (listed.setIfInBounds k true)
  | _ :: r, k, listed => (Region.ready md ops listed == [k]) && lexU md ops st r (k + 1) (listed.setIfInBounds k true)
/-- the walk in the order of the text; n: how many operations are left up to the store -/
def wpMixU (P : Program) (ops : Array Oper) (Q : Exit → Act → World → Prop) (S T : World → Prop) (st : Nat) : List Oper → List Nat → Nat → Act → World → Prop
  | o :: l, 0 :: r, k, a, w => ∃ v, YieldsIf P ops S o v a ∧ wpMixU P ops Q S T st l r (k + 1) (a.put o.dst v) w
  | o :: l, 1 :: r, k, a, w => ∃ v, YieldsIf P ops (fun w => S w ∧ T w) o v a ∧ wpMixU P ops Q S T st l r (k + 1) (a.put o.dst v) w
  | o :: l, _ :: r, k, a, w => Region.wanted o (yielded ops a.tmps) = true ∧ Oper.wp P o a w (fun a' w' => S w' ∧ (k < st → T w') ∧ wpMixU P ops Q S T st l r (k + 1) a' w') Q
  | [], [], _, a, w => Q .normal a w
  | _, _, _, _, _ => False
theorem wpMixU_take {o : Oper} {l : List Oper} {r : List Nat} {k : Nat} {a : Act} {w : World} (v : Value) (hw : Region.wanted o (yielded ops a.tmps) = true) (hv : ∀ w, S w → (execOp a.eval o).run P w = .ok (.value v) w) (h : wpMixU P ops Q S T st l r (k + 1) (a.put o.dst v) w) :
    wpMixU P ops Q S T st (o :: l) (0 :: r) k a w := by unfold wpMixU; exact ⟨v, .inl ⟨hw, hv⟩, h⟩
theorem wpMixU_take1 {o : Oper} {l : List Oper} {r : List Nat} {k : Nat} {a : Act} {w : World} (v : Value) (hw : Region.wanted o (yielded ops a.tmps) = true) (hv : ∀ w, S w ∧ T w → (execOp a.eval o).run P w = .ok (.value v) w) (h : wpMixU P ops Q S T st l r (k + 1) (a.put o.dst v) w) :
    wpMixU P ops Q S T st (o :: l) (1 :: r) k a w := by unfold wpMixU; exact ⟨v, .inl ⟨hw, hv⟩, h⟩
theorem wpMixU_alone {o : Oper} {l : List Oper} {r : List Nat} {k : Nat} {a : Act} {w : World} (hw : Region.wanted o (yielded ops a.tmps) = true)
    (h : ∀ K : Act → World → Prop, (∀ a w, S w → (k < st → T w) → wpMixU P ops Q S T st l r (k + 1) a w → K a w) → Oper.wp P o a w K Q) : wpMixU P ops Q S T st (o :: l) (2 :: r) k a w := by
  unfold wpMixU; exact ⟨hw, h _ (fun _ _ h1 h2 h3 => ⟨h1, h2, h3⟩)⟩
theorem wpMixU_nil {k : Nat} {a : Act} {w : World} (h : Q .normal a w) : wpMixU P ops Q S T st [] [] k a w := by unfold wpMixU; exact h
theorem getD_set_self {listed : Array Bool} {k : Nat} : (listed.setIfInBounds k true).getD k true = true := by
  rcases Nat.lt_or_ge k listed.size with h' | h'
  · simp [h']
  · simp [h']
theorem wpAnyU_mix (hs : Region.noSelect ops = true) (hQ : ∀ c a d v w, Q (.panic c) (a.put d v) w → Q (.panic c) a w) : ∀ (r : List Nat) (l : List Oper) (k : Nat) (listed : Array Bool) (a : Act) (w : World), (∀ j, l[j]? = ops[k + j]?) →
    lexU md ops st r k listed = true → (listed.getD st true = false → k ≤ st) → S w → (k ≤ st → T w) → wpMixU P ops Q S T st l r k a w → wpAnyU P md ops Q S T st l.length listed a w
  | [], [], k, listed, a, w, _, hB, _, _, _, h => by
    unfold wpMixU at h
    exact ⟨by simpa [lexU] using hB, h⟩
  | [], o :: l, k, listed, a, w, _, _, _, _, _, h => by unfold wpMixU at h; exact h.elim
  | _ :: _, [], k, listed, a, w, _, _, _, _, _, h => by unfold wpMixU at h; exact h.elim
  | 0 :: r, o :: l, k, listed, a, w, hj, hB, hk, hS, hT, h => by
    have h0 : ops[k]? = some o := by simpa using (hj 0).symm
    have hj' : ∀ j, l[j]? = ops[k + 1 + j]? := fun j => by have := hj (j + 1); simpa [Nat.add_assoc, Nat.add_comm 1 j] using this
    simp only [lexU, Bool.and_eq_true, Bool.not_eq_true', beq_eq_false_iff_ne, ne_eq] at hB
    obtain ⟨⟨⟨hr, hf⟩, hne⟩, hB'⟩ := hB
    unfold wpMixU at h
    obtain ⟨v, hy, h⟩ := h
    have hk' : (listed.setIfInBounds k true).getD st true = false → k + 1 ≤ st := fun h => by
      rw [getD_set_ne true hne] at h; have := hk h; omega
    exact wpAnyU_first h0 hne (Region.noSelect_spec hs) (fun c a w => hQ c a _ _ w) l.length listed a w (Region.free_spec h0 hf) (by simpa using hr) hy (.inl rfl) hS (fun h => hT (hk h))
      (wpAnyU_mix hs hQ r l (k + 1) _ _ w hj' hB' hk' hS (fun h => hT (by omega)) h)
  | 1 :: r, o :: l, k, listed, a, w, hj, hB, hk, hS, hT, h => by
    have h0 : ops[k]? = some o := by simpa using (hj 0).symm
    have hj' : ∀ j, l[j]? = ops[k + 1 + j]? := fun j => by have := hj (j + 1); simpa [Nat.add_assoc, Nat.add_comm 1 j] using this
    simp only [lexU, Bool.and_eq_true, Bool.not_eq_true', beq_eq_false_iff_ne, ne_eq] at hB
    obtain ⟨⟨⟨hr, hf⟩, ⟨hne, hw8⟩, hun⟩, hB'⟩ := hB
    unfold wpMixU at h
    obtain ⟨v, hy, h⟩ := h
    have hk' : (listed.setIfInBounds k true).getD st true = false → k + 1 ≤ st := fun h => by
      rw [getD_set_ne true hne] at h; have := hk h; omega
    exact wpAnyU_first h0 hne (Region.noSelect_spec hs) (fun c a w => hQ c a _ _ w) l.length listed a w (Region.free_spec h0 hf) (by simpa using hr) hy (.inr ⟨rfl, hw8, hun⟩) hS (fun h => hT (hk h))
      (wpAnyU_mix hs hQ r l (k + 1) _ _ w hj' hB' hk' hS (fun h => hT (by omega)) h)
  | (m + 2) :: r, o :: l, k, listed, a, w, hj, hB, hk, hS, hT, h => by
    have h0 : ops[k]? = some o := by simpa using (hj 0).symm
    have hj' : ∀ j, l[j]? = ops[k + 1 + j]? := fun j => by have := hj (j + 1); simpa [Nat.add_assoc, Nat.add_comm 1 j] using this
    simp only [lexU, Bool.and_eq_true, beq_iff_eq] at hB
    obtain ⟨hr, hB'⟩ := hB
    refine ⟨fun h1 => (by rw [hr] at h1; cases h1), fun i hi => ?_⟩
    rw [hr] at hi
    obtain rfl : i = k := by simpa using hi
    unfold wpMixU at h
    obtain ⟨hw, h⟩ := h
    unfold wpOp
    rw [h0]
    simp only
    rw [if_pos hw]
    have hk' : (listed.setIfInBounds i true).getD st true = false → i + 1 ≤ st := fun h => by
      by_cases e : i = st
      · subst e; rw [getD_set_self] at h; cases h
      · rw [getD_set_ne true e] at h; have := hk h; omega
    exact .inl (Oper.wp_mono (fun a' w' h' => ⟨⟨h'.1, fun h => h'.2.1 (by have := hk' h; omega)⟩, wpAnyU_mix hs hQ r l (i + 1) _ _ w' hj' hB' hk' h'.1 (fun h => h'.2.1 (by omega)) h'.2.2⟩) h)
/-- A region that draws its order: S holds always, T up to the store 'st'. -/
theorem region_until {id : Nat} {a : Act} {w : World} {l : List Oper} (r : List Nat) (st : Nat) (S T : World → Prop) (hm : P.follows .mixedOrders = true) (hs : Region.noSelect l.toArray = true) (hlt : st < l.length)
    (hB : lexU .any l.toArray st r 0 (Array.replicate l.length false) = true) (hS : S w.drew) (hT : T w.drew)
    (h : wpMixU P l.toArray (NoPanic Q) S T st l r 0 a w.drew) : (Code.region id l.toArray true).wp P Q a w := by
  refine wp_region_noPanic (wp_region_any hm (wpAny_of_until (S := S) (T := T) (st := st) _ _ _ _ ?_))
  have := wpAnyU_mix (md := .any) (Q := NoPanic Q) (S := S) (T := T) (st := st) hs (fun _ _ _ _ _ h => h) r l 0 (Array.replicate l.length false) a w.drew (by simp) (by simpa using hB) (fun _ => Nat.zero_le _) hS (fun _ => hT) h
  simpa using this
end
end Go.Proofs.Ytmahaihcmmmhbaa
