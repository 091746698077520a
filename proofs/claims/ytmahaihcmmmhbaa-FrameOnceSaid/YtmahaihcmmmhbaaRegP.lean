/-
  A region that draws its order, walked in an order that is given: what always holds (S), what holds up to one store (T). A mark 0: it reads under S; 1: it reads under S and T; 2: it stands alone, T holds behind it; 3: it stands alone, the store, or behind it.
-/
import Derived.Test.YtmahaihcmmmhbaaRegT
namespace Go.Proofs.Ytmahaihcmmmhbaa
open Go.RowKit
section
variable {P : Program} {ops : Array Oper} {Q : Exit → Act → World → Prop} {md : Region.Mode} {S T : World → Prop} {st : Nat}
def lexP (md : Region.Mode) (ops : Array Oper) (st : Nat) : List (Nat × Nat) → Array Bool → Bool
  | [], listed => (Region.ready md ops listed).isEmpty
  | (i, 0) :: r, listed => (Region.ready md ops listed).contains i && Region.free md ops listed i && !(i == st) && lexP md ops st r (listed.setIfInBounds i true)
  | (i, 1) :: r, listed => (Region.ready md ops listed).contains i && Region.free md ops listed i && (!(i == st) && waitsOn md ops st i && !(listed.getD st true)) && lexP md ops st r (listed.setIfInBounds i true)
  | (i, 2) :: r, listed => (Region.ready md ops listed == [i]) && lexP md ops st r (listed.setIfInBounds i true)
  | (i, _) :: r, listed => (Region.ready md ops listed == [i]) && ((i == st) || listed.getD st true) && lexP md ops st r (listed.setIfInBounds i true)
def wpMixP (P : Program) (ops : Array Oper) (Q : Exit → Act → World → Prop) (S T : World → Prop) : List (Nat × Nat) → Act → World → Prop
  | (i, 0) :: r, a, w => ∃ o v, ops[i]? = some o ∧ YieldsIf P ops S o v a ∧ wpMixP P ops Q S T r (a.put o.dst v) w
  | (i, 1) :: r, a, w => ∃ o v, ops[i]? = some o ∧ YieldsIf P ops (fun w => S w ∧ T w) o v a ∧ wpMixP P ops Q S T r (a.put o.dst v) w
  | (i, 2) :: r, a, w => ∃ o, ops[i]? = some o ∧ Region.wanted o (yielded ops a.tmps) = true ∧ Oper.wp P o a w (fun a' w' => (S w' ∧ T w') ∧ wpMixP P ops Q S T r a' w') Q
  | (i, _) :: r, a, w => ∃ o, ops[i]? = some o ∧ Region.wanted o (yielded ops a.tmps) = true ∧ Oper.wp P o a w (fun a' w' => S w' ∧ wpMixP P ops Q S T r a' w') Q
  | [], a, w => Q .normal a w
theorem mixP_take {i : Nat} {r : List (Nat × Nat)} {a : Act} {w : World} {o : Oper} {l : List Oper} (v : Value) (ho : l[i]? = some o) (hw : Region.wanted o (yielded l.toArray a.tmps) = true) (hv : ∀ w, S w → (execOp a.eval o).run P w = .ok (.value v) w) (h : wpMixP P l.toArray Q S T r (a.put o.dst v) w) : wpMixP P l.toArray Q S T ((i, 0) :: r) a w := by
  unfold wpMixP; exact ⟨o, v, by rw [List.getElem?_toArray]; exact ho, .inl ⟨hw, hv⟩, h⟩
theorem mixP_takeY {i : Nat} {r : List (Nat × Nat)} {a : Act} {w : World} {o : Oper} {l : List Oper} (v : Value) (ho : l[i]? = some o) (hy : YieldsIf P l.toArray S o v a) (h : wpMixP P l.toArray Q S T r (a.put o.dst v) w) : wpMixP P l.toArray Q S T ((i, 0) :: r) a w := by
  unfold wpMixP; exact ⟨o, v, by rw [List.getElem?_toArray]; exact ho, hy, h⟩
theorem mixP_take1 {i : Nat} {r : List (Nat × Nat)} {a : Act} {w : World} {o : Oper} {l : List Oper} (v : Value) (ho : l[i]? = some o) (hw : Region.wanted o (yielded l.toArray a.tmps) = true) (hv : ∀ w, S w ∧ T w → (execOp a.eval o).run P w = .ok (.value v) w) (h : wpMixP P l.toArray Q S T r (a.put o.dst v) w) : wpMixP P l.toArray Q S T ((i, 1) :: r) a w := by
  unfold wpMixP; exact ⟨o, v, by rw [List.getElem?_toArray]; exact ho, .inl ⟨hw, hv⟩, h⟩
theorem mixP_takeY1 {i : Nat} {r : List (Nat × Nat)} {a : Act} {w : World} {o : Oper} {l : List Oper} (v : Value) (ho : l[i]? = some o) (hy : YieldsIf P l.toArray (fun w => S w ∧ T w) o v a) (h : wpMixP P l.toArray Q S T r (a.put o.dst v) w) : wpMixP P l.toArray Q S T ((i, 1) :: r) a w := by
  unfold wpMixP; exact ⟨o, v, by rw [List.getElem?_toArray]; exact ho, hy, h⟩
theorem mixP_alone {i : Nat} {r : List (Nat × Nat)} {a : Act} {w : World} {o : Oper} {l : List Oper} (ho : l[i]? = some o) (hw : Region.wanted o (yielded l.toArray a.tmps) = true)
    (h : ∀ K : Act → World → Prop, (∀ a w, S w → T w → wpMixP P l.toArray Q S T r a w → K a w) → Oper.wp P o a w K Q) : wpMixP P l.toArray Q S T ((i, 2) :: r) a w := by
  unfold wpMixP; exact ⟨o, by rw [List.getElem?_toArray]; exact ho, hw, h _ (fun _ _ h1 h2 h3 => ⟨⟨h1, h2⟩, h3⟩)⟩
theorem mixP_store {i : Nat} {r : List (Nat × Nat)} {a : Act} {w : World} {o : Oper} {l : List Oper} (ho : l[i]? = some o) (hw : Region.wanted o (yielded l.toArray a.tmps) = true)
    (h : ∀ K : Act → World → Prop, (∀ a w, S w → wpMixP P l.toArray Q S T r a w → K a w) → Oper.wp P o a w K Q) : wpMixP P l.toArray Q S T ((i, 3) :: r) a w := by
  unfold wpMixP; exact ⟨o, by rw [List.getElem?_toArray]; exact ho, hw, h _ (fun _ _ h1 h3 => ⟨h1, h3⟩)⟩
theorem mixP_nil {a : Act} {w : World} (h : Q .normal a w) : wpMixP P ops Q S T [] a w := by unfold wpMixP; exact h
theorem wpAnyU_perm (hs : Region.noSelect ops = true) (hQ : ∀ c a d v w, Q (.panic c) (a.put d v) w → Q (.panic c) a w) : ∀ (r : List (Nat × Nat)) (listed : Array Bool) (a : Act) (w : World),
    lexP md ops st r listed = true → S w → (listed.getD st true = false → T w) → wpMixP P ops Q S T r a w → wpAnyU P md ops Q S T st r.length listed a w
  | [], listed, a, w, hB, _, _, h => by
    unfold wpMixP at h
    exact ⟨by simpa [lexP] using hB, h⟩
  | (i, 0) :: r, listed, a, w, hB, hS, hT, h => by
    simp only [lexP, Bool.and_eq_true, Bool.not_eq_true', beq_eq_false_iff_ne, ne_eq] at hB
    obtain ⟨⟨⟨hr, hf⟩, hne⟩, hB'⟩ := hB
    unfold wpMixP at h
    obtain ⟨o, v, h0, hy, h⟩ := h
    exact wpAnyU_first h0 hne (Region.noSelect_spec hs) (fun c a w => hQ c a _ _ w) r.length listed a w (Region.free_spec h0 hf) (by simpa using hr) hy (.inl rfl) hS hT
      (wpAnyU_perm hs hQ r _ _ w hB' hS (fun h => hT (by rwa [getD_set_ne true hne] at h)) h)
  | (i, 1) :: r, listed, a, w, hB, hS, hT, h => by
    simp only [lexP, Bool.and_eq_true, Bool.not_eq_true', beq_eq_false_iff_ne, ne_eq] at hB
    obtain ⟨⟨⟨hr, hf⟩, ⟨hne, hw8⟩, hun⟩, hB'⟩ := hB
    unfold wpMixP at h
    obtain ⟨o, v, h0, hy, h⟩ := h
    exact wpAnyU_first h0 hne (Region.noSelect_spec hs) (fun c a w => hQ c a _ _ w) r.length listed a w (Region.free_spec h0 hf) (by simpa using hr) hy (.inr ⟨rfl, hw8, hun⟩) hS hT
      (wpAnyU_perm hs hQ r _ _ w hB' hS (fun h => hT (by rwa [getD_set_ne true hne] at h)) h)
  | (i, 2) :: r, listed, a, w, hB, hS, hT, h => by
    simp only [lexP, Bool.and_eq_true, beq_iff_eq] at hB
    obtain ⟨hr, hB'⟩ := hB
    refine ⟨fun h1 => (by rw [hr] at h1; cases h1), fun j hj => ?_⟩
    rw [hr] at hj
    obtain rfl : j = i := by simpa using hj
    unfold wpMixP at h
    obtain ⟨o, h0, hw, h⟩ := h
    unfold wpOp
    rw [h0]
    simp only
    rw [if_pos hw]
    exact .inl (Oper.wp_mono (fun a' w' h' => ⟨⟨h'.1.1, fun _ => h'.1.2⟩, wpAnyU_perm hs hQ r _ _ w' hB' h'.1.1 (fun _ => h'.1.2) h'.2⟩) h)
  | (i, m + 3) :: r, listed, a, w, hB, hS, hT, h => by
    simp only [lexP, Bool.and_eq_true, beq_iff_eq] at hB
    obtain ⟨⟨hr, hst⟩, hB'⟩ := hB
    refine ⟨fun h1 => (by rw [hr] at h1; cases h1), fun j hj => ?_⟩
    rw [hr] at hj
    obtain rfl : j = i := by simpa using hj
    unfold wpMixP at h
    obtain ⟨o, h0, hw, h⟩ := h
    have hno : ¬ (listed.setIfInBounds j true).getD st true = false := fun h => by
      by_cases e : j = st
      · subst e; rw [getD_set_self] at h; cases h
      · rw [getD_set_ne true e] at h
        rw [h] at hst
        simp [e] at hst
    unfold wpOp
    rw [h0]
    simp only
    rw [if_pos hw]
    exact .inl (Oper.wp_mono (fun a' w' h' => ⟨⟨h'.1, fun h => (hno h).elim⟩, wpAnyU_perm hs hQ r _ _ w' hB' h'.1 (fun h => (hno h).elim) h'.2⟩) h)
/-- A region that draws its order, in the order r. -/
theorem region_perm {id : Nat} {a : Act} {w : World} {l : List Oper} (r : List (Nat × Nat)) (st : Nat) (S T : World → Prop) (hm : P.follows .mixedOrders = true) (hs : Region.noSelect l.toArray = true) (hl : r.length = l.length)
    (hB : lexP .any l.toArray st r (Array.replicate l.length false) = true) (hS : S w.drew) (hT : T w.drew)
    (h : wpMixP P l.toArray (NoPanic Q) S T r a w.drew) : (Code.region id l.toArray true).wp P Q a w := by
  refine wp_region_noPanic (wp_region_any hm (wpAny_of_until (S := S) (T := T) (st := st) _ _ _ _ ?_))
  have := wpAnyU_perm (md := .any) (Q := NoPanic Q) (S := S) (T := T) (st := st) hs (fun _ _ _ _ _ h => h) r (Array.replicate l.length false) a w.drew hB hS (fun _ => hT) h
  rw [hl] at this
  simpa using this
end
end Go.Proofs.Ytmahaihcmmmhbaa
