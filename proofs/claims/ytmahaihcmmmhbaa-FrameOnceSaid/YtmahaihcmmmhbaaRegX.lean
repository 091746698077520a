/-
  A region that draws its order, with one operation that makes a block of its own at any time: walked in an order that is given, once for all the times at which the block may be made.
-/
import Derived.Test.YtmahaihcmmmhbaaRegP
namespace Go.Proofs.Ytmahaihcmmmhbaa
open Go.RowKit
section
variable {P : Program} {ops : Array Oper} {Q : Exit → Act → World → Prop} {md : Region.Mode} {S : World → Prop} {st ia d : Nat} {al : World → World} {r2 : List (Nat × Nat)}
abbrev Yes : World → Prop := fun _ => True
def ptrW (w : World) : Value := .pointer (some ⟨w.heap.size, 0, none⟩)
def lexX (md : Region.Mode) (ops : Array Oper) (st ia : Nat) (r2 : List (Nat × Nat)) : List (Nat × Nat) → Array Bool → Bool
  | [], listed => (Region.ready md ops listed == [ia]) && lexP md ops st r2 (listed.setIfInBounds ia true)
  | (i, 0) :: r, listed => (Region.ready md ops listed).contains i && Region.free md ops listed i && !(i == st) && lexX md ops st ia r2 r (listed.setIfInBounds i true)
  | (i, m + 1) :: r, listed => (Region.ready md ops listed == [i, ia] || Region.ready md ops listed == [ia, i]) && lexP md ops st ((i, m + 1) :: r ++ r2) (listed.setIfInBounds ia true) && lexX md ops st ia r2 r (listed.setIfInBounds i true)
def wpMixX (P : Program) (ops : Array Oper) (Q : Exit → Act → World → Prop) (S : World → Prop) (d : Nat) (al : World → World) (r2 : List (Nat × Nat)) : List (Nat × Nat) → Act → World → Prop
  | [], a, w => wpMixP P ops Q S Yes r2 (a.put (some d) (ptrW w)) (al w)
  | (i, 0) :: r, a, w => ∃ o v, ops[i]? = some o ∧ YieldsIf P ops S o v a ∧ wpMixX P ops Q S d al r2 r (a.put o.dst v) w
  | (i, m + 1) :: r, a, w => (∃ o, ops[i]? = some o ∧ Region.wanted o (yielded ops a.tmps) = true ∧ Oper.wp P o a w (fun a' w' => S w' ∧ wpMixX P ops Q S d al r2 r a' w') Q) ∧ wpMixP P ops Q S Yes ((i, m + 1) :: r ++ r2) (a.put (some d) (ptrW w)) (al w)
/-- the block is not made yet (true), or is made -/
def MxX (P : Program) (ops : Array Oper) (Q : Exit → Act → World → Prop) (S : World → Prop) (d : Nat) (al : World → World) (r2 r : List (Nat × Nat)) (b : Bool) (a : Act) (w : World) : Prop :=
  if b = true then wpMixX P ops Q S d al r2 r a w else wpMixP P ops Q S Yes (r ++ r2) a w
/-- the block is made now, or it is not -/
def Nxt (d : Nat) (al : World → World) (b b' : Bool) (a : Act) (w : World) (a' : Act) (w' : World) : Prop :=
  (b' = b ∧ a' = a ∧ w' = w) ∨ (b = true ∧ b' = false ∧ a' = a.put (some d) (ptrW w) ∧ w' = al w)
theorem wpAnyU_mixX (hs : Region.noSelect ops = true) (hQ : ∀ c a d v w, Q (.panic c) (a.put d v) w → Q (.panic c) a w) {oa : Oper} (hoa : ops[ia]? = some oa) (hwa : ∀ t, Region.wanted oa t = true)
    (hal : ∀ (a : Act) (w : World) (K : Act → World → Prop), K (a.put (some d) (ptrW w)) (al w) → oa.wp P a w K Q) (hSA : ∀ w, S w → S (al w)) : ∀ (r : List (Nat × Nat)) (listed : Array Bool) (a : Act) (w : World),
    lexX md ops st ia r2 r listed = true → S w → wpMixX P ops Q S d al r2 r a w → wpAnyU P md ops Q S Yes st (r.length + 1 + r2.length) listed a w
  | [], listed, a, w, hB, hS, h => by
    simp only [lexX, Bool.and_eq_true, beq_iff_eq] at hB
    obtain ⟨hr, hB'⟩ := hB
    unfold wpMixX at h
    rw [show ([] : List (Nat × Nat)).length + 1 + r2.length = r2.length + 1 from by simp; omega]
    refine ⟨fun h1 => (by rw [hr] at h1; cases h1), fun j hj => ?_⟩
    rw [hr] at hj
    obtain rfl : j = ia := by simpa using hj
    unfold wpOp
    rw [hoa]
    simp only
    rw [if_pos (hwa _)]
    exact .inl (hal _ _ _ ⟨⟨hSA _ hS, fun _ => trivial⟩, wpAnyU_perm hs hQ r2 _ _ _ hB' (hSA _ hS) (fun _ => trivial) h⟩)
  | (i, 0) :: r, listed, a, w, hB, hS, h => by
    simp only [lexX, Bool.and_eq_true, Bool.not_eq_true', beq_eq_false_iff_ne, ne_eq] at hB
    obtain ⟨⟨⟨hr, hf⟩, hne⟩, hB'⟩ := hB
    unfold wpMixX at h
    obtain ⟨o, v, h0, hy, h⟩ := h
    rw [show ((i, 0) :: r).length + 1 + r2.length = (r.length + 1 + r2.length) + 1 from by simp; omega]
    exact wpAnyU_first h0 hne (Region.noSelect_spec hs) (fun c a w => hQ c a _ _ w) (r.length + 1 + r2.length) listed a w (Region.free_spec h0 hf) (by simpa using hr) hy (.inl rfl) hS (fun _ => trivial)
      (wpAnyU_mixX hs hQ hoa hwa hal hSA r _ _ w hB' hS h)
  | (i, m + 1) :: r, listed, a, w, hB, hS, h => by
    simp only [lexX, Bool.and_eq_true, Bool.or_eq_true, beq_iff_eq] at hB
    obtain ⟨⟨hr, hB1⟩, hB'⟩ := hB
    unfold wpMixX at h
    obtain ⟨⟨o, h0, hw, h⟩, h2⟩ := h
    rw [show ((i, m + 1) :: r).length + 1 + r2.length = (r.length + 1 + r2.length) + 1 from by simp; omega]
    refine ⟨fun h1 => (by rcases hr with hr | hr <;> (rw [hr] at h1; cases h1)), fun j hj => ?_⟩
    have hj' : j = i ∨ j = ia := by
      rcases hr with hr | hr <;> (rw [hr] at hj; simp at hj; omega)
    have hi : wpOp P ops Q i (fun a' w' => (S w' ∧ ((listed.setIfInBounds i true).getD st true = false → Yes w')) ∧ wpAnyU P md ops Q S Yes st (r.length + 1 + r2.length) (listed.setIfInBounds i true) a' w') a w := by
      unfold wpOp
      rw [h0]
      simp only
      rw [if_pos hw]
      exact .inl (Oper.wp_mono (fun a' w' h' => ⟨⟨h'.1, fun _ => trivial⟩, wpAnyU_mixX hs hQ hoa hwa hal hSA r _ _ w' hB' h'.1 h'.2⟩) h)
    have ha : wpOp P ops Q ia (fun a' w' => (S w' ∧ ((listed.setIfInBounds ia true).getD st true = false → Yes w')) ∧ wpAnyU P md ops Q S Yes st (r.length + 1 + r2.length) (listed.setIfInBounds ia true) a' w') a w := by
      unfold wpOp
      rw [hoa]
      simp only
      rw [if_pos (hwa _)]
      refine .inl (hal _ _ _ ⟨⟨hSA _ hS, fun _ => trivial⟩, ?_⟩)
      have := wpAnyU_perm (md := md) (Q := Q) (S := S) (T := Yes) (st := st) hs hQ ((i, m + 1) :: r ++ r2) _ _ _ hB1 (hSA _ hS) (fun _ => trivial) h2
      rwa [show ((i, m + 1) :: r ++ r2).length = r.length + 1 + r2.length from by simp; omega] at this
    rcases hj' with rfl | rfl
    · exact hi
    · exact ha
theorem mxX_take {b : Bool} {i : Nat} {r : List (Nat × Nat)} {a : Act} {w : World} {o : Oper} {l : List Oper} (v : Value) (ho : l[i]? = some o) (hy : YieldsIf P l.toArray S o v a) (h : MxX P l.toArray Q S d al r2 r b (a.put o.dst v) w) : MxX P l.toArray Q S d al r2 ((i, 0) :: r) b a w := by
  unfold MxX at h ⊢
  cases b with
  | true =>
    rw [if_pos rfl] at h ⊢
    unfold wpMixX
    exact ⟨o, v, by rw [List.getElem?_toArray]; exact ho, hy, h⟩
  | false =>
    rw [if_neg (by decide)] at h ⊢
    exact mixP_takeY v ho hy h
theorem mxX_alone {b : Bool} {i : Nat} {r : List (Nat × Nat)} {a : Act} {w : World} {o : Oper} {l : List Oper} (ho : l[i]? = some o) (hw : ∀ t, Region.wanted o t = true)
    (h : ∀ b' a' w', Nxt d al b b' a w a' w' → ∀ K : Act → World → Prop, (∀ a2 w2, S w2 → MxX P l.toArray Q S d al r2 r b' a2 w2 → K a2 w2) → Oper.wp P o a' w' K Q) : MxX P l.toArray Q S d al r2 ((i, 2) :: r) b a w := by
  have key : ∀ a' w', (∀ K : Act → World → Prop, (∀ a2 w2, S w2 → MxX P l.toArray Q S d al r2 r false a2 w2 → K a2 w2) → Oper.wp P o a' w' K Q) → wpMixP P l.toArray Q S Yes ((i, 2) :: r ++ r2) a' w' := fun a' w' h => by
    refine mixP_alone (l := l) ho (hw _) (fun K hK => h K (fun a2 w2 h1 h2 => hK _ _ h1 trivial ?_))
    unfold MxX at h2
    rwa [if_neg (by decide)] at h2
  unfold MxX
  cases b with
  | true =>
    rw [if_pos rfl]
    unfold wpMixX
    refine ⟨⟨o, by rw [List.getElem?_toArray]; exact ho, hw _, h true a w (.inl ⟨rfl, rfl, rfl⟩) _ (fun a2 w2 h1 h2 => ⟨h1, ?_⟩)⟩, key _ _ (h false _ _ (.inr ⟨rfl, rfl, rfl, rfl⟩))⟩
    unfold MxX at h2
    rwa [if_pos rfl] at h2
  | false =>
    rw [if_neg (by decide)]
    exact key _ _ (h false a w (.inl ⟨rfl, rfl, rfl⟩))
theorem mxX_nil {b : Bool} {a : Act} {w : World} (h : ∀ a' w', Nxt d al b false a w a' w' → wpMixP P ops Q S Yes r2 a' w') : MxX P ops Q S d al r2 [] b a w := by
  unfold MxX
  cases b with
  | true =>
    rw [if_pos rfl]
    unfold wpMixX
    exact h _ _ (.inr ⟨rfl, rfl, rfl, rfl⟩)
  | false =>
    rw [if_neg (by decide)]
    exact h _ _ (.inl ⟨rfl, rfl, rfl⟩)
/-- The region: r, ahead of what wants the block; r2, behind it. -/
theorem region_block {id : Nat} {a : Act} {w : World} {l : List Oper} (r r2 : List (Nat × Nat)) (st ia d : Nat) (al : World → World) (S : World → Prop) {oa : Oper} (hoa : l[ia]? = some oa) (hwa : ∀ t, Region.wanted oa t = true)
    (hal : ∀ (a : Act) (w : World) (K : Act → World → Prop), K (a.put (some d) (ptrW w)) (al w) → oa.wp P a w K (NoPanic Q)) (hSA : ∀ w, S w → S (al w))
    (hm : P.follows .mixedOrders = true) (hs : Region.noSelect l.toArray = true) (hl : r.length + 1 + r2.length = l.length)
    (hB : lexX .any l.toArray st ia r2 r (Array.replicate l.length false) = true) (hS : S w.drew)
    (h : MxX P l.toArray (NoPanic Q) S d al r2 r true a w.drew) : (Code.region id l.toArray true).wp P Q a w := by
  refine wp_region_noPanic (wp_region_any hm (wpAny_of_until (S := S) (T := Yes) (st := st) _ _ _ _ ?_))
  unfold MxX at h
  rw [if_pos rfl] at h
  have := wpAnyU_mixX (md := .any) (Q := NoPanic Q) (S := S) (st := st) hs (fun _ _ _ _ _ h => h) (by rw [List.getElem?_toArray]; exact hoa) hwa hal hSA r (Array.replicate l.length false) a w.drew hB hS h
  rw [hl] at this
  simpa using this
/-- what is known of the block, if it is made -/
def AX (w1 : World) (t : TypeId) (cs : Array Value) (b : Bool) (X : Value) (W : World) : Prop := b = false → ∃ p, X = .pointer (some ⟨p, 0, none⟩) ∧ Blk W p t cs ∧ w1.heap.size ≤ p
theorem AX.frm {w1 W W' : World} {t : TypeId} {cs : Array Value} {b : Bool} {X : Value} (h : AX w1 t cs b X W) (hf : Frm NoB W W') : AX w1 t cs b X W' := fun e => by
  obtain ⟨p, h1, h2, h3⟩ := h e
  exact ⟨p, h1, h2.frm hf (fun e => e), h3⟩
theorem AX.start (w1 W : World) (t : TypeId) (cs : Array Value) (X : Value) : AX w1 t cs true X W := fun e => by cases e
theorem nxt_slot {w1 : World} {t : TypeId} {cs : Array Value} {b b' : Bool} {a a' : Act} {w w' : World} {X : Value} (hN : Nxt d (fun w => w.alloc (.cells cs t)) b b' a w a' w') (ha : a = a.put (some d) X) (hA : AX w1 t cs b X w) (hF : Frm NoB w1 w) :
    ∃ X', a' = a.put (some d) X' ∧ AX w1 t cs b' X' w' ∧ Frm NoB w1 w' ∧ Frm NoB w w' := by
  rcases hN with ⟨rfl, rfl, rfl⟩ | ⟨rfl, rfl, rfl, rfl⟩
  · exact ⟨X, ha, hA, hF, Frm.refl _ _⟩
  · exact ⟨ptrW w, rfl, fun _ => ⟨w.heap.size, rfl, Blk.new w t cs, hF.size⟩, hF.alloc _, (Frm.refl NoB w).alloc _⟩
end
end Go.Proofs.Ytmahaihcmmmhbaa
