/-
  A region that draws its order, by what each of its slots has come to: each operation is looked at once, whatever the order.
-/
import Derived.Test.YtdhcgghdimkdbaaKit
import Derived.Orders
namespace Go.Proofs.Ytdhcgghdimkdbaa
open Go.RowKit
def upd (f : Nat → Value) (i : Nat) (v : Value) : Nat → Value := fun j => if j = i then v else f j
/-- each operation waits for earlier ones alone -/
def backOnly (ops : Array Oper) : Bool := (List.range ops.size).all fun j => ((ops[j]?).map (·.after.all fun e => decide (e.on < j))).getD true
/-- does operation i wait for operation j? -/
def waits (md : Region.Mode) (ops : Array Oper) (i j : Nat) : Bool := ((ops[i]?).map (·.after.any fun e => e.on == j && Region.binds md e)).getD false
section
variable {P : Program} {ops : Array Oper} {Q : Exit → Act → World → Prop} {md : Region.Mode}
theorem all_listed {listed : Array Bool} (hs : listed.size = ops.size) (hr : Region.ready md ops listed = []) : ∀ n (hb : backOnly ops = true) j, j < n → j < ops.size → listed.getD j false = true
  | 0, _, j, h, _ => by omega
  | n + 1, hb, j, h, hj => by
    cases hl : listed.getD j false with
    | true => rfl
    | false =>
      exfalso
      have hjl : j < listed.size := by omega
      have hm : j ∈ Region.ready md ops listed := by
        rw [mem_ready]
        refine ⟨?_, ops[j], Array.getElem?_eq_getElem hj, fun e he _ => ?_⟩
        · rw [Array.getD_eq_getD_getElem?, Array.getElem?_eq_getElem hjl] at hl ⊢; exact hl
        · have hb' := hb
          unfold backOnly at hb'
          rw [List.all_eq_true] at hb'
          have h1 := hb' j (List.mem_range.2 hj)
          rw [Array.getElem?_eq_getElem hj] at h1
          simp only [Option.map_some, Option.getD_some, Array.all_eq_true_iff_forall_mem, decide_eq_true_eq] at h1
          have h2 := h1 e he
          exact all_listed hs hr n hb e.on (by omega) (by omega)
      rw [hr] at hm
      cases hm
theorem count_next {listed : Array Bool} {i : Nat} (h : listed.getD i true = false) : (listed.setIfInBounds i true).toList.count false + 1 = listed.toList.count false := by
  have hi : i < listed.size := by
    rcases Nat.lt_or_ge i listed.size with h1 | h1
    · exact h1
    · rw [Array.getD_eq_getD_getElem?, Array.getElem?_eq_none h1] at h; cases h
  have hv : listed.toList[i]'(by simpa using hi) = false := by
    rw [Array.getD_eq_getD_getElem?, Array.getElem?_eq_getElem hi] at h; simpa using h
  rw [Array.toList_setIfInBounds, List.count_set (by simpa using hi), hv]
  have hpos : 0 < listed.toList.count false := List.count_pos_iff.2 (by rw [← hv]; exact List.getElem_mem _)
  rw [if_pos (by rfl), if_neg (by decide)]
  omega
theorem wpAny_slots (hb : backOnly ops = true) (S : Nat → Value → World → Prop) (w0 : World) (stable : ∀ i v w w', S i v w → Frm NoB w w' → S i v w') (mk : (Nat → Value) → Act)
    (step : ∀ i, i < ops.size → ∀ f w, (∀ j, waits md ops i j = true → S j (f j) w) → Frm NoB w0 w → ∀ K : Act → World → Prop, (∀ v w', S i v w' → Frm NoB w w' → K (mk (upd f i v)) w') → wpOp P ops Q i K (mk f) w)
    (hend : ∀ f w, (∀ i, i < ops.size → S i (f i) w) → Frm NoB w0 w → Q .normal (mk f) w) :
    ∀ (fuel : Nat) (listed : Array Bool) (f : Nat → Value) (w : World), listed.size = ops.size → listed.toList.count false = fuel → (∀ i, listed.getD i false = true → S i (f i) w) → Frm NoB w0 w → wpAny P md ops Q fuel listed (mk f) w
  | 0, listed, f, w, hs, hc, hl, hF => by
    have hall : ∀ i, i < ops.size → listed.getD i false = true := fun i hi => by
      cases hv : listed.getD i false with
      | true => rfl
      | false =>
        exfalso
        have hil : i < listed.size := by omega
        rw [Array.getD_eq_getD_getElem?, Array.getElem?_eq_getElem hil] at hv
        have : false ∈ listed.toList := by
          have e : listed[i] = false := hv
          rw [← e]; exact Array.getElem_mem_toList hil
        have := List.count_pos_iff.2 this
        omega
    refine ⟨?_, hend f w (fun i hi => hl i (hall i hi)) hF⟩
    rw [List.eq_nil_iff_forall_not_mem]
    intro j hj
    obtain ⟨h1, o, h2, _⟩ := mem_ready.1 hj
    have hjl : j < ops.size := (Array.getElem?_eq_some_iff.1 h2).1
    have h3 := hall j hjl
    have hil : j < listed.size := by omega
    rw [Array.getD_eq_getD_getElem?, Array.getElem?_eq_getElem hil] at h1 h3
    have h1' : listed[j] = false := h1
    have h3' : listed[j] = true := h3
    rw [h1'] at h3'
    cases h3'
  | fuel + 1, listed, f, w, hs, hc, hl, hF => by
    refine ⟨fun hr => hend f w (fun i hi => hl i (all_listed hs hr (i + 1) hb i (Nat.lt_succ_self i) hi)) hF, fun i hi => ?_⟩
    obtain ⟨h1, o, h2, h3⟩ := mem_ready.1 hi
    have hil : i < ops.size := (Array.getElem?_eq_some_iff.1 h2).1
    refine step i hil f w (fun j hj => hl j ?_) hF _ (fun v w' hv hF' => ?_)
    · unfold waits at hj
      rw [h2] at hj
      simp only [Option.map_some, Option.getD_some, Array.any_eq_true', Bool.and_eq_true, beq_iff_eq] at hj
      obtain ⟨e, he, rfl, hb2⟩ := hj
      exact h3 e he hb2
    · refine wpAny_slots hb S w0 stable mk step hend fuel _ _ _ (by rw [Array.size_setIfInBounds]; exact hs) (by have := count_next h1; omega) (fun j hj => ?_) (hF.trans hF')
      by_cases e : j = i
      · subst e; unfold upd; rw [if_pos rfl]; exact hv
      · rw [getD_set_ne false (fun h => e h.symm)] at hj
        unfold upd; rw [if_neg e]
        exact stable j _ _ _ (hl j hj) hF'
/-- the region -/
theorem wp_region_slots {id : Nat} {f0 : Nat → Value} {w : World} (hm : P.follows .mixedOrders = true) (hb : backOnly ops = true) (S : Nat → Value → World → Prop) (stable : ∀ i v w w', S i v w → Frm NoB w w' → S i v w') (mk : (Nat → Value) → Act)
    (step : ∀ i, i < ops.size → ∀ f w1, (∀ j, waits .any ops i j = true → S j (f j) w1) → Frm NoB w w1 → ∀ K : Act → World → Prop, (∀ v w', S i v w' → Frm NoB w1 w' → K (mk (upd f i v)) w') → wpOp P ops Q i K (mk f) w1)
    (hend : ∀ f w1, (∀ i, i < ops.size → S i (f i) w1) → Frm NoB w w1 → Q .normal (mk f) w1) : (Code.region id ops true).wp P Q (mk f0) w := by
  refine wp_region_any hm (wpAny_slots hb S w stable mk step hend _ _ _ _ (by simp) (by simp) (fun i hi => ?_) ((Frm.refl NoB w).drew))
  rw [Array.getD_eq_getD_getElem?] at hi
  by_cases h : i < ops.size
  · rw [Array.getElem?_replicate, if_pos h] at hi; cases hi
  · rw [Array.getElem?_replicate, if_neg h] at hi; cases hi
end
end Go.Proofs.Ytdhcgghdimkdbaa
