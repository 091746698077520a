/-
  A range over a function whose iterator tells a given list, and may write blocks of its own (U), and reads blocks that the body keeps (V).
-/
import Derived.Test.YtmeegehmbphooaaKit
import Derived.RangeFuncNested
import Derived.RangeFuncBound
import Derived.RangeFuncCalls
import Derived.RangeFuncLeaves
import Derived.OwnWalkIn
import Derived.TacticsInMore
import Derived.LoopNIn
import Derived.LoopIn
namespace Go.Proofs.Ytmeegehmbphooaa
open Go.RowKit

/-- blocks of T are as they were -/
def Keep (T : Nat → Prop) (A B : World) : Prop := A.heap.size ≤ B.heap.size ∧ ∀ k, T k → k < A.heap.size → B.heap[k]? = A.heap[k]?
theorem Keep.refl (T : Nat → Prop) (A : World) : Keep T A A := ⟨Nat.le_refl _, fun _ _ _ => rfl⟩
theorem Keep.trans {T : Nat → Prop} {A B C : World} (h : Keep T A B) (k : Keep T B C) : Keep T A C :=
  ⟨Nat.le_trans h.1 k.1, fun i hi hl => (k.2 i hi (Nat.lt_of_lt_of_le hl h.1)).trans (h.2 i hi hl)⟩
theorem Keep.mono {T T' : Nat → Prop} {A B : World} (h : Keep T A B) (hs : ∀ k, T' k → T k) : Keep T' A B := ⟨h.1, fun i hi hl => h.2 i (hs i hi) hl⟩
theorem Keep.of_frm {S T : Nat → Prop} {A B : World} (h : Frm S A B) (hs : ∀ k, T k → ¬ S k) : Keep T A B := ⟨h.size, fun i hi hl => h.block i hl (hs i hi)⟩
theorem Frm.putObj {S : Nat → Prop} {w W : World} (h : Frm S w W) {l : Nat} (o : Obj) (hl : S l ∨ w.heap.size ≤ l) : Frm S w (W.putObj l o) :=
  h.grown (grownBy_putObj' W l o) (fun g e hg => by cases e; rcases hl with hl | hl; exact hl; omega)

/-- An iterator that tells the list 'full', one by one. -/
def SeqL {α : Type} (F : Fence) (n : Nat) (P : Program) (g : Nat) (lb : Array Value) (encs : α → Array Value) (U V : Nat → Prop) (full : List α) (w : World) : Prop :=
  ∀ (l : Nat) (J Jx : List α → World → Prop) (W : World), Frm NoB w W → (∀ s A B, J s A → Frm U A B → J s B) → (∀ s A B, Jx s A → Frm U A B → Jx s B) →
    (∀ pre x W1, J pre W1 → (pre ++ [x]) <+: full → YieldAt F (n - 1) P l (encs x) W1 fun e W' =>
      (e = .returned (.bool true) ∧ J (pre ++ [x]) W' ∧ Keep (fun k => U k ∨ V k) W1 W') ∨ (e = .returned (.bool false) ∧ Jx (pre ++ [x]) W')) →
    J [] W →
    CallsIn F n P g (#[.func (.yield l) #[] #[]] ++ lb) W fun e W' => (∃ v, e = .returned v) ∧ (J full W' ∨ (∃ pre, pre <+: full ∧ Jx pre W'))

/-- How the body of a round may be left. -/
def postL {α : Type} (T L : Nat → Prop) (I : List α → World → Prop) (Ix : Code → List α → World → Prop) (xs : List α) (W : World) : Exit → Act → World → Prop
  | .normal, _, W' => Keep T W W' ∧ I xs W'
  | .ret, _, W' => Keep L W W' ∧ Ix .ret xs W'
  | .exit id, _, W' => Keep L W W' ∧ Ix (.exit id) xs W'
  | .goto t, _, W' => Keep L W W' ∧ Ix (.goto t) xs W'
  | .panic _, _, _ => False
  | .outgrown, _, _ => False

/-- the loop's own two blocks -/
def LoopB (B : Nat) : Nat → Prop := fun k => k = B ∨ k = B + 1

variable {F : Fence} {n : Nat} {P : Program}

theorem wpIn_rangeL {α : Type} {g : Operand} {ps : Array Tmp} {assign body : Code} {Q : Exit → Act → World → Prop} {a : Act} {w : World}
    (hro : F.round = none) (h1 : 1 ≤ n) {gf : Nat} {lb : Array Value} (hg : a.eval g = .func (.func gf) #[] lb) (hFg : F.fn gf) (eg : ∀ args w, (callFunc gf args).run P w = .ok (.enter gf args) w)
    {encs : α → Array Value} {U V : Nat → Prop} {full : List α} (hseq : SeqL F (n - 1) P gf lb encs U V full w) (hU : ∀ k, U k → k < w.heap.size) (hps : ∀ x, (encs x).size = ps.size)
    (I : List α → World → Prop) (Ix : Code → List α → World → Prop)
    (hI : ∀ s A B, I s A → Frm (fun k => U k ∨ LoopB w.heap.size k) A B → I s B) (hIx : ∀ c s A B, Ix c s A → Frm (fun k => U k ∨ LoopB w.heap.size k) A B → Ix c s B) (h0 : I [] w)
    (Ax : α → Act → World → Prop) (hAx : ∀ x a' A B, Ax x a' A → Frm (fun k => U k ∨ LoopB w.heap.size k) A B → Ax x a' B)
    (hassign : ∀ (l : Nat) (pre : List α) (x : α) (W : World) (K : Act → World → Prop), w.heap.size + 1 < W.heap.size → I pre W → (∀ a' W', Keep (fun k => (U k ∨ V k) ∨ LoopB w.heap.size k) W W' → I pre W' → Ax x a' W' → K a' W') →
      assign.wpIn (F.inRound l) (n - 1 - 1) P (Exit.then K (fun _ _ _ => False)) { tmps := (ps.zip (encs x)).foldl (fun t (p, v) => t.setIfInBounds p v) a.tmps, defers := [] } W)
    (hbody : ∀ (l : Nat) (pre : List α) (x : α) (a' : Act) (W : World), w.heap.size + 1 < W.heap.size → I pre W → Ax x a' W → (pre ++ [x]) <+: full → body.wpIn (F.inRound l) (n - 1 - 1) P (postL (fun k => (U k ∨ V k) ∨ LoopB w.heap.size k) (LoopB w.heap.size) I Ix (pre ++ [x]) W) a' W)
    (hV : ∀ k, V k → k < w.heap.size)
    (hdone : ∀ (W : World), I full W → W.heap[w.heap.size]? = some (.deferred (some [])) → Q .normal { a with defers := { target := .collected w.heap.size, args := #[] } :: a.defers } W)
    (hstop : ∀ (c : Code) (pre : List α) (W : World), pre <+: full → Ix c pre W → W.heap[w.heap.size]? = some (.deferred (some [])) → c.wpIn F n P Q { a with defers := { target := .collected w.heap.size, args := #[] } :: a.defers } W) :
    (Code.rangeFunc g ps assign body).wpIn F n P Q a w := by
  refine wpIn_rangeFunc ?_
  intro fn hfn
  rw [hro]
  obtain ⟨rec, hrec⟩ : ∃ rec : LoopState → Option Code → Loop, rec = fun st pe => { state := st, pending := pe, fn, tmps := a.tmps, params := ps, assign, body, defers := w.heap.size } := ⟨_, rfl⟩
  obtain ⟨W1, hW1⟩ : ∃ W1, (w.alloc (.deferred (some []))).alloc (.loop (rec .ready none)) = W1 := ⟨_, rfl⟩
  have hL1 : W1.heap[w.heap.size + 1]? = some (.loop (rec .ready none)) := by
    rw [← hW1]; have := World.alloc_heap_new (w.alloc (.deferred (some []))) (.loop (rec .ready none)); rwa [World.size_alloc] at this
  have hK1 : W1.heap[w.heap.size]? = some (.deferred (some [])) := by
    rw [← hW1]; exact (Below.heap_alloc _ _ _ (by simp)).trans (World.alloc_heap_new w _)
  have hF1 : ∀ S, Frm S w W1 := fun S => by rw [← hW1]; exact ((Frm.refl S w).alloc _).alloc _
  have hI1 : I [] W1 := hI _ _ _ h0 (hF1 _)
  refine ⟨w.heap.size + 1, [{ target := .collected w.heap.size, args := #[] }], W1, { target := .fn (.func gf) lb, args := #[.func (.yield (w.heap.size + 1)) #[] #[]] }, W1, gf,
    #[.func (.yield (w.heap.size + 1)) #[] #[]] ++ lb, W1, ?_, ?_, ?_, ?_, fun _ => h1, ?_⟩
  · rw [← hW1, hrec]; exact run_enterLoop_outer _ _ _ _ _
  · simp only [resolve, hg]
    simp [go_sem]
  · intro f' hf'; simp [Target.leads] at hf'; subst hf'; exact hFg
  · simp [invoke, go_sem, eg]
  · have keepB : ∀ {A B : World}, Frm U A B → ∀ {k : Nat} {o : Obj}, (k = w.heap.size ∨ k = w.heap.size + 1) → A.heap[k]? = some o → B.heap[k]? = some o := fun hf k o hk ho =>
      (hf.block k (Array.getElem?_eq_some_iff.1 ho).1 (fun e => by have := hU k e; omega)).trans ho
    have hput : ∀ (W : World) (o : Obj), Frm (fun k => U k ∨ LoopB w.heap.size k) W (W.putObj (w.heap.size + 1) o) := fun W o => (Frm.refl _ W).putObj o (.inl (.inr (.inr rfl)))
    refine (hseq (w.heap.size + 1)
      (fun pre W => I pre W ∧ W.heap[w.heap.size + 1]? = some (.loop (rec .ready none)) ∧ W.heap[w.heap.size]? = some (.deferred (some [])))
      (fun pre W => ∃ c, Ix c pre W ∧ W.heap[w.heap.size + 1]? = some (.loop (rec .done (some c))) ∧ W.heap[w.heap.size]? = some (.deferred (some [])))
      W1 (hF1 _)
      (fun s A B hs hf => ⟨hI s A B hs.1 (hf.mono (fun _ _ e => .inl e)), keepB hf (.inr rfl) hs.2.1, keepB hf (.inl rfl) hs.2.2⟩)
      (fun s A B hs hf => by
        obtain ⟨c, hc, hl, hk⟩ := hs
        exact ⟨c, hIx c s A B hc (hf.mono (fun _ _ e => .inl e)), keepB hf (.inr rfl) hl, keepB hf (.inl rfl) hk⟩)
      ?_ ⟨hI1, hL1, hK1⟩).mono ?_
    · -- one round
      rintro pre x W ⟨hi, hl, hk⟩ hpre
      have hlt : w.heap.size + 1 < W.heap.size := (Array.getElem?_eq_some_iff.1 hl).1
      have hy := run_yield (P := P) (args := encs x) hl (by rw [hrec]; exact hps x)
      rw [hrec] at hy
      refine ⟨fn, _, assign, body, hy, roundIn_of_wpIn hfn (hassign _ pre x W _ hlt hi ?_)⟩
      clear hy
      intro a' Wa hka hia hax
      have hla := (hka.2 _ (.inr (.inr rfl)) (by omega)).trans hl
      have hda := (hka.2 _ (.inr (.inl rfl)) (by omega)).trans hk
      have hlta : w.heap.size + 1 < Wa.heap.size := (Array.getElem?_eq_some_iff.1 hla).1
      refine ⟨_, run_beginRound hla (by rw [hrec]), ?_⟩
      have hl2 : (Wa.putObj (w.heap.size + 1) (.loop { rec .ready none with state := .busy })).heap[w.heap.size + 1]? = some (.loop { rec .ready none with state := .busy }) := World.putObj_heap_same hlta
      have hk2 : (Wa.putObj (w.heap.size + 1) (.loop { rec .ready none with state := .busy })).heap[w.heap.size]? = some (.deferred (some [])) := (World.putObj_heap_other (by omega)).trans hda
      refine wpIn_mono (hbody _ pre x a' _ (by simp; omega) (hI _ _ _ hia (hput _ _)) (hAx x a' _ _ hax (hput _ _)) hpre) ?_
      have fin : ∀ (jump : Option Code) (W3 : World), Keep (LoopB w.heap.size) (Wa.putObj (w.heap.size + 1) (.loop { rec .ready none with state := .busy })) W3 →
          (Instr.endRound (w.heap.size + 1) jump).run P W3 = .ok (.bool jump.isNone) (W3.putObj (w.heap.size + 1) (.loop (rec (if jump.isNone then .ready else .done) jump))) ∧
          (W3.putObj (w.heap.size + 1) (.loop (rec (if jump.isNone then .ready else .done) jump))).heap[w.heap.size + 1]? = some (.loop (rec (if jump.isNone then .ready else .done) jump)) ∧
          (W3.putObj (w.heap.size + 1) (.loop (rec (if jump.isNone then .ready else .done) jump))).heap[w.heap.size]? = some (.deferred (some [])) := fun jump W3 hk3 => by
        have hl3 := (hk3.2 _ (.inr rfl) (by simp; omega)).trans hl2
        have := run_endRound (P := P) jump hl3
        rw [hrec] at this ⊢
        exact ⟨this, World.putObj_heap_same (Array.getElem?_eq_some_iff.1 hl3).1, (World.putObj_heap_other (by omega)).trans ((hk3.2 _ (.inl rfl) (by simp; omega)).trans hk2)⟩
      rintro e a3 W3 hp
      cases e with
      | normal =>
        obtain ⟨hk3, hi3⟩ := hp
        obtain ⟨hr, hl4, hk4⟩ := fin none W3 (hk3.mono (fun _ e => .inr e))
        refine ⟨_, _, hr, .inl ⟨rfl, ⟨hI _ _ _ hi3 (hput _ _), hl4, hk4⟩, ?_⟩⟩
        refine ⟨by have h1 := hka.1; have h2 := hk3.1; simp only [World.putObj_size] at h2 ⊢; omega, fun k hT hlt' => ?_⟩
        have hkB : k < w.heap.size := by rcases hT with h | h; exact hU k h; exact hV k h
        have e1 := hka.2 k (.inl hT) hlt'
        have hlta' : k < Wa.heap.size := Nat.lt_of_lt_of_le hlt' hka.1
        have e2 := hk3.2 k (.inl hT) (by simp; exact hlta')
        rw [World.putObj_heap_other (show k ≠ w.heap.size + 1 by omega), e2, World.putObj_heap_other (show k ≠ w.heap.size + 1 by omega), e1]
      | ret =>
        obtain ⟨hk3, hi3⟩ := hp
        obtain ⟨hr, hl4, hk4⟩ := fin (some .ret) W3 hk3
        exact ⟨_, _, hr, .inr ⟨rfl, .ret, hIx _ _ _ _ hi3 (hput _ _), hl4, hk4⟩⟩
      | exit id =>
        obtain ⟨hk3, hi3⟩ := hp
        obtain ⟨hr, hl4, hk4⟩ := fin (some (.exit id)) W3 hk3
        exact ⟨_, _, hr, .inr ⟨rfl, .exit id, hIx _ _ _ _ hi3 (hput _ _), hl4, hk4⟩⟩
      | goto t =>
        obtain ⟨hk3, hi3⟩ := hp
        obtain ⟨hr, hl4, hk4⟩ := fin (some (.goto t)) W3 hk3
        exact ⟨_, _, hr, .inr ⟨rfl, .goto t, hIx _ _ _ _ hi3 (hput _ _), hl4, hk4⟩⟩
      | panic ch => exact hp.elim
      | outgrown => exact hp.elim
    · -- behind the iterator
      rintro e W2 ⟨⟨v, rfl⟩, (⟨hi, hl, hk⟩ | ⟨pre, hSp, c, hi, hl, hk⟩)⟩
      · exact ⟨none, _, by have := run_endLoop (P := P) hl (by rw [hrec]; simp); rw [hrec] at this; exact this, hdone _ (hI _ _ _ hi (hput _ _)) ((World.putObj_heap_other (by omega)).trans hk)⟩
      · exact ⟨some c, _, by have := run_endLoop (P := P) hl (by rw [hrec]; simp); rw [hrec] at this; exact this, hstop c pre _ hSp (hIx c _ _ _ hi (hput _ _)) ((World.putObj_heap_other (by omega)).trans hk)⟩
end Go.Proofs.Ytmeegehmbphooaa
