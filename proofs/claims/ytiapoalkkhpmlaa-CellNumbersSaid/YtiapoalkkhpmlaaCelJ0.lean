/-
  Texts of this claim, joined: Kit, RangeL, Chunk, RoundOp, NorSpec, PieceP, Pieces, Marks, RoundHeld.
-/
import Derived.Test.YtiapoalkkhpmlaaRows
import Derived.WalkKit
import Derived.WalkSpells
import Derived.Deep.QuietTactic
import Derived.BigQuiet
import Derived.RangeFuncNested
import Derived.RangeFuncBound
import Derived.RangeFuncCalls
import Derived.RangeFuncLeaves
import Derived.OwnWalkIn
import Derived.TacticsInMore
import Derived.LoopNIn
import Derived.LoopIn
import Derived.OrdersIn
import Derived.Shelf.RegionOpen
import Derived.IntWalk
import Derived.OrdersHeld
/-
  Generic words: a frame 'Frm' (only the blocks of a set, and new ones, have turned), a block that is known whole ('Blk'), a row of values that is read ('Rd').
-/
namespace Go.Proofs.Ytiapoalkkhpmlaa
open Go.RowKit

theorem hide {p : Prop} (h : p) : Hid p := h

theorem ret_int {k : IntKind} {a b : Int} (h : a = b) : Ending.returned (.int k a) = .returned (.int k b) := by rw [h]
theorem ret_bool {a b : Bool} (h : a = b) : Ending.returned (.bool a) = .returned (.bool b) := by rw [h]
theorem ret_ii {k m : IntKind} {a b c d : Int} (h : a = b) (h' : c = d) : Ending.returned (.tuple #[.int k a, .int m c]) = .returned (.tuple #[.int k b, .int m d]) := by rw [h, h']

/-- Only blocks of S, and new ones, have turned. -/
structure Frm (S : Nat → Prop) (w w' : World) : Prop where
  os : w'.os = w.os
  tape : w'.tape = w.tape
  output : w'.output = w.output
  size : w.heap.size ≤ w'.heap.size
  block : ∀ k, k < w.heap.size → ¬ S k → w'.heap[k]? = w.heap[k]?

/-- No block. -/
def NoB : Nat → Prop := fun _ => False
/-- One block. -/
def One (p : Nat) : Nat → Prop := fun k => k = p
/-- Two blocks. -/
def Two (p q : Nat) : Nat → Prop := fun k => k = p ∨ k = q

namespace Frm
variable {S T : Nat → Prop} {w w' w'' : World}
theorem refl (S : Nat → Prop) (w : World) : Frm S w w := ⟨rfl, rfl, rfl, Nat.le_refl _, fun _ _ _ => rfl⟩
theorem trans (h : Frm S w w') (k : Frm S w' w'') : Frm S w w'' :=
  ⟨k.os.trans h.os, k.tape.trans h.tape, k.output.trans h.output, Nat.le_trans h.size k.size, fun i hi hn => (k.block i (Nat.lt_of_lt_of_le hi h.size) hn).trans (h.block i hi hn)⟩
theorem mono (h : Frm S w w') (hs : ∀ k, k < w.heap.size → S k → T k) : Frm T w w' :=
  ⟨h.os, h.tape, h.output, h.size, fun i hi hn => h.block i hi (fun e => hn (hs i hi e))⟩
/-- what turns only new blocks, behind. -/
theorem then_ (h : Frm S w w') (k : Frm T w' w'') (ht : ∀ i, i < w.heap.size → T i → S i) : Frm S w w'' :=
  ⟨k.os.trans h.os, k.tape.trans h.tape, k.output.trans h.output, Nat.le_trans h.size k.size,
    fun i hi hn => (k.block i (Nat.lt_of_lt_of_le hi h.size) (fun e => hn (ht i hi e))).trans (h.block i hi hn)⟩
theorem drew (h : Frm S w w') : Frm S w w'.drew := ⟨h.os, h.tape, h.output, h.size, h.block⟩
theorem drewN (h : Frm S w w') (n : Nat) : Frm S w (w'.drewN n) := ⟨h.os, h.tape, h.output, h.size, h.block⟩
theorem alloc (h : Frm S w w') (o : Obj) : Frm S w (w'.alloc o) :=
  ⟨h.os, h.tape, h.output, Nat.le_trans h.size (by simp), fun i hi hn => (Below.heap_alloc w' o i (Nat.lt_of_lt_of_le hi h.size)).trans (h.block i hi hn)⟩
theorem setCell (h : Frm S w w') {p : Addr} (hp : S p.block ∨ w.heap.size ≤ p.block) (u : Value) : Frm S w (w'.setCell p u) :=
  ⟨h.os, h.tape, h.output, by simpa [World.setCell] using h.size, fun i hi hn => (Below.heap_setCell w' p u i (by
    rintro rfl
    rcases hp with hp | hp
    · exact hn hp
    · omega)).trans (h.block i hi hn)⟩
theorem set1 {p : Nat} (h : Frm (One p) w w') (i : Nat) (u : Value) : Frm (One p) w (w'.setCell ⟨p, i, none⟩ u) := h.setCell (p := ⟨p, i, none⟩) (.inl rfl) u
theorem setp {p q : Nat} (h : Frm (Two p q) w w') (i : Nat) (u : Value) : Frm (Two p q) w (w'.setCell ⟨p, i, none⟩ u) := h.setCell (p := ⟨p, i, none⟩) (.inl (.inl rfl)) u
theorem setq {p q : Nat} (h : Frm (Two p q) w w') (i : Nat) (u : Value) : Frm (Two p q) w (w'.setCell ⟨q, i, none⟩ u) := h.setCell (p := ⟨q, i, none⟩) (.inl (.inr rfl)) u
theorem setNew (h : Frm S w w') {b : Nat} (hb : w.heap.size ≤ b) (i : Nat) (u : Value) : Frm S w (w'.setCell ⟨b, i, none⟩ u) := h.setCell (p := ⟨b, i, none⟩) (.inr hb) u
theorem cell (h : Frm S w w') {p : Addr} (hp : p.block < w.heap.size) (hn : ¬ S p.block) : w'.cell? p = w.cell? p := World.cell?_of_block (h.block _ hp hn)
theorem frozen (h : Frm S w w') {p : Addr} (hp : p.block < w.heap.size) (hn : ¬ S p.block) : w'.frozen? p = w.frozen? p := World.frozen?_of_block (h.block _ hp hn)
theorem grown {row : Option Nat} (h : Frm S w w') (hg : w'.grownBy w'' row) (hr : ∀ g, row = some g → g < w.heap.size → S g) : Frm S w w'' :=
  ⟨hg.os.trans h.os, hg.tape.trans h.tape, hg.output.trans h.output, Nat.le_trans h.size hg.size,
    fun i hi hn => (hg.block i (Nat.lt_of_lt_of_le hi h.size) (fun e => hn (hr i e.symm hi))).trans (h.block i hi hn)⟩
theorem below (h : Frm S w w') (hs : ∀ k, k < w.heap.size → ¬ S k) : Below w.heap.size w w' := ⟨h.os, h.tape, h.output, h.size, fun k hk => h.block k hk (hs k hk)⟩
theorem of_below (h : Below w.heap.size w w') (S : Nat → Prop) : Frm S w w' := ⟨h.os, h.tape, h.output, h.size, fun k hk _ => h.block k hk⟩
theorem to_grown {p : Nat} (h : Frm (One p) w w') : w.grownBy w' (some p) := ⟨h.os, h.tape, h.output, h.size, fun k hk hn => h.block k hk (fun e => hn (by rw [e]))⟩
end Frm

/-- A block that is known whole, none of it frozen. -/
def Blk (w : World) (g : Nat) (t : TypeId) (cs : Array Value) : Prop := w.heap[g]? = some (.cells cs t (0, 0))
namespace Blk
variable {w w' : World} {g : Nat} {t : TypeId} {cs : Array Value}
theorem lt (h : Blk w g t cs) : g < w.heap.size := by
  rcases Nat.lt_or_ge g w.heap.size with hlt | hge
  · exact hlt
  · unfold Blk at h; rw [Array.getElem?_eq_none hge] at h; cases h
theorem cell (h : Blk w g t cs) (i : Nat) : w.cell? ⟨g, i, none⟩ = cs[i]? := cell_of_row w g i cs t (0, 0) h
theorem frozen (h : Blk w g t cs) (i : Nat) : w.frozen? ⟨g, i, none⟩ = false := by
  unfold Blk at h
  simp [World.frozen?, h]
theorem new (w : World) (t : TypeId) (cs : Array Value) : Blk (w.alloc (.cells cs t)) w.heap.size t cs := heap_alloc_new w _
theorem drew (h : Blk w g t cs) : Blk w.drew g t cs := h
theorem drewN (h : Blk w g t cs) (n : Nat) : Blk (w.drewN n) g t cs := h
theorem alloc (h : Blk w g t cs) (o : Obj) : Blk (w.alloc o) g t cs := (Below.heap_alloc w o g h.lt).trans h
theorem set_ (h : Blk w g t cs) (i : Nat) (u : Value) : Blk (w.setCell ⟨g, i, none⟩ u) g t (cs.setIfInBounds i u) := by
  unfold Blk at h ⊢
  simp [World.setCell, Array.getElem?_modify, h]
theorem far (h : Blk w g t cs) {p : Addr} (hp : g ≠ p.block) (u : Value) : Blk (w.setCell p u) g t cs := (Below.heap_setCell w p u g hp).trans h
theorem frm {S : Nat → Prop} (h : Blk w g t cs) (hb : Frm S w w') (hn : ¬ S g) : Blk w' g t cs := (hb.block g h.lt hn).trans h
theorem inj {t' : TypeId} {cs' : Array Value} (h : Blk w g t cs) (h' : Blk w g t' cs') : cs = cs' ∧ t = t' := by
  unfold Blk at h h'
  rw [h] at h'
  injection h' with h'
  injection h' with hc ht
  exact ⟨hc, ht⟩
end Blk

/-- A slice at address A has these cells. -/
def Rd (w : World) (A : Option Addr) (vs : List Value) : Prop :=
  vs ≠ [] → ∃ b o, A = some ⟨b, o, none⟩ ∧ ∀ i v, vs[i]? = some v → w.cell? ⟨b, o + i, none⟩ = some v
namespace Rd
variable {w w' : World} {A : Option Addr} {vs : List Value} {S : Nat → Prop}
theorem nil (w : World) (A : Option Addr) : Rd w A [] := fun h => (h rfl).elim
theorem frm (h : Rd w A vs) (hb : Frm S w w') (hn : ∀ a, A = some a → ¬ S a.block) : Rd w' A vs := fun hv => by
  obtain ⟨b, o, rfl, hc⟩ := h hv
  refine ⟨b, o, rfl, fun i v hi => ?_⟩
  have h1 := hc i v hi
  have h2 := World.block_lt_of_cell? w _ h1
  rw [hb.cell h2 (show ¬ S b from hn _ rfl)]
  exact h1
theorem lt (h : Rd w A vs) (hv : vs ≠ []) : ∃ a, A = some a ∧ a.block < w.heap.size := by
  obtain ⟨b, o, rfl, hc⟩ := h hv
  obtain ⟨v, hv'⟩ := List.exists_mem_of_ne_nil _ hv
  obtain ⟨i, hi, rfl⟩ := List.getElem_of_mem hv'
  exact ⟨_, rfl, show b < _ from World.block_lt_of_cell? w ⟨b, o + i, none⟩ (hc i _ (List.getElem?_eq_getElem hi))⟩
end Rd
/-- a row of ints of kind k -/
def ints (k : IntKind) (xs : List Int) : List Value := xs.map (Value.int k)
theorem ints_get {k : IntKind} {xs : List Int} {i : Nat} (h : i < xs.length) : (ints k xs)[i]? = some (.int k (xs.getD i 0)) := by
  simp [ints, h]
theorem ints_length {k : IntKind} {xs : List Int} : (ints k xs).length = xs.length := by simp [ints]
theorem ints_ne {k : IntKind} {xs : List Int} (h : xs ≠ []) : ints k xs ≠ [] := by simpa [ints] using h

/-- all are words of 32 bits. -/
def U32 (xs : List Int) : Prop := ∀ x ∈ xs, 0 ≤ x ∧ x < 4294967296
theorem U32.get {xs : List Int} (h : U32 xs) (i : Nat) : 0 ≤ xs.getD i 0 ∧ xs.getD i 0 < 4294967296 := by
  rcases Nat.lt_or_ge i xs.length with hi | hi
  · rw [List.getD_eq_getElem?_getD, List.getElem?_eq_getElem hi]; exact h _ (List.getElem_mem _)
  · rw [List.getD_eq_getElem?_getD, List.getElem?_eq_none hi]; simp
theorem U32.set {xs : List Int} (h : U32 xs) (i : Nat) {x : Int} (hx : 0 ≤ x ∧ x < 4294967296) : U32 (xs.set i x) := fun y hy => by
  rcases List.mem_or_eq_of_mem_set hy with hy | rfl
  · exact h y hy
  · exact hx
theorem U32.drop {xs : List Int} (h : U32 xs) (i : Nat) : U32 (xs.drop i) := fun y hy => h y (List.mem_of_mem_drop hy)
theorem U32.take {xs : List Int} (h : U32 xs) (i : Nat) : U32 (xs.take i) := fun y hy => h y (List.mem_of_mem_take hy)

end Go.Proofs.Ytiapoalkkhpmlaa
namespace Go.Proofs.Ytiapoalkkhpmlaa
open Go.RowKit
/-- n cells: the first j are a, the others b. -/
def fillTo (n : Nat) (a b : Value) (j : Nat) : Array Value := (List.replicate j a ++ List.replicate (n - j) b).toArray
theorem fillTo_size {n : Nat} {a b : Value} {j : Nat} (h : j ≤ n) : (fillTo n a b j).size = n := by simp [fillTo]; omega
theorem fillTo_set {n : Nat} {a b : Value} {j : Nat} (h : j < n) : (fillTo n a b j).setIfInBounds j a = fillTo n a b (j + 1) := by
  apply Array.ext'
  simp only [fillTo, Array.toList_setIfInBounds]
  obtain ⟨m, rfl⟩ : ∃ m, n = j + 1 + m := ⟨n - j - 1, by omega⟩
  rw [show j + 1 + m - j = m + 1 from by omega, show j + 1 + m - (j + 1) = m from by omega, List.replicate_succ (n := m), List.set_append_right (h := by simp)]
  simp only [List.length_replicate, Nat.sub_self, List.set_cons_zero]
  rw [List.replicate_succ' (n := j), List.append_assoc, List.singleton_append]
theorem fillTo_get {n : Nat} {a b : Value} {j : Nat} (h : j < n) : (fillTo n a b j)[j]? = some b := by
  simp only [fillTo, List.getElem?_toArray]
  rw [List.getElem?_append_right (by simp)]
  simp [show 0 < n - j from by omega]
theorem fillTo_zero (n : Nat) (a b : Value) : fillTo n a b 0 = Array.replicate n b := by simp [fillTo]
theorem fillTo_all (n : Nat) (a b : Value) : fillTo n a b n = Array.replicate n a := by simp [fillTo]
theorem Blk.setRow {w : World} {g : Nat} {t : TypeId} {old : Array Value} (h : Blk w g t old) (cs : Array Value) : Blk (w.setRow g cs) g t cs := setRow_heap w g old cs t (0, 0) h
theorem Blk.setRow_far {w : World} {g k : Nat} {t : TypeId} {old : Array Value} (h : Blk w g t old) (cs : Array Value) (hk : g ≠ k) : Blk (w.setRow k cs) g t old := (setRow_other w k g cs hk).trans h
theorem Frm.setRow {S : Nat → Prop} {w w' : World} (h : Frm S w w') {g : Nat} (hg : S g ∨ w.heap.size ≤ g) (cs : Array Value) : Frm S w (w'.setRow g cs) :=
  ⟨h.os, h.tape, h.output, by simpa using h.size, fun i hi hn => (setRow_other w' g i cs (by
    rintro rfl
    rcases hg with hg | hg
    · exact hn hg
    · omega)).trans (h.block i hi hn)⟩
end Go.Proofs.Ytiapoalkkhpmlaa
namespace Go.Proofs.Ytiapoalkkhpmlaa
open Go.RowKit
theorem own_frm {S : Nat → Prop} {w w' : World} {base : Nat} {e : TypeId} {size : Nat} {v : Value} {n : Nat} {xs : List Value} (h : w.ownsRow base e size v n xs) (hf : Frm S w w') (hn : ∀ b, v.ownBlock = some b → ¬ S b) : w'.ownsRow base e size v n xs := by
  refine ⟨h.1, ?_⟩
  rcases h.2 with h1 | ⟨g, cap, cur, rfl, h1, h2, h3⟩
  · exact .inl h1
  · have hlt : g < w.heap.size := by
      rcases Nat.lt_or_ge g w.heap.size with hlt | hge
      · exact hlt
      · rw [Array.getElem?_eq_none hge] at h2; cases h2
    exact .inr ⟨g, cap, cur, rfl, h1, (hf.block g hlt (hn g rfl)).trans h2, h3⟩
end Go.Proofs.Ytiapoalkkhpmlaa
namespace Go.Proofs.Ytiapoalkkhpmlaa
open Go.RowKit
/-- the cells of a block -/
def rowOf (w : World) (g : Nat) : Array Value := match w.heap[g]? with | some (.cells c _ _) => c | _ => #[]
/-- block g has n cells, none frozen -/
def RowOk (w : World) (g n : Nat) : Prop := ∃ cur t, w.heap[g]? = some (.cells cur t (0, 0)) ∧ n ≤ cur.size
/-- cells are laid from a place on -/
def laidRow (w : World) (g off : Nat) (cs : Array Value) : World := w.setRow g ((rowOf w g).toList.take off ++ cs.toList ++ (rowOf w g).toList.drop (off + cs.toList.length)).toArray
theorem rowOf_blk {w : World} {g : Nat} {t : TypeId} {cs : Array Value} (h : Blk w g t cs) : rowOf w g = cs := by
  unfold Blk at h; simp [rowOf, h]
theorem run_storeCells_agg {P : Program} {w : World} {g off : Nat} {cells : Array Value} (h1 : ∀ v ∈ cells.toList, v.oneCell' = true) (h : RowOk w g (off + cells.size)) :
    (storeCells ⟨g, off, none⟩ cells.toList).run P w = .ok () (laidRow w g off cells) := by
  obtain ⟨cur, t, hg, hn⟩ := h
  have hst := run_storeCells_at P g off t cells.toList 0 cur w hg (by simpa using hn) h1
  have hr : rowOf w g = cur := by simp [rowOf, hg]
  simpa [laidRow, hr] using hst
theorem run_storeAt_agg {P : Program} {w : World} {ty : TypeId} {g off : Nat} {cells : Array Value} (hi : (P.info? ty).map (·.size) = some cells.size) (h1 : ∀ v ∈ cells.toList, v.oneCell' = true) (h : RowOk w g (off + cells.size)) :
    (Instr.storeAt ty (.pointer (some ⟨g, off, none⟩)) (.agg cells)).run P w = .ok () (laidRow w g off cells) := by
  obtain ⟨cur, t, hg, hn⟩ := h
  have hst := run_storeCells_at P g off t cells.toList 0 cur w hg (by simpa using hn) h1
  have hr : rowOf w g = cur := by simp [rowOf, hg]
  cases hq : P.info? ty with
  | none => simp [hq] at hi
  | some i =>
    have hs : cells.size = i.size := by simp [hq] at hi; omega
    simp only [Instr.storeAt, Instr.sureAddr, Sem.run_bind, Sem.run_pure, Result.andThen_ok]
    simp [storeVar, sizeOf, typeInfo, hq, Value.cells, hs, hst, laidRow, hr]
end Go.Proofs.Ytiapoalkkhpmlaa
namespace Go.Proofs.Ytiapoalkkhpmlaa
open Go.RowKit
theorem addr_add (b o j : Nat) : (⟨b, o, none⟩ : Addr).add j = ⟨b, o + j, none⟩ := by unfold Addr.add; split <;> simp_all
def bools (ks : List Bool) : List Value := ks.map Value.bool
theorem bools_get {ks : List Bool} {i : Nat} (h : i < ks.length) : (bools ks)[i]? = some (.bool (ks.getD i false)) := by
  simp [bools, h]
theorem bools_ne {ks : List Bool} (h : ks ≠ []) : bools ks ≠ [] := by simpa [bools] using h
end Go.Proofs.Ytiapoalkkhpmlaa

/-
  A range over a function whose iterator tells a given list, and may write blocks of its own (U), and reads blocks that the body keeps (V).
-/
namespace Go.Proofs.Ytiapoalkkhpmlaa
open Go.RowKit

/-- blocks of T are as they were -/
def Keep (T : Nat → Prop) (A B : World) : Prop := A.heap.size ≤ B.heap.size ∧ ∀ k, T k → k < A.heap.size → B.heap[k]? = A.heap[k]?
theorem Keep.refl (T : Nat → Prop) (A : World) : Keep T A A := ⟨Nat.le_refl _, fun _ _ _ => rfl⟩
theorem Keep.trans {T : Nat → Prop} {A B C : World} (h : Keep T A B) (k : Keep T B C) : Keep T A C :=
  ⟨Nat.le_trans h.1 k.1, fun i hi hl => (k.2 i hi (Nat.lt_of_lt_of_le hl h.1)).trans (h.2 i hi hl)⟩
theorem Keep.mono {T T' : Nat → Prop} {A B : World} (h : Keep T A B) (hs : ∀ k, T' k → T k) : Keep T' A B := ⟨h.1, fun i hi hl => h.2 i (hs i hi) hl⟩
theorem Keep.of_frm {S T : Nat → Prop} {A B : World} (h : Frm S A B) (hs : ∀ k, T k → ¬ S k) : Keep T A B := ⟨h.size, fun i hi hl => h.block i hl (hs i hi)⟩
theorem Frm.putObj {S : Nat → Prop} {w W : World} (h : Frm S w W) {l : Nat} (o : Obj) (hl : S l ∨ w.heap.size ≤ l) : Frm S w (W.putObj l o) :=
  h.grown (grownBy_putObj' W l o) (fun g e hg => by cases e; rcases hl with hl | hl; exact hl; omega)

/-- An iterator that tells the list 'full', one by one. -/
def SeqL {α : Type} (F : Fence) (n : Nat) (P : Program) (g : Nat) (lb : Array Value) (encs : α → Array Value) (U V : Nat → Prop) (full : List α) (w : World) : Prop :=
  ∀ (l : Nat) (J Jx : List α → World → Prop) (W : World), Frm NoB w W → (∀ s A B, J s A → Frm U A B → J s B) → (∀ s A B, Jx s A → Frm U A B → Jx s B) →
    (∀ pre x W1, J pre W1 → (pre ++ [x]) <+: full → YieldAt F (n - 1) P l (encs x) W1 fun e W' =>
      (e = .returned (.bool true) ∧ J (pre ++ [x]) W' ∧ Keep (fun k => U k ∨ V k) W1 W') ∨ (e = .returned (.bool false) ∧ Jx (pre ++ [x]) W')) →
    J [] W →
    CallsIn F n P g (#[.func (.yield l) #[] #[]] ++ lb) W fun e W' => (∃ v, e = .returned v) ∧ (J full W' ∨ (∃ pre, pre <+: full ∧ Jx pre W'))

/-- How the body of a round may be left. -/
def postL {α : Type} (T L : Nat → Prop) (I : List α → World → Prop) (Ix : Code → List α → World → Prop) (xs : List α) (W : World) : Exit → Act → World → Prop
  | .normal, _, W' => Keep T W W' ∧ I xs W'
  | .ret, _, W' => Keep L W W' ∧ Ix .ret xs W'
  | .exit id, _, W' => Keep L W W' ∧ Ix (.exit id) xs W'
  | .goto t, _, W' => Keep L W W' ∧ Ix (.goto t) xs W'
  | .panic _, _, _ => False
  | .outgrown, _, _ => False

/-- the loop's own two blocks -/
def LoopB (B : Nat) : Nat → Prop := fun k => k = B ∨ k = B + 1

variable {F : Fence} {n : Nat} {P : Program}

theorem wpIn_rangeL {α : Type} {g : Operand} {ps : Array Tmp} {assign body : Code} {Q : Exit → Act → World → Prop} {a : Act} {w : World}
    (hro : F.round = none) (h1 : 1 ≤ n) {gf : Nat} {lb : Array Value} (hg : a.eval g = .func (.func gf) #[] lb) (hFg : F.fn gf) (eg : ∀ args w, (callFunc gf args).run P w = .ok (.enter gf args) w)
    {encs : α → Array Value} {U V : Nat → Prop} {full : List α} (hseq : SeqL F (n - 1) P gf lb encs U V full w) (hU : ∀ k, U k → k < w.heap.size) (hps : ∀ x, (encs x).size = ps.size)
    (I : List α → World → Prop) (Ix : Code → List α → World → Prop)
    (hI : ∀ s A B, I s A → Frm (fun k => U k ∨ LoopB w.heap.size k) A B → I s B) (hIx : ∀ c s A B, Ix c s A → Frm (fun k => U k ∨ LoopB w.heap.size k) A B → Ix c s B) (h0 : I [] w)
    (Ax : α → Act → World → Prop) (hAx : ∀ x a' A B, Ax x a' A → Frm (fun k => U k ∨ LoopB w.heap.size k) A B → Ax x a' B)
    (hassign : ∀ (l : Nat) (pre : List α) (x : α) (W : World) (K : Act → World → Prop), w.heap.size + 1 < W.heap.size → I pre W → (∀ a' W', Keep (fun k => (U k ∨ V k) ∨ LoopB w.heap.size k) W W' → I pre W' → Ax x a' W' → K a' W') →
      assign.wpIn (F.inRound l) (n - 1 - 1) P (Exit.then K (fun _ _ _ => False)) { tmps := (ps.zip (encs x)).foldl (fun t (p, v) => t.setIfInBounds p v) a.tmps, defers := [] } W)
    (hbody : ∀ (l : Nat) (pre : List α) (x : α) (a' : Act) (W : World), w.heap.size + 1 < W.heap.size → I pre W → Ax x a' W → (pre ++ [x]) <+: full → body.wpIn (F.inRound l) (n - 1 - 1) P (postL (fun k => (U k ∨ V k) ∨ LoopB w.heap.size k) (LoopB w.heap.size) I Ix (pre ++ [x]) W) a' W)
    (hV : ∀ k, V k → k < w.heap.size)
    (hdone : ∀ (W : World), I full W → W.heap[w.heap.size]? = some (.deferred (some [])) → Q .normal { a with defers := { target := .collected w.heap.size, args := #[] } :: a.defers } W)
    (hstop : ∀ (c : Code) (pre : List α) (W : World), pre <+: full → Ix c pre W → W.heap[w.heap.size]? = some (.deferred (some [])) → c.wpIn F n P Q { a with defers := { target := .collected w.heap.size, args := #[] } :: a.defers } W) :
    (Code.rangeFunc g ps assign body).wpIn F n P Q a w := by
  refine wpIn_rangeFunc ?_
  intro fn hfn
  rw [hro]
  obtain ⟨rec, hrec⟩ : ∃ rec : LoopState → Option Code → Loop, rec = fun st pe => { state := st, pending := pe, fn, tmps := a.tmps, params := ps, assign, body, defers := w.heap.size } := ⟨_, rfl⟩
  obtain ⟨W1, hW1⟩ : ∃ W1, (w.alloc (.deferred (some []))).alloc (.loop (rec .ready none)) = W1 := ⟨_, rfl⟩
  have hL1 : W1.heap[w.heap.size + 1]? = some (.loop (rec .ready none)) := by
    rw [← hW1]; have := World.alloc_heap_new (w.alloc (.deferred (some []))) (.loop (rec .ready none)); rwa [World.size_alloc] at this
  have hK1 : W1.heap[w.heap.size]? = some (.deferred (some [])) := by
    rw [← hW1]; exact (Below.heap_alloc _ _ _ (by simp)).trans (World.alloc_heap_new w _)
  have hF1 : ∀ S, Frm S w W1 := fun S => by rw [← hW1]; exact ((Frm.refl S w).alloc _).alloc _
  have hI1 : I [] W1 := hI _ _ _ h0 (hF1 _)
  refine ⟨w.heap.size + 1, [{ target := .collected w.heap.size, args := #[] }], W1, { target := .fn (.func gf) lb, args := #[.func (.yield (w.heap.size + 1)) #[] #[]] }, W1, gf,
    #[.func (.yield (w.heap.size + 1)) #[] #[]] ++ lb, W1, ?_, ?_, ?_, ?_, fun _ => h1, ?_⟩
  · rw [← hW1, hrec]; exact run_enterLoop_outer _ _ _ _ _
  · simp only [resolve, hg]
    simp [go_sem]
  · intro f' hf'; simp [Target.leads] at hf'; subst hf'; exact hFg
  · simp [invoke, go_sem, eg]
  · have keepB : ∀ {A B : World}, Frm U A B → ∀ {k : Nat} {o : Obj}, (k = w.heap.size ∨ k = w.heap.size + 1) → A.heap[k]? = some o → B.heap[k]? = some o := fun hf k o hk ho =>
      (hf.block k (Array.getElem?_eq_some_iff.1 ho).1 (fun e => by have := hU k e; omega)).trans ho
    have hput : ∀ (W : World) (o : Obj), Frm (fun k => U k ∨ LoopB w.heap.size k) W (W.putObj (w.heap.size + 1) o) := fun W o => (Frm.refl _ W).putObj o (.inl (.inr (.inr rfl)))
    refine (hseq (w.heap.size + 1)
      (fun pre W => I pre W ∧ W.heap[w.heap.size + 1]? = some (.loop (rec .ready none)) ∧ W.heap[w.heap.size]? = some (.deferred (some [])))
      (fun pre W => ∃ c, Ix c pre W ∧ W.heap[w.heap.size + 1]? = some (.loop (rec .done (some c))) ∧ W.heap[w.heap.size]? = some (.deferred (some [])))
      W1 (hF1 _)
      (fun s A B hs hf => ⟨hI s A B hs.1 (hf.mono (fun _ _ e => .inl e)), keepB hf (.inr rfl) hs.2.1, keepB hf (.inl rfl) hs.2.2⟩)
      (fun s A B hs hf => by
        obtain ⟨c, hc, hl, hk⟩ := hs
        exact ⟨c, hIx c s A B hc (hf.mono (fun _ _ e => .inl e)), keepB hf (.inr rfl) hl, keepB hf (.inl rfl) hk⟩)
      ?_ ⟨hI1, hL1, hK1⟩).mono ?_
    · -- one round
      rintro pre x W ⟨hi, hl, hk⟩ hpre
      have hlt : w.heap.size + 1 < W.heap.size := (Array.getElem?_eq_some_iff.1 hl).1
      have hy := run_yield (P := P) (args := encs x) hl (by rw [hrec]; exact hps x)
      rw [hrec] at hy
      refine ⟨fn, _, assign, body, hy, roundIn_of_wpIn hfn (hassign _ pre x W _ hlt hi ?_)⟩
      clear hy
      intro a' Wa hka hia hax
      have hla := (hka.2 _ (.inr (.inr rfl)) (by omega)).trans hl
      have hda := (hka.2 _ (.inr (.inl rfl)) (by omega)).trans hk
      have hlta : w.heap.size + 1 < Wa.heap.size := (Array.getElem?_eq_some_iff.1 hla).1
      refine ⟨_, run_beginRound hla (by rw [hrec]), ?_⟩
      have hl2 : (Wa.putObj (w.heap.size + 1) (.loop { rec .ready none with state := .busy })).heap[w.heap.size + 1]? = some (.loop { rec .ready none with state := .busy }) := World.putObj_heap_same hlta
      have hk2 : (Wa.putObj (w.heap.size + 1) (.loop { rec .ready none with state := .busy })).heap[w.heap.size]? = some (.deferred (some [])) := (World.putObj_heap_other (by omega)).trans hda
      refine wpIn_mono (hbody _ pre x a' _ (by simp; omega) (hI _ _ _ hia (hput _ _)) (hAx x a' _ _ hax (hput _ _)) hpre) ?_
      have fin : ∀ (jump : Option Code) (W3 : World), Keep (LoopB w.heap.size) (Wa.putObj (w.heap.size + 1) (.loop { rec .ready none with state := .busy })) W3 →
          (Instr.endRound (w.heap.size + 1) jump).run P W3 = .ok (.bool jump.isNone) (W3.putObj (w.heap.size + 1) (.loop (rec (if jump.isNone then .ready else .done) jump))) ∧
          (W3.putObj (w.heap.size + 1) (.loop (rec (if jump.isNone then .ready else .done) jump))).heap[w.heap.size + 1]? = some (.loop (rec (if jump.isNone then .ready else .done) jump)) ∧
          (W3.putObj (w.heap.size + 1) (.loop (rec (if jump.isNone then .ready else .done) jump))).heap[w.heap.size]? = some (.deferred (some [])) := fun jump W3 hk3 => by
        have hl3 := (hk3.2 _ (.inr rfl) (by simp; omega)).trans hl2
        have := run_endRound (P := P) jump hl3
        rw [hrec] at this ⊢
        exact ⟨this, World.putObj_heap_same (Array.getElem?_eq_some_iff.1 hl3).1, (World.putObj_heap_other (by omega)).trans ((hk3.2 _ (.inl rfl) (by simp; omega)).trans hk2)⟩
      rintro e a3 W3 hp
      cases e with
      | normal =>
        obtain ⟨hk3, hi3⟩ := hp
        obtain ⟨hr, hl4, hk4⟩ := fin none W3 (hk3.mono (fun _ e => .inr e))
        refine ⟨_, _, hr, .inl ⟨rfl, ⟨hI _ _ _ hi3 (hput _ _), hl4, hk4⟩, ?_⟩⟩
        refine ⟨by have h1 := hka.1; have h2 := hk3.1; simp only [World.putObj_size] at h2 ⊢; omega, fun k hT hlt' => ?_⟩
        have hkB : k < w.heap.size := by rcases hT with h | h; exact hU k h; exact hV k h
        have e1 := hka.2 k (.inl hT) hlt'
        have hlta' : k < Wa.heap.size := Nat.lt_of_lt_of_le hlt' hka.1
        have e2 := hk3.2 k (.inl hT) (by simp; exact hlta')
        rw [World.putObj_heap_other (show k ≠ w.heap.size + 1 by omega), e2, World.putObj_heap_other (show k ≠ w.heap.size + 1 by omega), e1]
      | ret =>
        obtain ⟨hk3, hi3⟩ := hp
        obtain ⟨hr, hl4, hk4⟩ := fin (some .ret) W3 hk3
        exact ⟨_, _, hr, .inr ⟨rfl, .ret, hIx _ _ _ _ hi3 (hput _ _), hl4, hk4⟩⟩
      | exit id =>
        obtain ⟨hk3, hi3⟩ := hp
        obtain ⟨hr, hl4, hk4⟩ := fin (some (.exit id)) W3 hk3
        exact ⟨_, _, hr, .inr ⟨rfl, .exit id, hIx _ _ _ _ hi3 (hput _ _), hl4, hk4⟩⟩
      | goto t =>
        obtain ⟨hk3, hi3⟩ := hp
        obtain ⟨hr, hl4, hk4⟩ := fin (some (.goto t)) W3 hk3
        exact ⟨_, _, hr, .inr ⟨rfl, .goto t, hIx _ _ _ _ hi3 (hput _ _), hl4, hk4⟩⟩
      | panic ch => exact hp.elim
      | outgrown => exact hp.elim
    · -- behind the iterator
      rintro e W2 ⟨⟨v, rfl⟩, (⟨hi, hl, hk⟩ | ⟨pre, hSp, c, hi, hl, hk⟩)⟩
      · exact ⟨none, _, by have := run_endLoop (P := P) hl (by rw [hrec]; simp); rw [hrec] at this; exact this, hdone _ (hI _ _ _ hi (hput _ _)) ((World.putObj_heap_other (by omega)).trans hk)⟩
      · exact ⟨some c, _, by have := run_endLoop (P := P) hl (by rw [hrec]; simp); rw [hrec] at this; exact this, hstop c pre _ hSp (hIx c _ _ _ hi (hput _ _)) ((World.putObj_heap_other (by omega)).trans hk)⟩
end Go.Proofs.Ytiapoalkkhpmlaa

/-
  slices.Chunk at bytes, by fours: its iterator's contract.
-/
namespace Go.Proofs.Ytiapoalkkhpmlaa
open Go.RowKit
attribute [local go_sem] Oper.semAt_some

set_option maxRecDepth 100000 in
set_option maxHeartbeats 2000000 in
theorem chunk1_in (F : Fence) (n : Nat) (hf : F.fn 84) (hro : F.round = none) (hn : 1 ≤ n) (bs bn g off m cap : Nat) (A : Option Addr) (hA : 0 < m → A = some ⟨g, off, none⟩) (hm : 4 * m ≤ cap) (hcap : (cap : Int) ≤ 9223372036854775807) (w : World)
    (hs : w.cell? ⟨bs, 0, none⟩ = some (.slice A (4 * m) cap)) (hb : w.cell? ⟨bn, 0, none⟩ = some (.int .i64 4)) :
    SeqL F n Try.prog 84 #[.pointer (some ⟨bs, 0, none⟩), .pointer (some ⟨bn, 0, none⟩)] (fun k : Nat => #[.slice (some ⟨g, off + 4 * k, none⟩) 4 4]) NoB (Two bs bn) (List.range m) w := by
  intro l J Jx W hF hJ hJx hY h0
  refine callsIn_of_wp Try.func84 rfl hf ?_ hro
  simp only [Try.ntmps84, List.size_toArray, List.length_cons, List.length_nil, Nat.reduceAdd, Nat.reduceSub, Array.replicate_succ, Array.replicate_zero, List.push_toArray, List.append_toArray, List.nil_append, List.cons_append]
  gi_wp2
  gi_loopw [4] (fun i wr => ∃ k : Nat, k ≤ m ∧ i = .int .i64 (4 * k : Nat) ∧ J (List.range k) wr ∧ Keep (fun k => NoB k ∨ Two bs bn k) W wr) (fun i _ => 4 * m - (intOf i).toNat)
  case atStart => exact ⟨0, Nat.zero_le _, rfl, h0, Keep.refl _ _⟩
  case round =>
    obtain ⟨k, hk, rfl, hJs, hkp⟩ := hrel
    have hlt1 := World.block_lt_of_cell? w _ hs
    have hlt2 := World.block_lt_of_cell? w _ hb
    have hs' : wr.cell? ⟨bs, 0, none⟩ = some (.slice A (4 * m) cap) := by
      rw [World.cell?_of_block (hkp.2 bs (.inr (.inl rfl)) (Nat.lt_of_lt_of_le hlt1 hF.size)), hF.cell hlt1 (fun e => e)]; exact hs
    have hb' : wr.cell? ⟨bn, 0, none⟩ = some (.int .i64 4) := by
      rw [World.cell?_of_block (hkp.2 bn (.inr (.inr rfl)) (Nat.lt_of_lt_of_le hlt2 hF.size)), hF.cell hlt2 (fun e => e)]; exact hb
    by_cases hlt : k < m
    · have hA := hA (by omega)
      subst hA
      have hp : List.range k ++ [k] <+: List.range m := by
        rw [← List.range_succ]
        exact ⟨List.map (fun j => k + 1 + j) (List.range (m - (k + 1))), by rw [← List.range_add]; congr 1; omega⟩
      obtain ⟨fn, tmps, assign, body, hy, hR⟩ := hY (List.range k) k wr.drew (hJ _ _ _ hJs ((Frm.refl _ wr).drew)) hp
      have HY := hide hY
      have HP := hide hp
      have HR := hide hR
      have hc1 : 4 * k + 4 ≤ 4 * m := by omega
      have hc2 : 4 * k < cap := by omega
      have HJ := hide hJ
      have HJx := hide hJx
      clear hY hp hR hJ hJx hs hb
      gi_wp2
      gi_region
      gi_wp2
      all_goals
        refine HR.out.mono ?_
        clear hy
        rintro e W3 (⟨rfl, hJ3, hk3⟩ | ⟨rfl, hJx3⟩)
        · have hb3 : W3.cell? ⟨bn, 0, none⟩ = some (.int .i64 4) := by
            rw [World.cell?_of_block (hk3.2 bn (.inr (.inr rfl)) (World.block_lt_of_cell? wr _ hb'))]; exact hb'
          have hkp3 : Keep (fun k => NoB k ∨ Two bs bn k) W W3 := hkp.trans hk3
          rw [← List.range_succ] at hJ3
          gi_wp2
          go_roundw
          case rel => exact ⟨k + 1, by omega, by go_num, hJ3, hkp3⟩
          case measure => simp [intOf]; omega
        · gi_wp2
          refine bodyPost_ret (results_none rfl _ _ _) rfl ?_
          exact ⟨⟨_, rfl⟩, .inr ⟨_, HP.out, hJx3⟩⟩
    · obtain rfl : k = m := by omega
      gi_wp2
      refine bodyPost_end (results_none rfl _ _ _) rfl ?_
      exact ⟨⟨_, rfl⟩, .inl hJs⟩
end Go.Proofs.Ytiapoalkkhpmlaa

/-
  Operations and regions within a round of a range over a function: as everywhere.
-/
namespace Go.Proofs.Ytiapoalkkhpmlaa
open Go.RowKit
variable {P : Program} {n l₀ : Nat}

/-- it is no defer statement -/
def Oper.calm (o : Oper) : Bool := match o.op with | .defer _ => false | _ => true
theorem Oper.calm_ne {o : Oper} (h : Oper.calm o = true) : ∀ c, o.op ≠ .defer c := fun c e => by
  unfold Oper.calm at h; rw [e] at h; cases h
theorem callsIn_round {f : FuncId} {args : Array Value} {w : World} {R : Ending → World → Prop} (h : Calls P f args w R) : CallsIn (Fence.wide.inRound l₀) n P f args w R := CallsIn.inRound l₀ (callsIn_wide.2 h)
theorem room_wide' (k : Nat) : Fence.wide.room k := by simp [Fence.room, Fence.wide]
theorem rowsIn_round {row : String} {args : Array Value} {w : World} {R : Value → World → Prop} (h : Rows P row args w R) : RowsIn (Fence.wide.inRound l₀) n P row args w R := by
  intro c cs _
  obtain ⟨v, w', r, s⟩ := h c cs
  exact ⟨v, w', r, stepsIn_wide.2 s⟩
theorem opIn_of_op {o : Oper} {a : Act} {w : World} {K : Act → World → Prop} {Q : Exit → Act → World → Prop} (hc : Oper.calm o = true) (h : o.wp P a w K Q) : o.wpIn (Fence.wide.inRound l₀) n P a w K Q := by
  unfold Oper.wpIn
  refine ⟨fun _ _ => trivial, ?_⟩
  rw [Oper.semAt_plain _ _ _ (Oper.calm_ne hc)]
  unfold Oper.wp at h
  generalize (execOp a.eval o).run P w = r at *
  cases r with
  | ok x w' =>
    cases x <;> simp only [Oper.upon, Oper.uponIn] at h ⊢ <;>
      first
        | exact h
        | exact ⟨fun e => absurd e (by simp [Fence.wide]), callsIn_round h⟩
        | exact ⟨fun e => absurd e (by simp [Fence.wide]), rowsIn_round h⟩
        | exact h.elim
  | halt x w' => cases x <;> simp only [Oper.upon, Oper.uponIn] at h ⊢ <;> exact h

/-- an operation of a plain region -/
theorem listIn_of_op {ops : Array Oper} {rest : List Oper} {o : Oper} {a : Act} {w : World} {Q : Exit → Act → World → Prop} (hg : o.guard = none) (hc : Oper.calm o = true)
    (h : ∀ K : Act → World → Prop, (∀ a w, wpListIn (Fence.wide.inRound l₀) n P ops Q rest a w → K a w) → o.wp P a w K Q) : wpListIn (Fence.wide.inRound l₀) n P ops Q (o :: rest) a w :=
  wpListIn_plain hg (fun K hK => opIn_of_op hc (h K hK))
theorem calm_all {l : List Oper} (h : l.all (fun o => Oper.calm o) = true) {i : Nat} {o : Oper} (hi : l.toArray[i]? = some o) : Oper.calm o = true := by
  rw [List.getElem?_toArray] at hi
  exact List.all_eq_true.1 h o (List.mem_of_getElem? hi)
theorem anyIn_of_any {md : Region.Mode} {l : List Oper} {Q : Exit → Act → World → Prop} (hc : l.all (fun o => Oper.calm o) = true) (hQ : ¬ LetsOut Q) : ∀ (fuel : Nat) (listed : Array Bool) (a : Act) (w : World),
    wpAny P md l.toArray Q fuel listed a w → wpAnyIn (Fence.wide.inRound l₀) n P md l.toArray Q fuel listed a w
  | 0, _, _, _, h => h
  | fuel + 1, listed, a, w, h => ⟨h.1, fun i hi => by
      have h2 := h.2 i hi
      unfold wpOp at h2
      unfold wpOpIn
      cases hl : l.toArray[i]? with
      | none => rw [hl] at h2; exact anyIn_of_any hc hQ fuel _ _ _ h2
      | some o =>
        rw [hl] at h2
        simp only at h2 ⊢
        by_cases hw : Region.wanted o (yielded l.toArray a.tmps) = true
        · rw [if_pos hw] at h2 ⊢
          refine opIn_of_op (calm_all hc hl) ?_
          rcases h2 with h2 | h2
          · exact Oper.wp_mono (fun a' w' h3 => anyIn_of_any hc hQ fuel _ _ _ h3) h2
          · exact absurd h2.2 hQ
        · rw [if_neg hw] at h2 ⊢
          exact ⟨fun _ _ => trivial, anyIn_of_any hc hQ fuel _ _ _ h2⟩⟩
theorem opIn_of_qOp {l : List Oper} {C : World → Prop} (hc : l.all (fun o => Oper.calm o) = true) {i : Nat} {a : Act} {K : Act → Prop} {K' : Act → World → Prop} {Q' : Exit → Act → World → Prop} {w : World} (hC : C w) (h : ∀ a w', C w' → K a → K' a w')
    (hh : qOp P l.toArray C i K a) : wpOpIn (Fence.wide.inRound l₀) n P l.toArray Q' i K' a w := by
  unfold qOp at hh
  unfold wpOpIn
  cases hl : l.toArray[i]? with
  | none => rw [hl] at hh; exact h _ _ hC hh
  | some o =>
    rw [hl] at hh
    simp only at hh ⊢
    by_cases hw : Region.wanted o (yielded l.toArray a.tmps) = true
    · rw [if_pos hw] at hh ⊢
      exact opIn_of_op (calm_all hc hl) (Oper.wp_of_quiet hC h hh)
    · rw [if_neg hw] at hh ⊢
      exact ⟨fun _ _ => trivial, h _ _ hC hh⟩
theorem anyIn_of_quiet {md : Region.Mode} {l : List Oper} {C : World → Prop} {Q : Act → Prop} {Q' : Exit → Act → World → Prop} (hc : l.all (fun o => Oper.calm o) = true) (hQ : ∀ a w, C w → Q a → Q' .normal a w) : ∀ (fuel : Nat) (listed : Array Bool) (a : Act) (w : World), C w →
    wpAnyQ P md l.toArray C Q fuel listed a → wpAnyIn (Fence.wide.inRound l₀) n P md l.toArray Q' fuel listed a w
  | 0, _, _, _, hw, h => ⟨h.1, hQ _ _ hw h.2⟩
  | fuel + 1, _, _, _, hw, h => ⟨fun h0 => hQ _ _ hw (h.1 h0), fun i hi => opIn_of_qOp hc hw (fun a' w' hw' => anyIn_of_quiet hc hQ fuel _ a' w' hw') (h.2 i hi)⟩
/-- A region that draws its order, within a round, its operations quiet. -/
theorem region_quiet_round {id : Nat} {Q : Exit → Act → World → Prop} {a : Act} {w : World} {l : List Oper} (hm : P.follows .mixedOrders = true) (hB : Region.lexB .any l.toArray = true) (hc : l.all (fun o => Oper.calm o) = true)
    (h : wpQuiet P l.toArray (fun w' => ∃ n, w' = w.drewN n) (fun a' => ∀ w', (∃ n, w' = w.drewN n) → Q .normal a' w') l a) : (Code.region id l.toArray true).wpIn (Fence.wide.inRound l₀) n P Q a w := by
  have hB' := hB
  simp only [Region.lexB, Bool.and_eq_true] at hB'
  refine wpIn_region_any hm (anyIn_of_quiet (C := fun w' => ∃ n, w' = w.drewN n) (Q := fun a' => ∀ w', (∃ n, w' = w.drewN n) → Q .normal a' w') hc (fun _ w' hw' h => h w' hw') _ _ _ _ ⟨1, rfl⟩ ?_)
  have := wpAnyQ_lex (C := fun w' => ∃ n, w' = w.drewN n) (md := .any) hB'.1 l.toArray.toList 0 (Array.replicate l.toArray.size false) a (by simp) (by simpa using hB'.2) (by simpa using h)
  simpa using this
end Go.Proofs.Ytiapoalkkhpmlaa

/-
  Plain: what a flash does, over lists of numbers.
-/
namespace Go.Proofs.Ytiapoalkkhpmlaa

/-- bits of both -/
def wand (a b : Int) : Int := ((a.toNat &&& b.toNat : Nat) : Int)
theorem wand_lo (a b : Int) : 0 ≤ wand a b := by unfold wand; omega
theorem wand_le (a b : Int) (ha : 0 ≤ a) : wand a b ≤ a := by
  have := Nat.and_le_left (n := a.toNat) (m := b.toNat)
  unfold wand; omega
theorem wand_u32 {a b : Int} (ha : 0 ≤ a ∧ a < 4294967296) : 0 ≤ wand a b ∧ wand a b < 4294967296 :=
  ⟨wand_lo _ _, by have := wand_le a b ha.1; omega⟩
theorem wand_idem (a b : Int) : wand (wand a b) b = wand a b := by
  unfold wand; simp [Nat.and_assoc]
theorem wand_right (a b c : Int) : wand (wand a b) c = wand (wand a c) b := by
  unfold wand; simp only [Int.toNat_natCast]; rw [Nat.and_assoc, Nat.and_comm b.toNat, ← Nat.and_assoc]

/-- A flash. -/
structure NorS where
  n : Nat
  l : List Int
  guard : Int
  arm : Int
  down : Bool
  half : Int

namespace NorS
structure Ok (s : NorS) : Prop where
  len : s.l.length = 64 * s.n
  n1 : 1 ≤ s.n
  n2 : s.n ≤ 1024
  g0 : 0 ≤ s.guard
  g1 : s.guard ≤ s.n
  a0 : -1 ≤ s.arm
  a1 : s.arm ≤ 9223372036854775807
  h0 : -1 ≤ s.half
  h1 : s.half < s.n
  u : U32 s.l

def there (s : NorS) (sec k m : Int) : Bool := decide (0 ≤ sec) && decide (sec < s.n) && decide (0 ≤ k) && decide (m ≤ 64) && decide (k ≤ 64 - m)
def up (s : NorS) (sec k m : Int) : Int := if s.down = true then 40 else if s.there sec k m = true then 0 else 2
def step (s : NorS) : NorS := if s.arm = 0 then { s with down := true, arm := -1 } else { s with arm := max (s.arm - 1) (-1) }
def steps (s : NorS) : Bool := !(s.arm == 0)
/-- the place of a word -/
def at_ (sec k : Int) : Nat := sec.toNat * 64 + k.toNat
/-- a word -/
def wd (s : NorS) (i : Nat) : Int := s.l.getD i 0
def read (s : NorS) (sec k : Int) : Int := if s.up sec k 1 = 0 then s.wd (at_ sec k) else 0
def put (s : NorS) (i : Nat) (x : Int) : NorS := { s with l := s.l.set i x }
def prog : NorS → Nat → List Int → NorS
  | s, _, [] => s
  | s, i, x :: r => if s.steps = true then prog (s.step.put i (wand (s.wd i) x)) (i + 1) r else s.step
def progs : NorS → List Int → Bool
  | _, [] => true
  | s, _ :: r => if s.steps = true then progs s.step r else false
def program (s : NorS) (sec k : Int) (xs : List Int) : NorS := if s.up sec k xs.length = 0 then s.prog (at_ sec k) xs else s
def programE (s : NorS) (sec k : Int) (xs : List Int) : Int := if s.up sec k xs.length = 0 then (if s.progs xs = true then 0 else 40) else s.up sec k xs.length
/-- the words from i on are those -/
def lay : List Int → Nat → List Int → List Int
  | l, _, [] => l
  | l, i, x :: r => lay (l.set i x) (i + 1) r
def erase (s : NorS) (sec : Int) : NorS :=
  if s.up sec 0 0 = 0 then (if s.steps = true then { s.step with l := lay s.l (at_ sec 0) (List.replicate 64 4294967295) } else { s.step with half := sec }) else s
def eraseE (s : NorS) (sec : Int) : Int := if s.up sec 0 0 = 0 then (if s.steps = true then 0 else 40) else s.up sec 0 0
def rewriteE (s : NorS) (sec k : Int) (xs : List Int) : Int := if s.there sec k xs.length = true then (if sec < s.guard then 41 else 0) else 2
def rewrite (s : NorS) (sec k : Int) (xs : List Int) : NorS := if s.rewriteE sec k xs = 0 then { s with l := lay s.l (at_ sec k) xs } else s
def arms (s : NorS) (k : Int) : NorS := if s.down = true then s else { s with arm := max k 0 }
/-- of a half-erased sector that begins at base: word i, and on -/
def burn (ks : List Bool) (base : Nat) : Nat → Nat → List Int → List Int
  | 0, _, l => l
  | m + 1, i, l => burn ks base m (i + 1) (if ks.getD i false = true then l.set (base + i) 4294967295 else l)
def crash (s : NorS) (ks : List Bool) : NorS :=
  { s with l := if 0 ≤ s.half then burn ks (at_ s.half 0) 64 0 s.l else s.l, down := false, arm := -1, half := -1 }
def new (n : Nat) (g : Int) : NorS := { n, l := List.replicate (64 * n) 4294967295, guard := g, arm := -1, down := false, half := -1 }

theorem lay_length (xs : List Int) : ∀ (l : List Int) (i : Nat), (lay l i xs).length = l.length := by
  induction xs with
  | nil => intro l i; rfl
  | cons x r ih => intro l i; simp [lay, ih]
theorem lay_u32 (xs : List Int) (hx : U32 xs) : ∀ (l : List Int) (i : Nat), U32 l → U32 (lay l i xs) := by
  induction xs with
  | nil => intro l i h; exact h
  | cons x r ih => intro l i h; exact ih (fun y hy => hx y (List.mem_cons_of_mem _ hy)) _ _ (h.set i (hx x List.mem_cons_self))
theorem Ok.step {s : NorS} (h : s.Ok) : s.step.Ok := by
  have := h.a0; have := h.a1
  unfold NorS.step
  split
  · exact ⟨h.len, h.n1, h.n2, h.g0, h.g1, by simp, by simp, h.h0, h.h1, h.u⟩
  · exact ⟨h.len, h.n1, h.n2, h.g0, h.g1, by show -1 ≤ max _ _; omega, by show max _ _ ≤ _; omega, h.h0, h.h1, h.u⟩
theorem Ok.put {s : NorS} (h : s.Ok) (i : Nat) {x : Int} (hx : 0 ≤ x ∧ x < 4294967296) : (s.put i x).Ok :=
  ⟨by simpa [NorS.put] using h.len, h.n1, h.n2, h.g0, h.g1, h.a0, h.a1, h.h0, h.h1, h.u.set i hx⟩
theorem Ok.wd {s : NorS} (h : s.Ok) (i : Nat) : 0 ≤ s.wd i ∧ s.wd i < 4294967296 := h.u.get i
theorem up_zero {s : NorS} {sec k m : Int} (h : s.up sec k m = 0) : s.down = false ∧ 0 ≤ sec ∧ sec < s.n ∧ 0 ≤ k ∧ k ≤ 64 - m := by
  unfold up at h
  split at h
  · cases h
  · split at h
    · rename_i h1 h2
      unfold there at h2
      simp only [Bool.and_eq_true, decide_eq_true_eq] at h2
      exact ⟨by simpa using h1, h2.1.1.1.1, h2.1.1.1.2, h2.1.1.2, h2.2⟩
    · cases h
theorem step_put (s : NorS) (i : Nat) (x : Int) : (s.put i x).step = s.step.put i x := by
  unfold step put; split <;> rfl
theorem progs_put (xs : List Int) : ∀ (s : NorS) (i : Nat) (x : Int), (s.put i x).progs xs = s.progs xs := by
  induction xs with
  | nil => intro s i x; rfl
  | cons y r ih =>
    intro s i x
    show (if (s.put i x).steps = true then _ else _) = if s.steps = true then _ else _
    rw [step_put, ih, show (s.put i x).steps = s.steps from rfl]
theorem step_l (s : NorS) : s.step.l = s.l := by unfold step; split <;> rfl
theorem step_n (s : NorS) : s.step.n = s.n := by unfold step; split <;> rfl

end NorS
end Go.Proofs.Ytiapoalkkhpmlaa

/-
  Plain: words from a place on, sector by sector.
-/
namespace Go.Proofs.Ytiapoalkkhpmlaa
/-- where piece j begins, of 'many' words from 'a' on (its end: where the next one begins) -/
def pcur (a many j : Nat) : Nat := min (a + many) (if j = 0 then a else (a / 64 + j) * 64)
/-- how many pieces there are -/
def pnum (a many : Nat) : Nat := if many = 0 then 0 else (a % 64 + many + 63) / 64
/-- how many words piece j has -/
def plen (a many j : Nat) : Nat := pcur a many (j + 1) - pcur a many j
theorem pcur_zero (a many : Nat) : pcur a many 0 = a := by unfold pcur; simp
theorem pcur_last (a many : Nat) : pcur a many (pnum a many) = a + many := by
  unfold pcur pnum
  split
  · simp; omega
  · rw [if_neg (by omega)]; omega
theorem pcur_le (a many j : Nat) : pcur a many j ≤ a + many := by unfold pcur; omega
theorem pcur_ge (a many j : Nat) : a ≤ pcur a many j := by unfold pcur; split <;> omega
theorem pnum_lt {a many j : Nat} : j < pnum a many ↔ pcur a many j < a + many := by
  unfold pcur pnum
  split
  · simp; split <;> omega
  · split
    · rename_i h1 h2; subst h2; omega
    · omega
theorem plen_eq {a many j : Nat} (h : j < pnum a many) : plen a many j = min (a + many - pcur a many j) (64 - pcur a many j % 64) := by
  have h' := pnum_lt.1 h
  unfold plen
  unfold pcur at h' ⊢
  rw [if_neg (show j + 1 ≠ 0 by omega)]
  split at h'
  · rename_i hj; subst hj; rw [if_pos rfl]; omega
  · rename_i hj; rw [if_neg hj]; omega
theorem pcur_next {a many j : Nat} (h : j < pnum a many) : pcur a many (j + 1) = pcur a many j + plen a many j := by
  have h' := pnum_lt.1 h
  unfold plen
  unfold pcur at h' ⊢
  rw [if_neg (show j + 1 ≠ 0 by omega)]
  split at h'
  · rename_i hj; subst hj; rw [if_pos rfl]; omega
  · rename_i hj; rw [if_neg hj]; omega
theorem plen_pos {a many j : Nat} (h : j < pnum a many) : 1 ≤ plen a many j := by
  have h' := pnum_lt.1 h
  rw [plen_eq h]; omega
theorem plen_le {a many j : Nat} (h : j < pnum a many) : pcur a many j % 64 + plen a many j ≤ 64 := by
  rw [plen_eq h]; omega
end Go.Proofs.Ytiapoalkkhpmlaa

/-
  drive.pieces: its iterator's contract.
-/
namespace Go.Proofs.Ytiapoalkkhpmlaa
open Go.RowKit
attribute [local go_sem] Oper.semAt_some

/-- what a round is handed: a sector, a place in it, how many words -/
def pieceV (first a m j : Nat) : Array Value := #[.agg #[.int .i64 ((first : Int) + (pcur a m j : Int) / 64), .int .i64 ((pcur a m j : Int) % 64)], .int .i64 (plen a m j)]
/-- how many words are left -/
def leftOf (bm : Nat) (w : World) : Nat := match w.cell? ⟨bm, 0, none⟩ with | some (.int _ n) => n.toNat | _ => 0
/-- behind j pieces -/
structure PieceRel (bm ba bd dp first a m : Nat) (J : List Nat → World → Prop) (W wr : World) (j x left : Nat) : Prop where
  le : j ≤ pnum a m
  hx : x = pcur a m j
  hl : x + left = a + m
  cm : wr.cell? ⟨bm, 0, none⟩ = some (.int .i64 left)
  ca : wr.cell? ⟨ba, 0, none⟩ = some (.int .i64 x)
  fm : wr.frozen? ⟨bm, 0, none⟩ = false
  fa : wr.frozen? ⟨ba, 0, none⟩ = false
  cd : wr.cell? ⟨bd, 0, none⟩ = some (.pointer (some ⟨dp, 0, none⟩))
  cf : wr.cell? ⟨dp, 1, none⟩ = some (.int .i64 first)
  J : J (List.range j) wr

theorem range_pre {j m : Nat} (h : j < m) : List.range j ++ [j] <+: List.range m := by
  rw [← List.range_succ]
  exact ⟨List.map (fun i => j + 1 + i) (List.range (m - (j + 1))), by rw [← List.range_add]; congr 1; omega⟩
theorem round_bool {F : Fence} {n l : Nat} {P : Program} {fn : FuncId} {tmps : Array Value} {assign body : Code} {W : World} {A B : World → Prop}
    (h : RoundIn F n P l fn tmps assign body W fun e W' => (e = .returned (.bool true) ∧ A W') ∨ (e = .returned (.bool false) ∧ B W')) :
    RoundIn F n P l fn tmps assign body W fun e W' => ∃ b : Bool, e = .returned (.bool b) ∧ ((b = true ∧ A W') ∨ (b = false ∧ B W')) :=
  h.mono (fun e W' hh => by
    rcases hh with ⟨rfl, ha⟩ | ⟨rfl, hb⟩
    · exact ⟨true, rfl, .inl ⟨rfl, ha⟩⟩
    · exact ⟨false, rfl, .inr ⟨rfl, hb⟩⟩)
theorem PieceRel.after {bm ba bd dp first a m : Nat} {J : List Nat → World → Prop} {W wr W3 : World} {j x left : Nat} (h : PieceRel bm ba bd dp first a m J W wr j x left) (_ : j < pnum a m)
    (hk : Keep (fun k => Two bm ba k ∨ Two bd dp k) wr.drew W3) :
    W3.cell? ⟨bm, 0, none⟩ = some (.int .i64 left) ∧ W3.cell? ⟨ba, 0, none⟩ = some (.int .i64 x) ∧ W3.frozen? ⟨bm, 0, none⟩ = false ∧ W3.frozen? ⟨ba, 0, none⟩ = false ∧
    W3.cell? ⟨bd, 0, none⟩ = some (.pointer (some ⟨dp, 0, none⟩)) ∧ W3.cell? ⟨dp, 1, none⟩ = some (.int .i64 first) := by
  have k1 := hk.2 bm (.inl (.inl rfl)) (World.block_lt_of_cell? wr _ h.cm)
  have k2 := hk.2 ba (.inl (.inr rfl)) (World.block_lt_of_cell? wr _ h.ca)
  have k3 := hk.2 bd (.inr (.inl rfl)) (World.block_lt_of_cell? wr _ h.cd)
  have k4 := hk.2 dp (.inr (.inr rfl)) (World.block_lt_of_cell? wr ⟨dp, 1, none⟩ h.cf)
  exact ⟨(World.cell?_of_block k1).trans h.cm, (World.cell?_of_block k2).trans h.ca, (World.frozen?_of_block k1).trans h.fm, (World.frozen?_of_block k2).trans h.fa, (World.cell?_of_block k3).trans h.cd, (World.cell?_of_block k4).trans h.cf⟩
theorem two_sets {W : World} {p q : Nat} {a b : Value} (hpq : p ≠ q) (u v : Value) (hp : W.cell? ⟨p, 0, none⟩ = some a) (hq : W.cell? ⟨q, 0, none⟩ = some b) (fp : W.frozen? ⟨p, 0, none⟩ = false) (fq : W.frozen? ⟨q, 0, none⟩ = false) :
    (((W.setCell ⟨p, 0, none⟩ u).setCell ⟨q, 0, none⟩ v).drew.cell? ⟨p, 0, none⟩ = some u ∧ ((W.setCell ⟨p, 0, none⟩ u).setCell ⟨q, 0, none⟩ v).drew.cell? ⟨q, 0, none⟩ = some v) ∧
    (((W.setCell ⟨p, 0, none⟩ u).setCell ⟨q, 0, none⟩ v).drew.frozen? ⟨p, 0, none⟩ = false ∧ ((W.setCell ⟨p, 0, none⟩ u).setCell ⟨q, 0, none⟩ v).drew.frozen? ⟨q, 0, none⟩ = false) ∧
    Frm (Two p q) W ((W.setCell ⟨p, 0, none⟩ u).setCell ⟨q, 0, none⟩ v).drew := by
  have h1 : (W.setCell ⟨p, 0, none⟩ u).cell? ⟨p, 0, none⟩ = some u := World.cell?_setCell_same W ⟨p, 0, none⟩ u hp
  have h2 : (W.setCell ⟨p, 0, none⟩ u).cell? ⟨q, 0, none⟩ = some b := (World.cell?_setCell_other W ⟨p, 0, none⟩ ⟨q, 0, none⟩ u (by simp)).trans hq
  refine ⟨⟨?_, ?_⟩, ⟨?_, ?_⟩, ?_⟩
  · show ((W.setCell ⟨p, 0, none⟩ u).setCell ⟨q, 0, none⟩ v).cell? _ = _
    rw [World.cell?_setCell_other _ _ _ _ (by simp)]; exact h1
  · exact World.cell?_setCell_same _ ⟨q, 0, none⟩ v h2
  · show ((W.setCell ⟨p, 0, none⟩ u).setCell ⟨q, 0, none⟩ v).frozen? _ = _
    rw [World.frozen?_setCell, World.frozen?_setCell]; exact fp
  · show ((W.setCell ⟨p, 0, none⟩ u).setCell ⟨q, 0, none⟩ v).frozen? _ = _
    rw [World.frozen?_setCell, World.frozen?_setCell]; exact fq
  · exact (((Frm.refl _ W).setCell (p := ⟨p, 0, none⟩) (.inl (.inl rfl)) u).setCell (p := ⟨q, 0, none⟩) (.inl (.inr rfl)) v).drew
theorem PieceRel.next {bm ba bd dp first a m : Nat} {J : List Nat → World → Prop} {W wr W3 w' : World} {j x left x' left' : Nat} (h : PieceRel bm ba bd dp first a m J W wr j x left) (hlt : j < pnum a m)
    (h1 : bm ≠ bd) (h2 : bm ≠ dp) (h3 : ba ≠ bd) (h4 : ba ≠ dp)
    (hJ : ∀ s A B, J s A → Frm (Two bm ba) A B → J s B) (hJ3 : J (List.range j ++ [j]) W3) (hk : Keep (fun k => Two bm ba k ∨ Two bd dp k) wr.drew W3) (hf : Frm (Two bm ba) W3 w')
    (hx : x' = x + plen a m j) (hl : left' + plen a m j = left) (cm : w'.cell? ⟨bm, 0, none⟩ = some (.int .i64 left')) (ca : w'.cell? ⟨ba, 0, none⟩ = some (.int .i64 x')) (fm : w'.frozen? ⟨bm, 0, none⟩ = false) (fa : w'.frozen? ⟨ba, 0, none⟩ = false) :
    (∃ j x left, PieceRel bm ba bd dp first a m J W w' j x left) ∧ leftOf bm w' < leftOf bm wr := by
  obtain ⟨-, -, -, -, cd3, cf3⟩ := h.after hlt hk
  refine ⟨⟨j + 1, x', left', by omega, ?_, by have := h.hl; omega, cm, ca, fm, fa, ?_, ?_, ?_⟩, ?_⟩
  · rw [pcur_next hlt, ← h.hx]; exact hx
  · rw [hf.cell (p := ⟨bd, 0, none⟩) (World.block_lt_of_cell? _ _ cd3) (fun e => by rcases e with e | e; exact h1 e.symm; exact h3 e.symm)]; exact cd3
  · rw [hf.cell (p := ⟨dp, 1, none⟩) (World.block_lt_of_cell? _ _ cf3) (fun e => by rcases e with e | e; exact h2 e.symm; exact h4 e.symm)]; exact cf3
  · rw [List.range_succ]; exact hJ _ _ _ hJ3 hf
  · have := plen_pos hlt
    unfold leftOf
    rw [cm, h.cm]
    simp only [Int.toNat_natCast]
    omega
set_option maxRecDepth 100000 in
set_option maxHeartbeats 2000000 in
theorem pieces1_in (n : Nat) (hn : 1 ≤ n) (bm ba bd dp first a m : Nat) (w : World) (hne : bm ≠ ba) (h1 : bm ≠ bd) (h2 : bm ≠ dp) (h3 : ba ≠ bd) (h4 : ba ≠ dp) (hlo : first + a + m ≤ 1000000000000)
    (hm : w.cell? ⟨bm, 0, none⟩ = some (.int .i64 m)) (ha : w.cell? ⟨ba, 0, none⟩ = some (.int .i64 a)) (fm : w.frozen? ⟨bm, 0, none⟩ = false) (fa : w.frozen? ⟨ba, 0, none⟩ = false)
    (hd : w.cell? ⟨bd, 0, none⟩ = some (.pointer (some ⟨dp, 0, none⟩))) (hf : w.cell? ⟨dp, 1, none⟩ = some (.int .i64 first)) :
    SeqL Fence.wide n Try.prog 76 #[.pointer (some ⟨bm, 0, none⟩), .pointer (some ⟨ba, 0, none⟩), .pointer (some ⟨bd, 0, none⟩)] (pieceV first a m) (Two bm ba) (Two bd dp) (List.range (pnum a m)) w := by
  intro l J Jx W hF hJ hJx hY h0
  refine callsIn_of_wp Try.func76 rfl trivial ?_ rfl
  simp only [Try.ntmps76, List.size_toArray, List.length_cons, List.length_nil, Nat.reduceAdd, Nat.reduceSub, Array.replicate_succ, Array.replicate_zero, List.push_toArray, List.append_toArray, List.nil_append, List.cons_append]
  have hmo : Try.prog.follows .mixedOrders = true := by kernel_rfl
  have old : ∀ {p : Addr} {u : Value}, w.cell? p = some u → W.cell? p = some u := fun {p u} hu => by
    rw [hF.cell (World.block_lt_of_cell? w _ hu) (fun e => e)]; exact hu
  have oldf : ∀ {p : Addr} {u : Value}, w.cell? p = some u → W.frozen? p = w.frozen? p := fun {p u} hu => hF.frozen (World.block_lt_of_cell? w _ hu) (fun e => e)
  have R0 : PieceRel bm ba bd dp first a m J W W 0 a m := ⟨Nat.zero_le _, (pcur_zero _ _).symm, rfl, old hm, old ha, (oldf hm).trans fm, (oldf ha).trans fa, old hd, old hf, h0⟩
  have HJ := hide hJ
  have HJx := hide hJx
  have HY := hide hY
  clear hm ha fm fa hd hf old oldf hJ hJx hY h0 hF
  gi_wp2
  gi_loopw [5] (fun _ wr => ∃ j x left : Nat, PieceRel bm ba bd dp first a m J W wr j x left) (fun _ wr => leftOf bm wr)
  case atStart => exact ⟨0, a, m, R0⟩
  case round =>
    clear R0
    obtain ⟨j, x, left, R⟩ := hrel
    have cm := R.cm; have ca := R.ca; have fm := R.fm; have fa := R.fa; have cd := R.cd; have cf := R.cf
    have hsum := R.hl
    have hx0 := R.hx
    have HX := hide hx0
    have HR := hide R
    have hxlo : x + left ≤ 1000000000000 := by omega
    clear hsum hx0 R
    by_cases hl : 0 < left
    · have hlt : j < pnum a m := pnum_lt.2 (by have := HX.out; have := (HR.out).hl; omega)
      have hpl : Hid (plen a m j = min left (64 - x % 64)) := by
        have h1 := plen_eq hlt
        have h2 := HX.out; have h3 := (HR.out).hl
        show _ = _
        rw [h1, ← h2]; congr 1; omega
      rcases Nat.lt_or_ge (64 - x % 64) left with hc | hc
      · have hlen : Hid ((plen a m j : Int) = 64 - (x : Int) % 64) := by have := hpl.out; show _ = _; omega
        have hp : List.range j ++ [j] <+: List.range (pnum a m) := range_pre hlt
        have hy0 := HY.out (List.range j) j wr.drew (HJ.out _ _ _ (HR.out).J ((Frm.refl _ wr).drew)) hp
        unfold pieceV at hy0
        rw [← HX.out, hlen.out] at hy0
        obtain ⟨fn, tmps, assign, body, hy, hR⟩ := hy0
        have HRd := hide (round_bool hR)
        have HP := hide hp
        clear hR hp
        gi_wp2
        have hxf := HX.out
        have hxle := pcur_le a m j
        have hw1 : IntKind.i64.wrap ((x : Int) / 64) = (x : Int) / 64 := IntWalk.i64_in _ (by omega)
        have hw2 : IntKind.i64.wrap ((first : Int) + (x : Int) / 64) = (first : Int) + (x : Int) / 64 := IntWalk.i64_in _ (by omega)
        clear hxf hxle
        gi_region_with_o ((refine HRd.out.mono ?_; clear hy; rintro e W3 ⟨b, rfl, hb⟩))
        all_goals
          rcases hb with ⟨rfl, hJ3, hk3⟩ | ⟨rfl, hJx3⟩
          · have R3 := HR.out.after hlt hk3
            obtain ⟨cm3, ca3, fm3, fa3, cd3, cf3⟩ := R3
            have HJ3 := hide hJ3
            have HK3 := hide hk3
            have hw3 : IntKind.i64.wrap ((x : Int) + (64 - (x : Int) % 64)) = ((x + plen a m j : Nat) : Int) := (IntWalk.i64_in _ (by omega)).trans (by have := hlen.out; omega)
            have hw4 : IntKind.i64.wrap ((left : Int) - (64 - (x : Int) % 64)) = ((left - plen a m j : Nat) : Int) := (IntWalk.i64_in _ (by omega)).trans (by have := hlen.out; omega)
            have S1 := hide (two_sets hne (.int .i64 (((left - plen a m j : Nat) : Int))) (.int .i64 (((x + plen a m j : Nat) : Int))) cm3 ca3 fm3 fa3)
            have S2 := hide (two_sets (fun e => hne e.symm) (.int .i64 (((x + plen a m j : Nat) : Int))) (.int .i64 (((left - plen a m j : Nat) : Int))) ca3 cm3 fa3 fm3)
            clear hJ3 hk3
            gi_wp2
            gi_region
            all_goals
              gi_wp2
              first
                | (obtain ⟨⟨e1, e2⟩, ⟨e3, e4⟩, e5⟩ := S1.out; exact HR.out.next hlt h1 h2 h3 h4 HJ.out HJ3.out HK3.out e5 (x' := x + plen a m j) (left' := left - plen a m j) rfl (by have := hpl.out; omega) e1 e2 e3 e4)
                | (obtain ⟨⟨e1, e2⟩, ⟨e3, e4⟩, e5⟩ := S2.out; exact HR.out.next hlt h1 h2 h3 h4 HJ.out HJ3.out HK3.out (e5.mono (fun _ _ e => e.symm)) (x' := x + plen a m j) (left' := left - plen a m j) rfl (by have := hpl.out; omega) e2 e1 e4 e3)
          · gi_wp2
            refine bodyPost_ret (results_none rfl _ _ _) rfl ?_
            exact ⟨⟨_, rfl⟩, .inr ⟨_, HP.out, hJx3⟩⟩
      · have hlen : Hid ((plen a m j : Int) = (left : Int)) := by have := hpl.out; show _ = _; omega
        have hp : List.range j ++ [j] <+: List.range (pnum a m) := range_pre hlt
        have hy0 := HY.out (List.range j) j wr.drew (HJ.out _ _ _ (HR.out).J ((Frm.refl _ wr).drew)) hp
        unfold pieceV at hy0
        rw [← HX.out, hlen.out] at hy0
        obtain ⟨fn, tmps, assign, body, hy, hR⟩ := hy0
        have HRd := hide (round_bool hR)
        have HP := hide hp
        clear hR hp
        gi_wp2
        have hxf := HX.out
        have hxle := pcur_le a m j
        have hw1 : IntKind.i64.wrap ((x : Int) / 64) = (x : Int) / 64 := IntWalk.i64_in _ (by omega)
        have hw2 : IntKind.i64.wrap ((first : Int) + (x : Int) / 64) = (first : Int) + (x : Int) / 64 := IntWalk.i64_in _ (by omega)
        clear hxf hxle
        gi_region_with_o ((refine HRd.out.mono ?_; clear hy; rintro e W3 ⟨b, rfl, hb⟩))
        all_goals
          rcases hb with ⟨rfl, hJ3, hk3⟩ | ⟨rfl, hJx3⟩
          · have R3 := HR.out.after hlt hk3
            obtain ⟨cm3, ca3, fm3, fa3, cd3, cf3⟩ := R3
            have HJ3 := hide hJ3
            have HK3 := hide hk3
            have hw3 : IntKind.i64.wrap ((x : Int) + (left : Int)) = ((x + plen a m j : Nat) : Int) := (IntWalk.i64_in _ (by omega)).trans (by have := hlen.out; omega)
            have hw4 : IntKind.i64.wrap 0 = 0 := by decide
            have S1 := hide (two_sets hne (.int .i64 (((0 : Nat) : Int))) (.int .i64 (((x + plen a m j : Nat) : Int))) cm3 ca3 fm3 fa3)
            have S2 := hide (two_sets (fun e => hne e.symm) (.int .i64 (((x + plen a m j : Nat) : Int))) (.int .i64 (((0 : Nat) : Int))) ca3 cm3 fa3 fm3)
            clear hJ3 hk3
            gi_wp2
            gi_region
            all_goals
              gi_wp2
              first
                | (obtain ⟨⟨e1, e2⟩, ⟨e3, e4⟩, e5⟩ := S1.out; exact HR.out.next hlt h1 h2 h3 h4 HJ.out HJ3.out HK3.out e5 (x' := x + plen a m j) (left' := 0) rfl (by have := hlen.out; omega) e1 e2 e3 e4)
                | (obtain ⟨⟨e1, e2⟩, ⟨e3, e4⟩, e5⟩ := S2.out; exact HR.out.next hlt h1 h2 h3 h4 HJ.out HJ3.out HK3.out (e5.mono (fun _ _ e => e.symm)) (x' := x + plen a m j) (left' := 0) rfl (by have := hlen.out; omega) e2 e1 e4 e3)
          · gi_wp2
            refine bodyPost_ret (results_none rfl _ _ _) rfl ?_
            exact ⟨⟨_, rfl⟩, .inr ⟨_, HP.out, hJx3⟩⟩
    · obtain rfl : left = 0 := by omega
      gi_wp2
      refine bodyPost_end (results_none rfl _ _ _) rfl ?_
      have hj : j = pnum a m := by
        rcases Nat.lt_or_ge j (pnum a m) with h | h
        · have h2 := pnum_lt.1 h
          have h3 := HX.out; have h4 := (HR.out).hl; omega
        · have := (HR.out).le; omega
      subst hj
      exact ⟨⟨_, rfl⟩, .inl (HR.out).J⟩
end Go.Proofs.Ytiapoalkkhpmlaa

/-
  A function whose body holds a range over a function: how its contract is shown, by the plain walk.
-/
namespace Go.Proofs.Ytiapoalkkhpmlaa
open Go.RowKit
variable {P : Program}
theorem quiet_of' {f : FuncId} {args : Array Value} {w : World} {n : Nat} {v : Value} (h : ∀ n, Calls P f args (w.drewN n) fun e w' => e = .returned v ∧ w.drewN n = w') : Calls P f args (w.drewN n) fun e w'' => e = .returned v ∧ ∃ m, w'' = w.drewN m :=
  (h n).mono fun _ _ ⟨he, hm⟩ => ⟨he, n, hm.symm⟩
theorem calls_marks {f : FuncId} {fn : Func} {c : Code} {args : Array Value} {w : World} {R : Ending → World → Prop} (hf : P.funcs[f]? = some fn) (hb : fn.body = some c)
    (h : c.wp P (bodyPostM Fence.wide 4 P fn R) { tmps := args ++ Array.replicate (fn.ntmps - args.size) undef, defers := [] } w) : Calls P f args w R :=
  (callsIn_wide (n := 4)).1 (callsIn_of_wp_marks hf hb trivial (wpIn_wide.2 h))
theorem postM_ret {fn : Func} {a : Act} {w : World} {R : Ending → World → Prop} {v : Value} (hres : (results fn a.tmps).run P w = .ok v w) (hd : a.defers = []) (hR : R (.returned v) w) : bodyPostM Fence.wide 4 P fn R .ret a w := by
  show LeavesInM _ _ _ _ _ _ a.defers _ _
  rw [hd]
  exact ⟨v, hres, hR⟩
theorem postM_mark {fn : Func} {a : Act} {w : World} {R : Ending → World → Prop} {v : Value} {D : Nat} (hres : (results fn a.tmps).run P (w.putObj D (.deferred none)) = .ok v (w.putObj D (.deferred none))) (hd : a.defers = [{ target := .collected D, args := #[] }])
    (hD : w.heap[D]? = some (.deferred (some []))) (hR : R (.returned v) (w.putObj D (.deferred none))) : bodyPostM Fence.wide 4 P fn R .ret a w := by
  show LeavesInM _ _ _ _ _ _ a.defers _ _
  rw [hd]
  exact ⟨by simp, .inl ⟨D, _, rfl, run_takeDeferred hD, v, hres, hR⟩⟩
theorem range_prefix {pre : List Nat} {x n : Nat} (h : pre ++ [x] <+: List.range n) : pre = List.range x ∧ x < n := by
  have hl := h.length_le
  simp at hl
  have e := List.prefix_iff_eq_take.1 h
  rw [List.length_append, List.length_singleton, List.take_range, Nat.min_eq_left (by omega), List.range_succ] at e
  obtain ⟨h1, h2⟩ := List.append_inj' e rfl
  have h3 : x = pre.length := by simpa using h2
  subst h3
  exact ⟨h1, by omega⟩
end Go.Proofs.Ytiapoalkkhpmlaa

/-
  A region that draws its order, within a round: reads in the order of the text, and what stands alone.
-/
namespace Go.Proofs.Ytiapoalkkhpmlaa
open Go.RowKit
variable {P : Program} {n l₀ : Nat} {ops : Array Oper} {md : Region.Mode} {Q : Exit → Act → World → Prop} {S : World → Prop}

/-- it yields, in every world that meets S -/
def Oper.yields (P : Program) (o : Oper) (a : Act) (S : World → Prop) (K : Act → Prop) : Prop := ∃ v, (∀ w, S w → (execOp a.eval o).run P w = .ok (.value v) w) ∧ K (a.put o.dst v)
/-- the marks: true, it only reads; false, it stands alone -/
def lexM (md : Region.Mode) (ops : Array Oper) : List Bool → Nat → Array Bool → Bool
  | [], _, listed => (Region.ready md ops listed).isEmpty
  | true :: r, k, listed => (Region.ready md ops listed).contains k && Region.free md ops listed k && lexM md ops r (k + 1) (listed.setIfInBounds k true)
  | false :: r, k, listed => (Region.ready md ops listed == [k]) && lexM md ops r (k + 1) (listed.setIfInBounds k true)
/-- the walk in the order of the text -/
def wpMix (P : Program) (ops : Array Oper) (Q : Exit → Act → World → Prop) (S : World → Prop) : List Oper → List Bool → Act → World → Prop
  | o :: l, true :: r, a, w => if Region.wanted o (yielded ops a.tmps) = true then Oper.yields P o a S (fun a' => wpMix P ops Q S l r a' w) else wpMix P ops Q S l r (a.put o.dst undef) w
  | o :: l, false :: r, a, w => if Region.wanted o (yielded ops a.tmps) = true then Oper.wp P o a w (fun a' w' => S w' ∧ (S w' → wpMix P ops Q S l r a' w')) Q else S w ∧ wpMix P ops Q S l r (a.put o.dst undef) w
  | [], _, a, w => Q .normal a w
  | _, [], a, w => Q .normal a w
theorem wpMix_nil {r : List Bool} {a : Act} {w : World} (h : Q .normal a w) : wpMix P ops Q S [] r a w := by unfold wpMix; exact h
theorem wpMix_take {o : Oper} {l : List Oper} {r : List Bool} {a : Act} {w : World} (v : Value) (hw : Region.wanted o (yielded ops a.tmps) = true) (hv : ∀ w, S w → (execOp a.eval o).run P w = .ok (.value v) w) (h : wpMix P ops Q S l r (a.put o.dst v) w) :
    wpMix P ops Q S (o :: l) (true :: r) a w := by
  unfold wpMix
  rw [if_pos hw]
  exact ⟨v, hv, h⟩
theorem wpMix_alone {o : Oper} {l : List Oper} {r : List Bool} {a : Act} {w : World} (hw : Region.wanted o (yielded ops a.tmps) = true)
    (h : ∀ K : Act → World → Prop, (∀ a w, S w → (S w → wpMix P ops Q S l r a w) → K a w) → Oper.wp P o a w K Q) : wpMix P ops Q S (o :: l) (false :: r) a w := by
  unfold wpMix
  rw [if_pos hw]
  exact h _ (fun a' w' h1 h2 => ⟨h1, h2⟩)
theorem wpAnyH_mix (hs : Region.noSelect ops = true) (hQ : ∀ c a d v w, Q (.panic c) (a.put d v) w → Q (.panic c) a w) : ∀ (l : List Oper) (r : List Bool) (k : Nat) (listed : Array Bool) (a : Act) (w : World), l.length = r.length → (∀ j, l[j]? = ops[k + j]?) →
    lexM md ops r k listed = true → S w → wpMix P ops Q S l r a w → wpAnyH P md ops Q S l.length listed a w
  | [], [], k, listed, a, w, _, _, hB, _, h => by
    unfold wpMix at h
    exact ⟨by simpa [lexM] using hB, h⟩
  | [], _ :: _, _, _, _, _, hl, _, _, _, _ => by simp at hl
  | _ :: _, [], _, _, _, _, hl, _, _, _, _ => by simp at hl
  | o :: l, true :: r, k, listed, a, w, hl, hj, hB, hS, h => by
    have h0 : ops[k]? = some o := by simpa using (hj 0).symm
    have hj' : ∀ j, l[j]? = ops[k + 1 + j]? := fun j => by have := hj (j + 1); simpa [Nat.add_assoc, Nat.add_comm 1 j] using this
    simp only [lexM, Bool.and_eq_true] at hB
    obtain ⟨⟨hr, hf⟩, hB'⟩ := hB
    unfold wpMix at h
    by_cases hw : Region.wanted o (yielded ops a.tmps) = true
    · rw [if_pos hw] at h
      obtain ⟨v, hv, h⟩ := h
      exact wpAnyH_take h0 hs hf hr (fun c a w => hQ c a _ _ w) (.inl ⟨hw, hv⟩) hS (wpAnyH_mix hs hQ l r (k + 1) _ _ w (by simpa using hl) hj' hB' hS h)
    · rw [if_neg hw] at h
      exact wpAnyH_take h0 hs hf hr (fun c a w => hQ c a _ _ w) (.inr ⟨by simpa using hw, rfl⟩) hS (wpAnyH_mix hs hQ l r (k + 1) _ _ w (by simpa using hl) hj' hB' hS h)
  | o :: l, false :: r, k, listed, a, w, hl, hj, hB, hS, h => by
    have h0 : ops[k]? = some o := by simpa using (hj 0).symm
    have hj' : ∀ j, l[j]? = ops[k + 1 + j]? := fun j => by have := hj (j + 1); simpa [Nat.add_assoc, Nat.add_comm 1 j] using this
    simp only [lexM, Bool.and_eq_true] at hB
    obtain ⟨hr, hB'⟩ := hB
    have hr : Region.ready md ops listed = [k] := by simpa using hr
    refine wpAnyH_all hr (by simp) (fun i hi => ?_)
    obtain rfl : i = k := by simpa using hi
    unfold wpMix at h
    unfold wpOp
    rw [h0]
    simp only
    by_cases hw : Region.wanted o (yielded ops a.tmps) = true
    · rw [if_pos hw] at h ⊢
      exact .inl (Oper.wp_mono (fun a' w' h' => ⟨h'.1, wpAnyH_mix hs hQ l r (i + 1) _ _ w' (by simpa using hl) hj' hB' h'.1 (h'.2 h'.1)⟩) h)
    · rw [if_neg hw] at h ⊢
      exact ⟨h.1, wpAnyH_mix hs hQ l r (i + 1) _ _ w (by simpa using hl) hj' hB' hS h.2⟩
/-- A region that draws its order, within a round. -/
theorem region_mix_round {id : Nat} {a : Act} {w : World} {l : List Oper} (r : List Bool) (hm : P.follows .mixedOrders = true) (hc : l.all (fun o => Oper.calm o) = true) (hs : Region.noSelect l.toArray = true) (hl : l.length = r.length)
    (hB : lexM .any l.toArray r 0 (Array.replicate l.length false) = true) (hO : ¬ LetsOut Q) (hQ : ∀ c a d v w, Q (.panic c) (a.put d v) w → Q (.panic c) a w) (hS : S w.drew)
    (h : S w.drew → wpMix P l.toArray Q S l r a w.drew) : (Code.region id l.toArray true).wpIn (Fence.wide.inRound l₀) n P Q a w := by
  refine wpIn_region_any hm (anyIn_of_any hc hO _ _ _ _ (wpAny_of_held (S := S) _ _ _ _ ?_))
  have := wpAnyH_mix (md := .any) hs hQ l r 0 (Array.replicate l.length false) a w.drew hl (by simp) hB hS (h hS)
  simpa using this
end Go.Proofs.Ytiapoalkkhpmlaa
