/-
  Generic words: a frame 'Frm' (only the blocks of a set, and new ones, have turned), a block that is known whole ('Blk'), a row of values that is read ('Rd').
-/
import Derived.Test.YtmahaihcmmmhbaaRows
import Derived.WalkKit
import Derived.WalkSpells
import Derived.Deep.QuietTactic
import Derived.BigQuiet
namespace Go.Proofs.Ytmahaihcmmmhbaa
open Go.RowKit

theorem hide {p : Prop} (h : p) : Hid p := h

theorem ret_int {k : IntKind} {a b : Int} (h : a = b) : Ending.returned (.int k a) = .returned (.int k b) := by rw [h]
theorem ret_bool {a b : Bool} (h : a = b) : Ending.returned (.bool a) = .returned (.bool b) := by rw [h]
theorem ret_ii {k m : IntKind} {a b c d : Int} (h : a = b) (h' : c = d) : Ending.returned (.tuple #[.int k a, .int m c]) = .returned (.tuple #[.int k b, .int m d]) := by rw [h, h']

/-- Only blocks of S, and new ones, have turned. -/
structure Frm (S : Nat → Prop) (w w' : World) : Prop where
  os : w'.os = w.os
  tape : w'.tape = w.tape
  output : w'.output = w.output
  size : w.heap.size ≤ w'.heap.size
  block : ∀ k, k < w.heap.size → ¬ S k → w'.heap[k]? = w.heap[k]?

/-- No block. -/
def NoB : Nat → Prop := fun _ => False
/-- One block. -/
def One (p : Nat) : Nat → Prop := fun k => k = p
/-- Two blocks. -/
def Two (p q : Nat) : Nat → Prop := fun k => k = p ∨ k = q

namespace Frm
variable {S T : Nat → Prop} {w w' w'' : World}
theorem refl (S : Nat → Prop) (w : World) : Frm S w w := ⟨rfl, rfl, rfl, Nat.le_refl _, fun _ _ _ => rfl⟩
theorem trans (h : Frm S w w') (k : Frm S w' w'') : Frm S w w'' :=
  ⟨k.os.trans h.os, k.tape.trans h.tape, k.output.trans h.output, Nat.le_trans h.size k.size, fun i hi hn => (k.block i (Nat.lt_of_lt_of_le hi h.size) hn).trans (h.block i hi hn)⟩
theorem mono (h : Frm S w w') (hs : ∀ k, k < w.heap.size → S k → T k) : Frm T w w' :=
  ⟨h.os, h.tape, h.output, h.size, fun i hi hn => h.block i hi (fun e => hn (hs i hi e))⟩
/-- what turns only new blocks, behind. -/
theorem then_ (h : Frm S w w') (k : Frm T w' w'') (ht : ∀ i, i < w.heap.size → T i → S i) : Frm S w w'' :=
  ⟨k.os.trans h.os, k.tape.trans h.tape, k.output.trans h.output, Nat.le_trans h.size k.size,
    fun i hi hn => (k.block i (Nat.lt_of_lt_of_le hi h.size) (fun e => hn (ht i hi e))).trans (h.block i hi hn)⟩
theorem drew (h : Frm S w w') : Frm S w w'.drew := ⟨h.os, h.tape, h.output, h.size, h.block⟩
theorem drewN (h : Frm S w w') (n : Nat) : Frm S w (w'.drewN n) := ⟨h.os, h.tape, h.output, h.size, h.block⟩
theorem alloc (h : Frm S w w') (o : Obj) : Frm S w (w'.alloc o) :=
  ⟨h.os, h.tape, h.output, Nat.le_trans h.size (by simp), fun i hi hn => (Below.heap_alloc w' o i (Nat.lt_of_lt_of_le hi h.size)).trans (h.block i hi hn)⟩
theorem setCell (h : Frm S w w') {p : Addr} (hp : S p.block ∨ w.heap.size ≤ p.block) (u : Value) : Frm S w (w'.setCell p u) :=
  ⟨h.os, h.tape, h.output, by simpa [World.setCell] using h.size, fun i hi hn => (Below.heap_setCell w' p u i (by
    rintro rfl
    rcases hp with hp | hp
    · exact hn hp
    · omega)).trans (h.block i hi hn)⟩
theorem set1 {p : Nat} (h : Frm (One p) w w') (i : Nat) (u : Value) : Frm (One p) w (w'.setCell ⟨p, i, none⟩ u) := h.setCell (p := ⟨p, i, none⟩) (.inl rfl) u
theorem setp {p q : Nat} (h : Frm (Two p q) w w') (i : Nat) (u : Value) : Frm (Two p q) w (w'.setCell ⟨p, i, none⟩ u) := h.setCell (p := ⟨p, i, none⟩) (.inl (.inl rfl)) u
theorem setq {p q : Nat} (h : Frm (Two p q) w w') (i : Nat) (u : Value) : Frm (Two p q) w (w'.setCell ⟨q, i, none⟩ u) := h.setCell (p := ⟨q, i, none⟩) (.inl (.inr rfl)) u
theorem setNew (h : Frm S w w') {b : Nat} (hb : w.heap.size ≤ b) (i : Nat) (u : Value) : Frm S w (w'.setCell ⟨b, i, none⟩ u) := h.setCell (p := ⟨b, i, none⟩) (.inr hb) u
theorem cell (h : Frm S w w') {p : Addr} (hp : p.block < w.heap.size) (hn : ¬ S p.block) : w'.cell? p = w.cell? p := World.cell?_of_block (h.block _ hp hn)
theorem frozen (h : Frm S w w') {p : Addr} (hp : p.block < w.heap.size) (hn : ¬ S p.block) : w'.frozen? p = w.frozen? p := World.frozen?_of_block (h.block _ hp hn)
theorem grown {row : Option Nat} (h : Frm S w w') (hg : w'.grownBy w'' row) (hr : ∀ g, row = some g → g < w.heap.size → S g) : Frm S w w'' :=
  ⟨hg.os.trans h.os, hg.tape.trans h.tape, hg.output.trans h.output, Nat.le_trans h.size hg.size,
    fun i hi hn => (hg.block i (Nat.lt_of_lt_of_le hi h.size) (fun e => hn (hr i e.symm hi))).trans (h.block i hi hn)⟩
theorem below (h : Frm S w w') (hs : ∀ k, k < w.heap.size → ¬ S k) : Below w.heap.size w w' := ⟨h.os, h.tape, h.output, h.size, fun k hk => h.block k hk (hs k hk)⟩
theorem of_below (h : Below w.heap.size w w') (S : Nat → Prop) : Frm S w w' := ⟨h.os, h.tape, h.output, h.size, fun k hk _ => h.block k hk⟩
theorem to_grown {p : Nat} (h : Frm (One p) w w') : w.grownBy w' (some p) := ⟨h.os, h.tape, h.output, h.size, fun k hk hn => h.block k hk (fun e => hn (by rw [e]))⟩
end Frm

/-- A block that is known whole, none of it frozen. -/
def Blk (w : World) (g : Nat) (t : TypeId) (cs : Array Value) : Prop := w.heap[g]? = some (.cells cs t (0, 0))
namespace Blk
variable {w w' : World} {g : Nat} {t : TypeId} {cs : Array Value}
theorem lt (h : Blk w g t cs) : g < w.heap.size := by
  rcases Nat.lt_or_ge g w.heap.size with hlt | hge
  · exact hlt
  · unfold Blk at h; rw [Array.getElem?_eq_none hge] at h; cases h
theorem cell (h : Blk w g t cs) (i : Nat) : w.cell? ⟨g, i, none⟩ = cs[i]? := cell_of_row w g i cs t (0, 0) h
theorem frozen (h : Blk w g t cs) (i : Nat) : w.frozen? ⟨g, i, none⟩ = false := by
  unfold Blk at h
  simp [World.frozen?, h]
theorem new (w : World) (t : TypeId) (cs : Array Value) : Blk (w.alloc (.cells cs t)) w.heap.size t cs := heap_alloc_new w _
theorem drew (h : Blk w g t cs) : Blk w.drew g t cs := h
theorem drewN (h : Blk w g t cs) (n : Nat) : Blk (w.drewN n) g t cs := h
theorem alloc (h : Blk w g t cs) (o : Obj) : Blk (w.alloc o) g t cs := (Below.heap_alloc w o g h.lt).trans h
theorem set_ (h : Blk w g t cs) (i : Nat) (u : Value) : Blk (w.setCell ⟨g, i, none⟩ u) g t (cs.setIfInBounds i u) := by
  unfold Blk at h ⊢
  simp [World.setCell, Array.getElem?_modify, h]
theorem far (h : Blk w g t cs) {p : Addr} (hp : g ≠ p.block) (u : Value) : Blk (w.setCell p u) g t cs := (Below.heap_setCell w p u g hp).trans h
theorem frm {S : Nat → Prop} (h : Blk w g t cs) (hb : Frm S w w') (hn : ¬ S g) : Blk w' g t cs := (hb.block g h.lt hn).trans h
theorem inj {t' : TypeId} {cs' : Array Value} (h : Blk w g t cs) (h' : Blk w g t' cs') : cs = cs' ∧ t = t' := by
  unfold Blk at h h'
  rw [h] at h'
  injection h' with h'
  injection h' with hc ht
  exact ⟨hc, ht⟩
end Blk

/-- A slice at address A has these cells. -/
def Rd (w : World) (A : Option Addr) (vs : List Value) : Prop :=
  vs ≠ [] → ∃ b o, A = some ⟨b, o, none⟩ ∧ ∀ i v, vs[i]? = some v → w.cell? ⟨b, o + i, none⟩ = some v
namespace Rd
variable {w w' : World} {A : Option Addr} {vs : List Value} {S : Nat → Prop}
theorem nil (w : World) (A : Option Addr) : Rd w A [] := fun h => (h rfl).elim
theorem frm (h : Rd w A vs) (hb : Frm S w w') (hn : ∀ a, A = some a → ¬ S a.block) : Rd w' A vs := fun hv => by
  obtain ⟨b, o, rfl, hc⟩ := h hv
  refine ⟨b, o, rfl, fun i v hi => ?_⟩
  have h1 := hc i v hi
  have h2 := World.block_lt_of_cell? w _ h1
  rw [hb.cell h2 (show ¬ S b from hn _ rfl)]
  exact h1
theorem lt (h : Rd w A vs) (hv : vs ≠ []) : ∃ a, A = some a ∧ a.block < w.heap.size := by
  obtain ⟨b, o, rfl, hc⟩ := h hv
  obtain ⟨v, hv'⟩ := List.exists_mem_of_ne_nil _ hv
  obtain ⟨i, hi, rfl⟩ := List.getElem_of_mem hv'
  exact ⟨_, rfl, show b < _ from World.block_lt_of_cell? w ⟨b, o + i, none⟩ (hc i _ (List.getElem?_eq_getElem hi))⟩
end Rd
/-- a row of ints of kind k -/
def ints (k : IntKind) (xs : List Int) : List Value := xs.map (Value.int k)
theorem ints_get {k : IntKind} {xs : List Int} {i : Nat} (h : i < xs.length) : (ints k xs)[i]? = some (.int k (xs.getD i 0)) := by
  simp [ints, h]
theorem ints_length {k : IntKind} {xs : List Int} : (ints k xs).length = xs.length := by simp [ints]
theorem ints_ne {k : IntKind} {xs : List Int} (h : xs ≠ []) : ints k xs ≠ [] := by simpa [ints] using h

/-- all are words of 32 bits. -/
def U32 (xs : List Int) : Prop := ∀ x ∈ xs, 0 ≤ x ∧ x < 4294967296
theorem U32.get {xs : List Int} (h : U32 xs) (i : Nat) : 0 ≤ xs.getD i 0 ∧ xs.getD i 0 < 4294967296 := by
  rcases Nat.lt_or_ge i xs.length with hi | hi
  · rw [List.getD_eq_getElem?_getD, List.getElem?_eq_getElem hi]; exact h _ (List.getElem_mem _)
  · rw [List.getD_eq_getElem?_getD, List.getElem?_eq_none hi]; simp
theorem U32.set {xs : List Int} (h : U32 xs) (i : Nat) {x : Int} (hx : 0 ≤ x ∧ x < 4294967296) : U32 (xs.set i x) := fun y hy => by
  rcases List.mem_or_eq_of_mem_set hy with hy | rfl
  · exact h y hy
  · exact hx
theorem U32.drop {xs : List Int} (h : U32 xs) (i : Nat) : U32 (xs.drop i) := fun y hy => h y (List.mem_of_mem_drop hy)
theorem U32.take {xs : List Int} (h : U32 xs) (i : Nat) : U32 (xs.take i) := fun y hy => h y (List.mem_of_mem_take hy)

end Go.Proofs.Ytmahaihcmmmhbaa
namespace Go.Proofs.Ytmahaihcmmmhbaa
open Go.RowKit
/-- n cells: the first j are a, the others b. -/
def fillTo (n : Nat) (a b : Value) (j : Nat) : Array Value := (List.replicate j a ++ List.replicate (n - j) b).toArray
theorem fillTo_size {n : Nat} {a b : Value} {j : Nat} (h : j ≤ n) : (fillTo n a b j).size = n := by simp [fillTo]; omega
theorem fillTo_set {n : Nat} {a b : Value} {j : Nat} (h : j < n) : (fillTo n a b j).setIfInBounds j a = fillTo n a b (j + 1) := by
  apply Array.ext'
  simp only [fillTo, Array.toList_setIfInBounds]
  obtain ⟨m, rfl⟩ : ∃ m, n = j + 1 + m := ⟨n - j - 1, by omega⟩
  rw [show j + 1 + m - j = m + 1 from by omega, show j + 1 + m - (j + 1) = m from by omega, List.replicate_succ (n := m), List.set_append_right (h := by simp)]
  simp only [List.length_replicate, Nat.sub_self, List.set_cons_zero]
  rw [List.replicate_succ' (n := j), List.append_assoc, List.singleton_append]
theorem fillTo_get {n : Nat} {a b : Value} {j : Nat} (h : j < n) : (fillTo n a b j)[j]? = some b := by
  simp only [fillTo, List.getElem?_toArray]
  rw [List.getElem?_append_right (by simp)]
  simp [show 0 < n - j from by omega]
theorem fillTo_zero (n : Nat) (a b : Value) : fillTo n a b 0 = Array.replicate n b := by simp [fillTo]
theorem fillTo_all (n : Nat) (a b : Value) : fillTo n a b n = Array.replicate n a := by simp [fillTo]
theorem Blk.setRow {w : World} {g : Nat} {t : TypeId} {old : Array Value} (h : Blk w g t old) (cs : Array Value) : Blk (w.setRow g cs) g t cs := setRow_heap w g old cs t (0, 0) h
theorem Blk.setRow_far {w : World} {g k : Nat} {t : TypeId} {old : Array Value} (h : Blk w g t old) (cs : Array Value) (hk : g ≠ k) : Blk (w.setRow k cs) g t old := (setRow_other w k g cs hk).trans h
theorem Frm.setRow {S : Nat → Prop} {w w' : World} (h : Frm S w w') {g : Nat} (hg : S g ∨ w.heap.size ≤ g) (cs : Array Value) : Frm S w (w'.setRow g cs) :=
  ⟨h.os, h.tape, h.output, by simpa using h.size, fun i hi hn => (setRow_other w' g i cs (by
    rintro rfl
    rcases hg with hg | hg
    · exact hn hg
    · omega)).trans (h.block i hi hn)⟩
end Go.Proofs.Ytmahaihcmmmhbaa
namespace Go.Proofs.Ytmahaihcmmmhbaa
open Go.RowKit
theorem own_frm {S : Nat → Prop} {w w' : World} {base : Nat} {e : TypeId} {size : Nat} {v : Value} {n : Nat} {xs : List Value} (h : w.ownsRow base e size v n xs) (hf : Frm S w w') (hn : ∀ b, v.ownBlock = some b → ¬ S b) : w'.ownsRow base e size v n xs := by
  refine ⟨h.1, ?_⟩
  rcases h.2 with h1 | ⟨g, cap, cur, rfl, h1, h2, h3⟩
  · exact .inl h1
  · have hlt : g < w.heap.size := by
      rcases Nat.lt_or_ge g w.heap.size with hlt | hge
      · exact hlt
      · rw [Array.getElem?_eq_none hge] at h2; cases h2
    exact .inr ⟨g, cap, cur, rfl, h1, (hf.block g hlt (hn g rfl)).trans h2, h3⟩
end Go.Proofs.Ytmahaihcmmmhbaa
namespace Go.Proofs.Ytmahaihcmmmhbaa
open Go.RowKit
/-- the cells of a block -/
def rowOf (w : World) (g : Nat) : Array Value := match w.heap[g]? with | some (.cells c _ _) => c | _ => #[]
/-- block g has n cells, none frozen -/
def RowOk (w : World) (g n : Nat) : Prop := ∃ cur t, w.heap[g]? = some (.cells cur t (0, 0)) ∧ n ≤ cur.size
/-- cells are laid from a place on -/
def laidRow (w : World) (g off : Nat) (cs : Array Value) : World := w.setRow g ((rowOf w g).toList.take off ++ cs.toList ++ (rowOf w g).toList.drop (off + cs.toList.length)).toArray
theorem rowOf_blk {w : World} {g : Nat} {t : TypeId} {cs : Array Value} (h : Blk w g t cs) : rowOf w g = cs := by
  unfold Blk at h; simp [rowOf, h]
theorem run_storeCells_agg {P : Program} {w : World} {g off : Nat} {cells : Array Value} (h1 : ∀ v ∈ cells.toList, v.oneCell' = true) (h : RowOk w g (off + cells.size)) :
    (storeCells ⟨g, off, none⟩ cells.toList).run P w = .ok () (laidRow w g off cells) := by
  obtain ⟨cur, t, hg, hn⟩ := h
  have hst := run_storeCells_at P g off t cells.toList 0 cur w hg (by simpa using hn) h1
  have hr : rowOf w g = cur := by simp [rowOf, hg]
  simpa [laidRow, hr] using hst
theorem run_storeAt_agg {P : Program} {w : World} {ty : TypeId} {g off : Nat} {cells : Array Value} (hi : (P.info? ty).map (·.size) = some cells.size) (h1 : ∀ v ∈ cells.toList, v.oneCell' = true) (h : RowOk w g (off + cells.size)) :
    (Instr.storeAt ty (.pointer (some ⟨g, off, none⟩)) (.agg cells)).run P w = .ok () (laidRow w g off cells) := by
  obtain ⟨cur, t, hg, hn⟩ := h
  have hst := run_storeCells_at P g off t cells.toList 0 cur w hg (by simpa using hn) h1
  have hr : rowOf w g = cur := by simp [rowOf, hg]
  cases hq : P.info? ty with
  | none => simp [hq] at hi
  | some i =>
    have hs : cells.size = i.size := by simp [hq] at hi; omega
    simp only [Instr.storeAt, Instr.sureAddr, Sem.run_bind, Sem.run_pure, Result.andThen_ok]
    simp [storeVar, sizeOf, typeInfo, hq, Value.cells, hs, hst, laidRow, hr]
end Go.Proofs.Ytmahaihcmmmhbaa
namespace Go.Proofs.Ytmahaihcmmmhbaa
open Go.RowKit
theorem addr_add (b o j : Nat) : (⟨b, o, none⟩ : Addr).add j = ⟨b, o + j, none⟩ := by unfold Addr.add; split <;> simp_all
def bools (ks : List Bool) : List Value := ks.map Value.bool
theorem bools_get {ks : List Bool} {i : Nat} (h : i < ks.length) : (bools ks)[i]? = some (.bool (ks.getD i false)) := by
  simp [bools, h]
theorem bools_ne {ks : List Bool} (h : ks ≠ []) : bools ks ≠ [] := by simpa [bools] using h
end Go.Proofs.Ytmahaihcmmmhbaa
