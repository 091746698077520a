/-
  Texts of this claim, joined: Kit, NorSpec, Nor1, Nor2, Nor3, Nor4, Nor5, Nor6, Nor7, Nor8, Gen, NorGen, Dp4, Dp5, Dp7.
-/
import Derived.Test.YtplngfphklpicaaRows
import Derived.WalkKit
import Derived.WalkSpells
import Derived.Deep.QuietTactic
import Derived.BigQuiet
import Derived.Deep.RegionHeld3
import Derived.Deep.AppendLies
import Derived.Deep.RegionLaw
import Derived.Deep.DeepMust
import Derived.Laws.CopyOwn
import Derived.Test.YtplngfphklpicaaPDrivePlaysx0
/-
  Generic words: a frame 'Frm' (only the blocks of a set, and new ones, have turned), a block that is known whole ('Blk'), a row of values that is read ('Rd').
-/
namespace Go.Proofs.Ytplngfphklpicaa
open Go.RowKit

theorem hide {p : Prop} (h : p) : Hid p := h

theorem ret_int {k : IntKind} {a b : Int} (h : a = b) : Ending.returned (.int k a) = .returned (.int k b) := by rw [h]
theorem ret_bool {a b : Bool} (h : a = b) : Ending.returned (.bool a) = .returned (.bool b) := by rw [h]
theorem ret_ii {k m : IntKind} {a b c d : Int} (h : a = b) (h' : c = d) : Ending.returned (.tuple #[.int k a, .int m c]) = .returned (.tuple #[.int k b, .int m d]) := by rw [h, h']

/-- Only blocks of S, and new ones, have turned. -/
structure Frm (S : Nat → Prop) (w w' : World) : Prop where
  os : w'.os = w.os
  tape : w'.tape = w.tape
  output : w'.output = w.output
  size : w.heap.size ≤ w'.heap.size
  block : ∀ k, k < w.heap.size → ¬ S k → w'.heap[k]? = w.heap[k]?

/-- No block. -/
def NoB : Nat → Prop := fun _ => False
/-- One block. -/
def One (p : Nat) : Nat → Prop := fun k => k = p
/-- Two blocks. -/
def Two (p q : Nat) : Nat → Prop := fun k => k = p ∨ k = q

namespace Frm
variable {S T : Nat → Prop} {w w' w'' : World}
theorem refl (S : Nat → Prop) (w : World) : Frm S w w := ⟨rfl, rfl, rfl, Nat.le_refl _, fun _ _ _ => rfl⟩
theorem trans (h : Frm S w w') (k : Frm S w' w'') : Frm S w w'' :=
  ⟨k.os.trans h.os, k.tape.trans h.tape, k.output.trans h.output, Nat.le_trans h.size k.size, fun i hi hn => (k.block i (Nat.lt_of_lt_of_le hi h.size) hn).trans (h.block i hi hn)⟩
theorem mono (h : Frm S w w') (hs : ∀ k, k < w.heap.size → S k → T k) : Frm T w w' :=
  ⟨h.os, h.tape, h.output, h.size, fun i hi hn => h.block i hi (fun e => hn (hs i hi e))⟩
/-- what turns only new blocks, behind. -/
theorem then_ (h : Frm S w w') (k : Frm T w' w'') (ht : ∀ i, i < w.heap.size → T i → S i) : Frm S w w'' :=
  ⟨k.os.trans h.os, k.tape.trans h.tape, k.output.trans h.output, Nat.le_trans h.size k.size,
    fun i hi hn => (k.block i (Nat.lt_of_lt_of_le hi h.size) (fun e => hn (ht i hi e))).trans (h.block i hi hn)⟩
theorem drew (h : Frm S w w') : Frm S w w'.drew := ⟨h.os, h.tape, h.output, h.size, h.block⟩
theorem drewN (h : Frm S w w') (n : Nat) : Frm S w (w'.drewN n) := ⟨h.os, h.tape, h.output, h.size, h.block⟩
theorem alloc (h : Frm S w w') (o : Obj) : Frm S w (w'.alloc o) :=
  ⟨h.os, h.tape, h.output, Nat.le_trans h.size (by simp), fun i hi hn => (Below.heap_alloc w' o i (Nat.lt_of_lt_of_le hi h.size)).trans (h.block i hi hn)⟩
theorem setCell (h : Frm S w w') {p : Addr} (hp : S p.block ∨ w.heap.size ≤ p.block) (u : Value) : Frm S w (w'.setCell p u) :=
  ⟨h.os, h.tape, h.output, by simpa [World.setCell] using h.size, fun i hi hn => (Below.heap_setCell w' p u i (by
    rintro rfl
    rcases hp with hp | hp
    · exact hn hp
    · omega)).trans (h.block i hi hn)⟩
theorem set1 {p : Nat} (h : Frm (One p) w w') (i : Nat) (u : Value) : Frm (One p) w (w'.setCell ⟨p, i, none⟩ u) := h.setCell (p := ⟨p, i, none⟩) (.inl rfl) u
theorem setp {p q : Nat} (h : Frm (Two p q) w w') (i : Nat) (u : Value) : Frm (Two p q) w (w'.setCell ⟨p, i, none⟩ u) := h.setCell (p := ⟨p, i, none⟩) (.inl (.inl rfl)) u
theorem setq {p q : Nat} (h : Frm (Two p q) w w') (i : Nat) (u : Value) : Frm (Two p q) w (w'.setCell ⟨q, i, none⟩ u) := h.setCell (p := ⟨q, i, none⟩) (.inl (.inr rfl)) u
theorem setNew (h : Frm S w w') {b : Nat} (hb : w.heap.size ≤ b) (i : Nat) (u : Value) : Frm S w (w'.setCell ⟨b, i, none⟩ u) := h.setCell (p := ⟨b, i, none⟩) (.inr hb) u
theorem cell (h : Frm S w w') {p : Addr} (hp : p.block < w.heap.size) (hn : ¬ S p.block) : w'.cell? p = w.cell? p := World.cell?_of_block (h.block _ hp hn)
theorem frozen (h : Frm S w w') {p : Addr} (hp : p.block < w.heap.size) (hn : ¬ S p.block) : w'.frozen? p = w.frozen? p := World.frozen?_of_block (h.block _ hp hn)
theorem grown {row : Option Nat} (h : Frm S w w') (hg : w'.grownBy w'' row) (hr : ∀ g, row = some g → g < w.heap.size → S g) : Frm S w w'' :=
  ⟨hg.os.trans h.os, hg.tape.trans h.tape, hg.output.trans h.output, Nat.le_trans h.size hg.size,
    fun i hi hn => (hg.block i (Nat.lt_of_lt_of_le hi h.size) (fun e => hn (hr i e.symm hi))).trans (h.block i hi hn)⟩
theorem below (h : Frm S w w') (hs : ∀ k, k < w.heap.size → ¬ S k) : Below w.heap.size w w' := ⟨h.os, h.tape, h.output, h.size, fun k hk => h.block k hk (hs k hk)⟩
theorem of_below (h : Below w.heap.size w w') (S : Nat → Prop) : Frm S w w' := ⟨h.os, h.tape, h.output, h.size, fun k hk _ => h.block k hk⟩
theorem to_grown {p : Nat} (h : Frm (One p) w w') : w.grownBy w' (some p) := ⟨h.os, h.tape, h.output, h.size, fun k hk hn => h.block k hk (fun e => hn (by rw [e]))⟩
end Frm

/-- A block that is known whole, none of it frozen. -/
def Blk (w : World) (g : Nat) (t : TypeId) (cs : Array Value) : Prop := w.heap[g]? = some (.cells cs t (0, 0))
namespace Blk
variable {w w' : World} {g : Nat} {t : TypeId} {cs : Array Value}
theorem lt (h : Blk w g t cs) : g < w.heap.size := by
  rcases Nat.lt_or_ge g w.heap.size with hlt | hge
  · exact hlt
  · unfold Blk at h; rw [Array.getElem?_eq_none hge] at h; cases h
theorem cell (h : Blk w g t cs) (i : Nat) : w.cell? ⟨g, i, none⟩ = cs[i]? := cell_of_row w g i cs t (0, 0) h
theorem frozen (h : Blk w g t cs) (i : Nat) : w.frozen? ⟨g, i, none⟩ = false := by
  unfold Blk at h
  simp [World.frozen?, h]
theorem new (w : World) (t : TypeId) (cs : Array Value) : Blk (w.alloc (.cells cs t)) w.heap.size t cs := heap_alloc_new w _
theorem drew (h : Blk w g t cs) : Blk w.drew g t cs := h
theorem drewN (h : Blk w g t cs) (n : Nat) : Blk (w.drewN n) g t cs := h
theorem alloc (h : Blk w g t cs) (o : Obj) : Blk (w.alloc o) g t cs := (Below.heap_alloc w o g h.lt).trans h
theorem set_ (h : Blk w g t cs) (i : Nat) (u : Value) : Blk (w.setCell ⟨g, i, none⟩ u) g t (cs.setIfInBounds i u) := by
  unfold Blk at h ⊢
  simp [World.setCell, Array.getElem?_modify, h]
theorem far (h : Blk w g t cs) {p : Addr} (hp : g ≠ p.block) (u : Value) : Blk (w.setCell p u) g t cs := (Below.heap_setCell w p u g hp).trans h
theorem frm {S : Nat → Prop} (h : Blk w g t cs) (hb : Frm S w w') (hn : ¬ S g) : Blk w' g t cs := (hb.block g h.lt hn).trans h
theorem inj {t' : TypeId} {cs' : Array Value} (h : Blk w g t cs) (h' : Blk w g t' cs') : cs = cs' ∧ t = t' := by
  unfold Blk at h h'
  rw [h] at h'
  injection h' with h'
  injection h' with hc ht
  exact ⟨hc, ht⟩
end Blk

/-- A slice at address A has these cells. -/
def Rd (w : World) (A : Option Addr) (vs : List Value) : Prop :=
  vs ≠ [] → ∃ b o, A = some ⟨b, o, none⟩ ∧ ∀ i v, vs[i]? = some v → w.cell? ⟨b, o + i, none⟩ = some v
namespace Rd
variable {w w' : World} {A : Option Addr} {vs : List Value} {S : Nat → Prop}
theorem nil (w : World) (A : Option Addr) : Rd w A [] := fun h => (h rfl).elim
theorem frm (h : Rd w A vs) (hb : Frm S w w') (hn : ∀ a, A = some a → ¬ S a.block) : Rd w' A vs := fun hv => by
  obtain ⟨b, o, rfl, hc⟩ := h hv
  refine ⟨b, o, rfl, fun i v hi => ?_⟩
  have h1 := hc i v hi
  have h2 := World.block_lt_of_cell? w _ h1
  rw [hb.cell h2 (show ¬ S b from hn _ rfl)]
  exact h1
theorem lt (h : Rd w A vs) (hv : vs ≠ []) : ∃ a, A = some a ∧ a.block < w.heap.size := by
  obtain ⟨b, o, rfl, hc⟩ := h hv
  obtain ⟨v, hv'⟩ := List.exists_mem_of_ne_nil _ hv
  obtain ⟨i, hi, rfl⟩ := List.getElem_of_mem hv'
  exact ⟨_, rfl, show b < _ from World.block_lt_of_cell? w ⟨b, o + i, none⟩ (hc i _ (List.getElem?_eq_getElem hi))⟩
end Rd
/-- a row of ints of kind k -/
def ints (k : IntKind) (xs : List Int) : List Value := xs.map (Value.int k)
theorem ints_get {k : IntKind} {xs : List Int} {i : Nat} (h : i < xs.length) : (ints k xs)[i]? = some (.int k (xs.getD i 0)) := by
  simp [ints, h]
theorem ints_length {k : IntKind} {xs : List Int} : (ints k xs).length = xs.length := by simp [ints]
theorem ints_ne {k : IntKind} {xs : List Int} (h : xs ≠ []) : ints k xs ≠ [] := by simpa [ints] using h

/-- all are words of 32 bits. -/
def U32 (xs : List Int) : Prop := ∀ x ∈ xs, 0 ≤ x ∧ x < 4294967296
theorem U32.get {xs : List Int} (h : U32 xs) (i : Nat) : 0 ≤ xs.getD i 0 ∧ xs.getD i 0 < 4294967296 := by
  rcases Nat.lt_or_ge i xs.length with hi | hi
  · rw [List.getD_eq_getElem?_getD, List.getElem?_eq_getElem hi]; exact h _ (List.getElem_mem _)
  · rw [List.getD_eq_getElem?_getD, List.getElem?_eq_none hi]; simp
theorem U32.set {xs : List Int} (h : U32 xs) (i : Nat) {x : Int} (hx : 0 ≤ x ∧ x < 4294967296) : U32 (xs.set i x) := fun y hy => by
  rcases List.mem_or_eq_of_mem_set hy with hy | rfl
  · exact h y hy
  · exact hx
theorem U32.drop {xs : List Int} (h : U32 xs) (i : Nat) : U32 (xs.drop i) := fun y hy => h y (List.mem_of_mem_drop hy)
theorem U32.take {xs : List Int} (h : U32 xs) (i : Nat) : U32 (xs.take i) := fun y hy => h y (List.mem_of_mem_take hy)

end Go.Proofs.Ytplngfphklpicaa
namespace Go.Proofs.Ytplngfphklpicaa
open Go.RowKit
/-- n cells: the first j are a, the others b. -/
def fillTo (n : Nat) (a b : Value) (j : Nat) : Array Value := (List.replicate j a ++ List.replicate (n - j) b).toArray
theorem fillTo_size {n : Nat} {a b : Value} {j : Nat} (h : j ≤ n) : (fillTo n a b j).size = n := by simp [fillTo]; omega
theorem fillTo_set {n : Nat} {a b : Value} {j : Nat} (h : j < n) : (fillTo n a b j).setIfInBounds j a = fillTo n a b (j + 1) := by
  apply Array.ext'
  simp only [fillTo, Array.toList_setIfInBounds]
  obtain ⟨m, rfl⟩ : ∃ m, n = j + 1 + m := ⟨n - j - 1, by omega⟩
  rw [show j + 1 + m - j = m + 1 from by omega, show j + 1 + m - (j + 1) = m from by omega, List.replicate_succ (n := m), List.set_append_right (h := by simp)]
  simp only [List.length_replicate, Nat.sub_self, List.set_cons_zero]
  rw [List.replicate_succ' (n := j), List.append_assoc, List.singleton_append]
theorem fillTo_get {n : Nat} {a b : Value} {j : Nat} (h : j < n) : (fillTo n a b j)[j]? = some b := by
  simp only [fillTo, List.getElem?_toArray]
  rw [List.getElem?_append_right (by simp)]
  simp [show 0 < n - j from by omega]
theorem fillTo_zero (n : Nat) (a b : Value) : fillTo n a b 0 = Array.replicate n b := by simp [fillTo]
theorem fillTo_all (n : Nat) (a b : Value) : fillTo n a b n = Array.replicate n a := by simp [fillTo]
theorem Blk.setRow {w : World} {g : Nat} {t : TypeId} {old : Array Value} (h : Blk w g t old) (cs : Array Value) : Blk (w.setRow g cs) g t cs := setRow_heap w g old cs t (0, 0) h
theorem Blk.setRow_far {w : World} {g k : Nat} {t : TypeId} {old : Array Value} (h : Blk w g t old) (cs : Array Value) (hk : g ≠ k) : Blk (w.setRow k cs) g t old := (setRow_other w k g cs hk).trans h
theorem Frm.setRow {S : Nat → Prop} {w w' : World} (h : Frm S w w') {g : Nat} (hg : S g ∨ w.heap.size ≤ g) (cs : Array Value) : Frm S w (w'.setRow g cs) :=
  ⟨h.os, h.tape, h.output, by simpa using h.size, fun i hi hn => (setRow_other w' g i cs (by
    rintro rfl
    rcases hg with hg | hg
    · exact hn hg
    · omega)).trans (h.block i hi hn)⟩
end Go.Proofs.Ytplngfphklpicaa
namespace Go.Proofs.Ytplngfphklpicaa
open Go.RowKit
theorem own_frm {S : Nat → Prop} {w w' : World} {base : Nat} {e : TypeId} {size : Nat} {v : Value} {n : Nat} {xs : List Value} (h : w.ownsRow base e size v n xs) (hf : Frm S w w') (hn : ∀ b, v.ownBlock = some b → ¬ S b) : w'.ownsRow base e size v n xs := by
  refine ⟨h.1, ?_⟩
  rcases h.2 with h1 | ⟨g, cap, cur, rfl, h1, h2, h3⟩
  · exact .inl h1
  · have hlt : g < w.heap.size := by
      rcases Nat.lt_or_ge g w.heap.size with hlt | hge
      · exact hlt
      · rw [Array.getElem?_eq_none hge] at h2; cases h2
    exact .inr ⟨g, cap, cur, rfl, h1, (hf.block g hlt (hn g rfl)).trans h2, h3⟩
end Go.Proofs.Ytplngfphklpicaa
namespace Go.Proofs.Ytplngfphklpicaa
open Go.RowKit
/-- the cells of a block -/
def rowOf (w : World) (g : Nat) : Array Value := match w.heap[g]? with | some (.cells c _ _) => c | _ => #[]
/-- block g has n cells, none frozen -/
def RowOk (w : World) (g n : Nat) : Prop := ∃ cur t, w.heap[g]? = some (.cells cur t (0, 0)) ∧ n ≤ cur.size
/-- cells are laid from a place on -/
def laidRow (w : World) (g off : Nat) (cs : Array Value) : World := w.setRow g ((rowOf w g).toList.take off ++ cs.toList ++ (rowOf w g).toList.drop (off + cs.toList.length)).toArray
theorem rowOf_blk {w : World} {g : Nat} {t : TypeId} {cs : Array Value} (h : Blk w g t cs) : rowOf w g = cs := by
  unfold Blk at h; simp [rowOf, h]
theorem run_storeCells_agg {P : Program} {w : World} {g off : Nat} {cells : Array Value} (h1 : ∀ v ∈ cells.toList, v.oneCell' = true) (h : RowOk w g (off + cells.size)) :
    (storeCells ⟨g, off, none⟩ cells.toList).run P w = .ok () (laidRow w g off cells) := by
  obtain ⟨cur, t, hg, hn⟩ := h
  have hst := run_storeCells_at P g off t cells.toList 0 cur w hg (by simpa using hn) h1
  have hr : rowOf w g = cur := by simp [rowOf, hg]
  simpa [laidRow, hr] using hst
theorem run_storeAt_agg {P : Program} {w : World} {ty : TypeId} {g off : Nat} {cells : Array Value} (hi : (P.info? ty).map (·.size) = some cells.size) (h1 : ∀ v ∈ cells.toList, v.oneCell' = true) (h : RowOk w g (off + cells.size)) :
    (Instr.storeAt ty (.pointer (some ⟨g, off, none⟩)) (.agg cells)).run P w = .ok () (laidRow w g off cells) := by
  obtain ⟨cur, t, hg, hn⟩ := h
  have hst := run_storeCells_at P g off t cells.toList 0 cur w hg (by simpa using hn) h1
  have hr : rowOf w g = cur := by simp [rowOf, hg]
  cases hq : P.info? ty with
  | none => simp [hq] at hi
  | some i =>
    have hs : cells.size = i.size := by simp [hq] at hi; omega
    simp only [Instr.storeAt, Instr.sureAddr, Sem.run_bind, Sem.run_pure, Result.andThen_ok]
    simp [storeVar, sizeOf, typeInfo, hq, Value.cells, hs, hst, laidRow, hr]
end Go.Proofs.Ytplngfphklpicaa
namespace Go.Proofs.Ytplngfphklpicaa
open Go.RowKit
theorem addr_add (b o j : Nat) : (⟨b, o, none⟩ : Addr).add j = ⟨b, o + j, none⟩ := by unfold Addr.add; split <;> simp_all
def bools (ks : List Bool) : List Value := ks.map Value.bool
theorem bools_get {ks : List Bool} {i : Nat} (h : i < ks.length) : (bools ks)[i]? = some (.bool (ks.getD i false)) := by
  simp [bools, h]
theorem bools_ne {ks : List Bool} (h : ks ≠ []) : bools ks ≠ [] := by simpa [bools] using h
end Go.Proofs.Ytplngfphklpicaa

/-
  Plain: what a flash does, over lists of numbers.
-/
namespace Go.Proofs.Ytplngfphklpicaa

/-- bits of both -/
def wand (a b : Int) : Int := ((a.toNat &&& b.toNat : Nat) : Int)
theorem wand_lo (a b : Int) : 0 ≤ wand a b := by unfold wand; omega
theorem wand_le (a b : Int) (ha : 0 ≤ a) : wand a b ≤ a := by
  have := Nat.and_le_left (n := a.toNat) (m := b.toNat)
  unfold wand; omega
theorem wand_u32 {a b : Int} (ha : 0 ≤ a ∧ a < 4294967296) : 0 ≤ wand a b ∧ wand a b < 4294967296 :=
  ⟨wand_lo _ _, by have := wand_le a b ha.1; omega⟩
theorem wand_idem (a b : Int) : wand (wand a b) b = wand a b := by
  unfold wand; simp [Nat.and_assoc]
theorem wand_right (a b c : Int) : wand (wand a b) c = wand (wand a c) b := by
  unfold wand; simp only [Int.toNat_natCast]; rw [Nat.and_assoc, Nat.and_comm b.toNat, ← Nat.and_assoc]

/-- A flash. -/
structure NorS where
  n : Nat
  l : List Int
  guard : Int
  arm : Int
  down : Bool
  half : Int

namespace NorS
structure Ok (s : NorS) : Prop where
  len : s.l.length = 64 * s.n
  n1 : 1 ≤ s.n
  n2 : s.n ≤ 1024
  g0 : 0 ≤ s.guard
  g1 : s.guard ≤ s.n
  a0 : -1 ≤ s.arm
  a1 : s.arm ≤ 9223372036854775807
  h0 : -1 ≤ s.half
  h1 : s.half < s.n
  u : U32 s.l

def there (s : NorS) (sec k m : Int) : Bool := decide (0 ≤ sec) && decide (sec < s.n) && decide (0 ≤ k) && decide (m ≤ 64) && decide (k ≤ 64 - m)
def up (s : NorS) (sec k m : Int) : Int := if s.down = true then 40 else if s.there sec k m = true then 0 else 2
def step (s : NorS) : NorS := if s.arm = 0 then { s with down := true, arm := -1 } else { s with arm := max (s.arm - 1) (-1) }
def steps (s : NorS) : Bool := !(s.arm == 0)
/-- the place of a word -/
def at_ (sec k : Int) : Nat := sec.toNat * 64 + k.toNat
/-- a word -/
def wd (s : NorS) (i : Nat) : Int := s.l.getD i 0
def read (s : NorS) (sec k : Int) : Int := if s.up sec k 1 = 0 then s.wd (at_ sec k) else 0
def put (s : NorS) (i : Nat) (x : Int) : NorS := { s with l := s.l.set i x }
def prog : NorS → Nat → List Int → NorS
  | s, _, [] => s
  | s, i, x :: r => if s.steps = true then prog (s.step.put i (wand (s.wd i) x)) (i + 1) r else s.step
def progs : NorS → List Int → Bool
  | _, [] => true
  | s, _ :: r => if s.steps = true then progs s.step r else false
def program (s : NorS) (sec k : Int) (xs : List Int) : NorS := if s.up sec k xs.length = 0 then s.prog (at_ sec k) xs else s
def programE (s : NorS) (sec k : Int) (xs : List Int) : Int := if s.up sec k xs.length = 0 then (if s.progs xs = true then 0 else 40) else s.up sec k xs.length
/-- the words from i on are those -/
def lay : List Int → Nat → List Int → List Int
  | l, _, [] => l
  | l, i, x :: r => lay (l.set i x) (i + 1) r
def erase (s : NorS) (sec : Int) : NorS :=
  if s.up sec 0 0 = 0 then (if s.steps = true then { s.step with l := lay s.l (at_ sec 0) (List.replicate 64 4294967295) } else { s.step with half := sec }) else s
def eraseE (s : NorS) (sec : Int) : Int := if s.up sec 0 0 = 0 then (if s.steps = true then 0 else 40) else s.up sec 0 0
def rewriteE (s : NorS) (sec k : Int) (xs : List Int) : Int := if s.there sec k xs.length = true then (if sec < s.guard then 41 else 0) else 2
def rewrite (s : NorS) (sec k : Int) (xs : List Int) : NorS := if s.rewriteE sec k xs = 0 then { s with l := lay s.l (at_ sec k) xs } else s
def arms (s : NorS) (k : Int) : NorS := if s.down = true then s else { s with arm := max k 0 }
/-- of a half-erased sector that begins at base: word i, and on -/
def burn (ks : List Bool) (base : Nat) : Nat → Nat → List Int → List Int
  | 0, _, l => l
  | m + 1, i, l => burn ks base m (i + 1) (if ks.getD i false = true then l.set (base + i) 4294967295 else l)
def crash (s : NorS) (ks : List Bool) : NorS :=
  { s with l := if 0 ≤ s.half then burn ks (at_ s.half 0) 64 0 s.l else s.l, down := false, arm := -1, half := -1 }
def new (n : Nat) (g : Int) : NorS := { n, l := List.replicate (64 * n) 4294967295, guard := g, arm := -1, down := false, half := -1 }

theorem lay_length (xs : List Int) : ∀ (l : List Int) (i : Nat), (lay l i xs).length = l.length := by
  induction xs with
  | nil => intro l i; rfl
  | cons x r ih => intro l i; simp [lay, ih]
theorem lay_u32 (xs : List Int) (hx : U32 xs) : ∀ (l : List Int) (i : Nat), U32 l → U32 (lay l i xs) := by
  induction xs with
  | nil => intro l i h; exact h
  | cons x r ih => intro l i h; exact ih (fun y hy => hx y (List.mem_cons_of_mem _ hy)) _ _ (h.set i (hx x List.mem_cons_self))
theorem Ok.step {s : NorS} (h : s.Ok) : s.step.Ok := by
  have := h.a0; have := h.a1
  unfold NorS.step
  split
  · exact ⟨h.len, h.n1, h.n2, h.g0, h.g1, by simp, by simp, h.h0, h.h1, h.u⟩
  · exact ⟨h.len, h.n1, h.n2, h.g0, h.g1, by show -1 ≤ max _ _; omega, by show max _ _ ≤ _; omega, h.h0, h.h1, h.u⟩
theorem Ok.put {s : NorS} (h : s.Ok) (i : Nat) {x : Int} (hx : 0 ≤ x ∧ x < 4294967296) : (s.put i x).Ok :=
  ⟨by simpa [NorS.put] using h.len, h.n1, h.n2, h.g0, h.g1, h.a0, h.a1, h.h0, h.h1, h.u.set i hx⟩
theorem Ok.wd {s : NorS} (h : s.Ok) (i : Nat) : 0 ≤ s.wd i ∧ s.wd i < 4294967296 := h.u.get i
theorem up_zero {s : NorS} {sec k m : Int} (h : s.up sec k m = 0) : s.down = false ∧ 0 ≤ sec ∧ sec < s.n ∧ 0 ≤ k ∧ k ≤ 64 - m := by
  unfold up at h
  split at h
  · cases h
  · split at h
    · rename_i h1 h2
      unfold there at h2
      simp only [Bool.and_eq_true, decide_eq_true_eq] at h2
      exact ⟨by simpa using h1, h2.1.1.1.1, h2.1.1.1.2, h2.1.1.2, h2.2⟩
    · cases h
theorem step_put (s : NorS) (i : Nat) (x : Int) : (s.put i x).step = s.step.put i x := by
  unfold step put; split <;> rfl
theorem progs_put (xs : List Int) : ∀ (s : NorS) (i : Nat) (x : Int), (s.put i x).progs xs = s.progs xs := by
  induction xs with
  | nil => intro s i x; rfl
  | cons y r ih =>
    intro s i x
    show (if (s.put i x).steps = true then _ else _) = if s.steps = true then _ else _
    rw [step_put, ih, show (s.put i x).steps = s.steps from rfl]
theorem step_l (s : NorS) : s.step.l = s.l := by unfold step; split <;> rfl
theorem step_n (s : NorS) : s.step.n = s.n := by unfold step; split <;> rfl

end NorS
end Go.Proofs.Ytplngfphklpicaa

/-
  The flash: how it lies in memory, and the walks of what only reads it, and of a step.
-/
namespace Go.Proofs.Ytplngfphklpicaa
open Go.RowKit

/-- A flash in memory: its struct in block p, its sectors in block q. -/
structure NorAt (w : World) (p q c : Nat) (s : NorS) : Prop where
  blk : Blk w p 40 #[.slice (some ⟨q, 0, none⟩) s.n c, .int .i64 s.guard, .int .i64 s.arm, .bool s.down, .int .i64 s.half]
  row : w.ownsRow 0 93 64 (.slice (some ⟨q, 0, none⟩) s.n c) s.n (ints .u32 s.l)
  ok : s.Ok
/-- No flash. -/
def NoNor (w : World) (v : Value) : Prop := v = .pointer none ∨ ∃ p A c, v = .pointer (some ⟨p, 0, none⟩) ∧ w.cell? ⟨p, 0, none⟩ = some (.slice A 0 c)

namespace NorAt
variable {w w' : World} {p q c : Nat} {s : NorS}
theorem cell (h : NorAt w p q c s) (i : Nat) (hi : i < s.l.length) : w.cell? ⟨q, i, none⟩ = some (.int .u32 (s.wd i)) := by
  have hl := h.ok.len
  rw [h.row.cellAt i (by omega), ints_get hi]; rfl
theorem free (h : NorAt w p q c s) (i : Nat) : w.frozen? ⟨q, i, none⟩ = false := h.row.frozenAt i
theorem ltq (h : NorAt w p q c s) : q < w.heap.size := (h.row.lt q rfl).2
theorem ltp (h : NorAt w p q c s) : p < w.heap.size := h.blk.lt
theorem blkq (h : NorAt w p q c s) : ∃ cs, Blk w q 93 cs := by
  rcases h.row.2 with ⟨e, _⟩ | ⟨g, cap, cur, e, _, hb, _⟩
  · cases e
  · simp only [Value.slice.injEq, Option.some.injEq, Addr.mk.injEq, and_true, true_and] at e
    obtain ⟨rfl, rfl⟩ := e
    exact ⟨cur, hb⟩
theorem ne (h : NorAt w p q c s) : p ≠ q := by
  rintro rfl
  obtain ⟨cs, hb⟩ := h.blkq
  exact absurd (h.blk.inj hb).2 (by decide)
theorem frm {S : Nat → Prop} (h : NorAt w p q c s) (hb : Frm S w w') (hp : ¬ S p) (hq : ¬ S q) : NorAt w' p q c s := by
  refine ⟨h.blk.frm hb hp, ⟨h.row.1, ?_⟩, h.ok⟩
  rcases h.row.2 with h1 | ⟨g, cap, cur, e, h1, h2, h3⟩
  · exact .inl h1
  · simp only [Value.slice.injEq, Option.some.injEq, Addr.mk.injEq, and_true, true_and] at e
    obtain ⟨rfl, rfl⟩ := e
    exact .inr ⟨q, c, cur, rfl, h1, (hb.block q h.ltq hq).trans h2, h3⟩
/-- its struct has turned -/
theorem turn {s' : NorS} (h : NorAt w p q c s) (hb : Blk w' p 40 #[.slice (some ⟨q, 0, none⟩) s'.n c, .int .i64 s'.guard, .int .i64 s'.arm, .bool s'.down, .int .i64 s'.half])
    (hf : Frm (One p) w w') (hn : s'.n = s.n) (hl : s'.l = s.l) (ok : s'.Ok) : NorAt w' p q c s' := by
  refine ⟨hb, ⟨by rw [hn, hl]; exact h.row.1, ?_⟩, ok⟩
  rw [hn, hl]
  rcases h.row.2 with h1 | ⟨g, cap, cur, e, h1, h2, h3⟩
  · exact .inl h1
  · simp only [Value.slice.injEq, Option.some.injEq, Addr.mk.injEq, and_true, true_and] at e
    obtain ⟨rfl, rfl⟩ := e
    exact .inr ⟨q, c, cur, rfl, h1, (hf.block q h.ltq (show ¬ q = p from h.ne.symm)).trans h2, h3⟩
theorem drewN (h : NorAt w p q c s) (n : Nat) : NorAt (w.drewN n) p q c s := ⟨h.blk, h.row, h.ok⟩
theorem drew (h : NorAt w p q c s) : NorAt w.drew p q c s := ⟨h.blk, h.row, h.ok⟩
theorem alloc (h : NorAt w p q c s) (o : Obj) : NorAt (w.alloc o) p q c s := h.frm ((Frm.refl NoB w).alloc o) (fun e => e) (fun e => e)
/-- a word is stored -/
theorem stored (h : NorAt w p q c s) (i : Nat) {x : Int} (hx : 0 ≤ x ∧ x < 4294967296) :
    NorAt (w.setCell ⟨q, i, none⟩ (.int .u32 x)) p q c (s.put i x) := by
  have h1 := (h.row.stored i (.int .u32 x)).1
  refine ⟨h.blk.far (p := ⟨q, i, none⟩) h.ne _, ?_, h.ok.put i hx⟩
  have e : ints .u32 (s.put i x).l = (ints .u32 s.l).set i (.int .u32 x) := by simp [ints, NorS.put, List.map_set]
  rw [e]
  exact h1
theorem frm_stored (h : NorAt w p q c s) (i : Nat) (u : Value) : Frm (Two p q) w (w.setCell ⟨q, i, none⟩ u) := (Frm.refl _ w).setCell (.inl (.inr rfl)) u
theorem c0 (h : NorAt w p q c s) : w.cell? ⟨p, 0, none⟩ = some (.slice (some ⟨q, 0, none⟩) s.n c) := h.blk.cell 0
theorem c1 (h : NorAt w p q c s) : w.cell? ⟨p, 1, none⟩ = some (.int .i64 s.guard) := h.blk.cell 1
theorem c2 (h : NorAt w p q c s) : w.cell? ⟨p, 2, none⟩ = some (.int .i64 s.arm) := h.blk.cell 2
theorem c3 (h : NorAt w p q c s) : w.cell? ⟨p, 3, none⟩ = some (.bool s.down) := h.blk.cell 3
theorem c4 (h : NorAt w p q c s) : w.cell? ⟨p, 4, none⟩ = some (.int .i64 s.half) := h.blk.cell 4
theorem n0 (h : NorAt w p q c s) : (((s.n : Nat) : Int) == 0) = false := by have := h.ok.n1; rw [beq_eq_false_iff_ne]; omega
end NorAt

theorem none_no (v : Value) (w : World) (h : NoNor w v) : Calls Try.prog 51 #[v] w fun e w' => e = .returned (.bool true) ∧ w = w' := by
  rcases h with rfl | ⟨p, A, c, rfl, hc⟩
  all_goals
    go_enter Try.func51, Try.ntmps51
    go_wp2
    go_ret
    exact ⟨rfl, rfl⟩

section
variable {w : World} {p q c : Nat} {s : NorS}
theorem none_is (h : NorAt w p q c s) : Calls Try.prog 51 #[.pointer (some ⟨p, 0, none⟩)] w fun e w' => e = .returned (.bool false) ∧ w = w' := by
  have h0 := h.c0
  have hn := h.n0
  clear h
  go_enter Try.func51, Try.ntmps51
  go_wp2
  go_ret
  exact ⟨rfl, rfl⟩

set_option maxHeartbeats 400000 in
theorem there_is (sec k m : Int) (h : NorAt w p q c s) (hm : 0 ≤ m) (hm2 : m ≤ 9223372036854775807) :
    Calls Try.prog 58 #[.pointer (some ⟨p, 0, none⟩), .int .i64 sec, .int .i64 k, .int .i64 m] w fun e w' => e = .returned (.bool (s.there sec k m)) ∧ w = w' := by
  have h0 := h.c0
  have hn := h.ok.n2
  have ht : Hid (∀ b, s.there sec k m = b ↔ (decide (0 ≤ sec) && decide (sec < s.n) && decide (0 ≤ k) && decide (m ≤ 64) && decide (k ≤ 64 - m)) = b) := fun b => Iff.rfl
  clear h
  go_enter Try.func58, Try.ntmps58
  go_wp2
  all_goals
    go_ret
    refine ⟨ret_bool (((ht.out _).2 ?_).symm), rfl⟩
    rw [Bool.eq_iff_iff]
    simp
    try omega

set_option maxHeartbeats 400000 in
theorem up_is (sec k m : Int) (h : NorAt w p q c s) (hm : 0 ≤ m) (hm2 : m ≤ 9223372036854775807) :
    Calls Try.prog 62 #[.pointer (some ⟨p, 0, none⟩), .int .i64 sec, .int .i64 k, .int .i64 m] w fun e w' => e = .returned (.int .i64 (s.up sec k m)) ∧ w = w' := by
  have h3 := h.c3
  have ht : Hid (s.up sec k m = if s.down = true then 40 else if s.there sec k m = true then 0 else 2) := rfl
  have H := hide h
  clear h
  go_enter Try.func62, Try.ntmps62
  go_wp2_with (first
    | (go_at_call 51; refine (none_is H.out).mono ?_; rintro e w' ⟨rfl, rfl⟩)
    | (go_at_call 58; refine (there_is _ _ _ H.out hm hm2).mono ?_; rintro e w' ⟨rfl, rfl⟩))
  all_goals
    go_ret
    refine ⟨ret_int ?_, rfl⟩
    rw [ht.out]
    simp_all

theorem up_no (sec k m : Int) (v : Value) (h : NoNor w v) :
    Calls Try.prog 62 #[v, .int .i64 sec, .int .i64 k, .int .i64 m] w fun e w' => e = .returned (.int .i64 1) ∧ w = w' := by
  have H := hide h
  clear h
  go_enter Try.func62, Try.ntmps62
  go_wp2_with (first
    | (go_at_call 51; refine (none_no _ _ H.out).mono ?_; rintro e w' ⟨rfl, rfl⟩))
  go_ret
  exact ⟨rfl, rfl⟩

/-- a step -/
theorem step_is (h : NorAt w p q c s) :
    Calls Try.prog 63 #[.pointer (some ⟨p, 0, none⟩)] w fun e w' => e = .returned (.bool s.steps) ∧ NorAt w' p q c s.step ∧ Frm (Two p q) w w' := by
  have h2 := h.c2
  have h3 := h.c3
  have f2 := h.blk.frozen 2
  have f3 := h.blk.frozen 3
  have ha := h.ok.a0
  have hb := h.ok.a1
  have H := hide h
  clear h
  by_cases h0 : s.arm = 0
  · have e0 : (s.arm == 0) = true := by simp [h0]
    have E : Hid (s.step = { s with down := true, arm := -1 }) := by show _ = _; unfold NorS.step; rw [if_pos h0]
    have Es : Hid (s.steps = false) := by show _ = _; unfold NorS.steps; rw [e0]; rfl
    clear h0
    go_enter Try.func63, Try.ntmps63
    go_wp2
    go_ret
    refine ⟨ret_bool Es.out.symm, ?_, ((Frm.refl _ w).setCell (.inl (.inl rfl)) _).setCell (.inl (.inl rfl)) _⟩
    have o := H.out.ok.step
    rw [E.out] at o ⊢
    exact H.out.turn ((H.out.blk.set_ 3 (.bool true)).set_ 2 (.int .i64 (-1))) (((Frm.refl (One p) w).set1 _ _).set1 _ _) rfl rfl o
  · have e0 : (s.arm == 0) = false := by simp [h0]
    have E : Hid (s.step = { s with arm := max (s.arm - 1) (-1) }) := by show _ = _; unfold NorS.step; rw [if_neg h0]
    have Es : Hid (s.steps = true) := by show _ = _; unfold NorS.steps; rw [e0]; rfl
    clear h0
    go_enter Try.func63, Try.ntmps63
    go_wp2
    all_goals
      go_ret
      refine ⟨ret_bool Es.out.symm, ?_, (Frm.refl _ w).setCell (.inl (.inl rfl)) _⟩
      have o := H.out.ok.step
      rw [E.out] at o ⊢
      have em : max (s.arm - 1) (-1) = (if s.arm - 1 < -1 then -1 else s.arm - 1) := by split <;> omega
      rw [em] at o ⊢
      first | rw [if_pos h] at o ⊢ | rw [if_neg (by omega)] at o ⊢
      exact H.out.turn (H.out.blk.set_ 2 _) ((Frm.refl (One p) w).set1 _ _) rfl rfl o
end
end Go.Proofs.Ytplngfphklpicaa

/-
  The flash: Read, Arm, Down, Sectors, Guard, Program, Erase.
-/
namespace Go.Proofs.Ytplngfphklpicaa
open Go.RowKit

section
variable {w : World} {p q c : Nat} {s : NorS}

theorem read_is (sec k : Int) (h : NorAt w p q c s) :
    Calls Try.prog 42 #[.pointer (some ⟨p, 0, none⟩), .int .i64 sec, .int .i64 k] w fun e w' => e = .returned (.tuple #[.int .u32 (s.read sec k), .int .i64 (s.up sec k 1)]) ∧ w = w' := by
  have h0 := h.c0
  have hn := h.ok.n2
  by_cases hu : s.up sec k 1 = 0
  · obtain ⟨-, i0, i1, i2, i4⟩ := NorS.up_zero hu
    obtain ⟨S, rfl⟩ := Int.eq_ofNat_of_zero_le i0
    obtain ⟨K, rfl⟩ := Int.eq_ofNat_of_zero_le i2
    have hl := h.ok.len
    have hc := h.cell (S * 64 + K) (by omega)
    have E : Hid (s.read S K = s.wd (S * 64 + K)) := by
      show _ = _; unfold NorS.read; rw [if_pos hu]; rfl
    have hu0 : (s.up S K 1 != 0) = false := by rw [hu]; rfl
    have H := hide h
    have HU := hide hu
    clear h hu hl
    go_enter Try.func42, Try.ntmps42
    go_wp2_with (first
      | (go_at_call 62; refine (up_is _ _ _ H.out (by omega) (by omega)).mono ?_; rintro e w' ⟨rfl, rfl⟩))
    go_ret2
    exact ⟨ret_ii E.out.symm HU.out.symm, rfl⟩
  · have E : Hid (s.read sec k = 0) := by show _ = _; unfold NorS.read; rw [if_neg hu]
    have hu0 : (s.up sec k 1 != 0) = true := by simpa using hu
    have H := hide h
    clear h hu
    go_enter Try.func42, Try.ntmps42
    go_wp2_with (first
      | (go_at_call 62; refine (up_is _ _ _ H.out (by omega) (by omega)).mono ?_; rintro e w' ⟨rfl, rfl⟩))
    go_ret2
    exact ⟨ret_ii E.out.symm rfl, rfl⟩
theorem read_no (sec k : Int) (v : Value) (h : NoNor w v) :
    Calls Try.prog 42 #[v, .int .i64 sec, .int .i64 k] w fun e w' => e = .returned (.tuple #[.int .u32 0, .int .i64 1]) ∧ w = w' := by
  have H := hide h
  clear h
  go_enter Try.func42, Try.ntmps42
  go_wp2_with (first
    | (go_at_call 62; refine (up_no _ _ _ _ H.out).mono ?_; rintro e w' ⟨rfl, rfl⟩))
  go_ret2
  exact ⟨rfl, rfl⟩

theorem down_is (h : NorAt w p q c s) : Calls Try.prog 22 #[.pointer (some ⟨p, 0, none⟩)] w fun e w' => e = .returned (.bool s.down) ∧ w = w' := by
  have h3 := h.c3
  have H := hide h
  clear h
  go_enter Try.func22, Try.ntmps22
  go_wp2_with (first
    | (go_at_call 51; refine (none_is H.out).mono ?_; rintro e w' ⟨rfl, rfl⟩))
  go_ret
  exact ⟨rfl, rfl⟩
theorem down_no (v : Value) (h : NoNor w v) : Calls Try.prog 22 #[v] w fun e w' => e = .returned (.bool false) ∧ w = w' := by
  have H := hide h
  clear h
  go_enter Try.func22, Try.ntmps22
  go_wp2_with (first
    | (go_at_call 51; refine (none_no _ _ H.out).mono ?_; rintro e w' ⟨rfl, rfl⟩))
  go_ret
  exact ⟨rfl, rfl⟩

theorem sectors_is (h : NorAt w p q c s) : Calls Try.prog 50 #[.pointer (some ⟨p, 0, none⟩)] w fun e w' => e = .returned (.int .i64 s.n) ∧ w = w' := by
  have h0 := h.c0
  have H := hide h
  clear h
  go_enter Try.func50, Try.ntmps50
  go_wp2_with (first
    | (go_at_call 51; refine (none_is H.out).mono ?_; rintro e w' ⟨rfl, rfl⟩))
  go_ret
  exact ⟨rfl, rfl⟩
theorem sectors_no (v : Value) (h : NoNor w v) : Calls Try.prog 50 #[v] w fun e w' => e = .returned (.int .i64 0) ∧ w = w' := by
  have H := hide h
  clear h
  go_enter Try.func50, Try.ntmps50
  go_wp2_with (first
    | (go_at_call 51; refine (none_no _ _ H.out).mono ?_; rintro e w' ⟨rfl, rfl⟩))
  go_ret
  exact ⟨rfl, rfl⟩

theorem arm_is (k : Int) (h : NorAt w p q c s) (hk : k ≤ 9223372036854775807) :
    Calls Try.prog 21 #[.pointer (some ⟨p, 0, none⟩), .int .i64 k] w fun e w' => e = .returned (.tuple #[]) ∧ NorAt w' p q c (s.arms k) ∧ Frm (Two p q) w w' := by
  have h2 := h.c2
  have h3 := h.c3
  have f2 := h.blk.frozen 2
  by_cases hd : s.down = true
  · have E : Hid (s.arms k = s) := by show _ = _; unfold NorS.arms; rw [if_pos hd]
    have hd0 : (!s.down) = false := by rw [hd]; rfl
    have H := hide h
    clear h hd
    go_enter Try.func21, Try.ntmps21
    go_wp2_with (first
      | (go_at_call 51; refine (none_is H.out).mono ?_; rintro e w' ⟨rfl, rfl⟩))
    go_end0
    exact ⟨rfl, by rw [E.out]; exact H.out, Frm.refl _ _⟩
  · have E : Hid (s.arms k = { s with arm := max k 0 }) := by show _ = _; unfold NorS.arms; rw [if_neg hd]
    have hd0 : (!s.down) = true := by simpa using hd
    have O : Hid ({ s with arm := max k 0 } : NorS).Ok := ⟨h.ok.len, h.ok.n1, h.ok.n2, h.ok.g0, h.ok.g1, by show -1 ≤ max _ _; omega, by show max _ _ ≤ _; omega, h.ok.h0, h.ok.h1, h.ok.u⟩
    have H := hide h
    clear h hd
    go_enter Try.func21, Try.ntmps21
    go_wp2_with (first
      | (go_at_call 51; refine (none_is H.out).mono ?_; rintro e w' ⟨rfl, rfl⟩))
    all_goals
      go_end0
      refine ⟨rfl, ?_, (Frm.refl _ w).setp _ _⟩
      have o := O.out
      rw [E.out]
      have em : max k 0 = (if k < 0 then 0 else k) := by split <;> omega
      rw [em] at o ⊢
      first | rw [if_pos ‹_›] at o ⊢ | rw [if_neg (by omega)] at o ⊢
      exact H.out.turn (H.out.blk.set_ 2 _) ((Frm.refl (One p) w).set1 _ _) rfl rfl o
theorem arm_no (k : Int) (v : Value) (h : NoNor w v) : Calls Try.prog 21 #[v, .int .i64 k] w fun e w' => e = .returned (.tuple #[]) ∧ w = w' := by
  have H := hide h
  clear h
  go_enter Try.func21, Try.ntmps21
  go_wp2_with (first
    | (go_at_call 51; refine (none_no _ _ H.out).mono ?_; rintro e w' ⟨rfl, rfl⟩))
  go_end0
  exact ⟨rfl, rfl⟩

end
end Go.Proofs.Ytplngfphklpicaa

/-
  The flash: Program.
-/
namespace Go.Proofs.Ytplngfphklpicaa
open Go.RowKit

section
variable {w : World} {p q c : Nat} {s : NorS}
set_option maxHeartbeats 1000000 in
theorem program_is (sec k : Int) (A : Option Addr) (cp : Nat) (xs : List Int) (h : NorAt w p q c s) (hx : Rd w A (ints .u32 xs)) (hA : xs ≠ [] → ∀ a, A = some a → ¬ Two p q a.block) (ux : U32 xs) (hm : (xs.length : Int) ≤ 9223372036854775807) :
    Calls Try.prog 45 #[.pointer (some ⟨p, 0, none⟩), .int .i64 sec, .int .i64 k, .slice A xs.length cp] w fun e w' => e = .returned (.int .i64 (s.programE sec k xs)) ∧ NorAt w' p q c (s.program sec k xs) ∧ Frm (Two p q) w w' := by
  have hn := h.ok.n2
  by_cases hu : s.up sec k xs.length = 0
  · obtain ⟨-, i0, i1, i2, i4⟩ := NorS.up_zero hu
    obtain ⟨S, rfl⟩ := Int.eq_ofNat_of_zero_le i0
    obtain ⟨K, rfl⟩ := Int.eq_ofNat_of_zero_le i2
    have hu0 : (s.up S K xs.length != 0) = false := by rw [hu]; rfl
    have E : Hid (s.program S K xs = s.prog (S * 64 + K) xs) := by show _ = _; unfold NorS.program; rw [if_pos hu]; rfl
    have E' : Hid (s.programE S K xs = if s.progs xs = true then 0 else 40) := by show _ = _; unfold NorS.programE; rw [if_pos hu]
    have H := hide h
    have HU := hide hu
    clear h hu
    go_enter Try.func45, Try.ntmps45
    go_wp2_with (first
      | (go_at_call 62; refine (up_is _ _ _ H.out (by omega) (by omega)).mono ?_; rintro e w' ⟨rfl, rfl⟩))
    go_loopw [23] (fun i wr => ∃ (j : Nat) (s' : NorS), j ≤ xs.length ∧ i = .int .i64 j ∧ NorAt wr p q c s' ∧ Frm (Two p q) w wr ∧ s'.n = s.n ∧ s.prog (S * 64 + K) xs = s'.prog (S * 64 + K + j) (xs.drop j) ∧ s.progs xs = s'.progs (xs.drop j)) (fun i _ => xs.length - (intOf i).toNat)
    case atStart => exact ⟨0, s, by omega, rfl, H.out, Frm.refl _ _, rfl, rfl, rfl⟩
    case round =>
      obtain ⟨j, s', hj, rfl, hN, hF, hns, hp1, hp2⟩ := hrel
      have hns' : s'.n ≤ s.n := by omega
      have hns2 : s.n ≤ s'.n := by omega
      have HP1 := hide hp1
      have HP2 := hide hp2
      have HNs := hide hns
      clear hp1 hp2 hns
      by_cases hlt : j < xs.length
      · obtain ⟨b, o, rfl, hc⟩ := hx (ints_ne (by intro e; subst e; simp at hlt))
        have hcj : wr.cell? ⟨b, o + j, none⟩ = some (.int .u32 (xs.getD j 0)) := by
          have h1 := hc j _ (ints_get hlt)
          rw [hF.cell (World.block_lt_of_cell? w _ h1) (show ¬ Two p q b from hA (by intro e; subst e; simp at hlt) _ rfl)]; exact h1
        have hd : Hid (xs.drop j = xs.getD j 0 :: xs.drop (j + 1)) := by
          show _ = _
          rw [List.drop_eq_getElem_cons hlt]; simp [hlt]
        have hb := ux.get j
        have U := hide ux
        clear hx hA hc ux
        generalize xs.getD j 0 = x at hcj hd hb
        obtain ⟨hb0, hb1⟩ := hb
        have HN := hide hN
        clear hN
        by_cases hs : s'.steps = true
        · have Es : Hid (s'.steps = true) := hs
          have hl' := (HN.out : NorAt wr p q c s').ok.len
          have hi : S * 64 + (K + j) < s'.step.l.length := by rw [NorS.step_l]; omega
          clear hl'
          go_wp2_with (first
            | (go_at_call 63; refine (step_is HN.out).mono ?_; rintro e w1 ⟨rfl, hN1, hF1⟩; have hw0 := hN1.c0; have hcl := hN1.cell (S * 64 + (K + j)) hi; have hfr := hN1.free (S * 64 + (K + j)); have hsn := NorS.step_n s'; rw [hsn] at hw0; have HN1 := hide hN1; clear hN1 hsn))
          go_region
          go_wp2
          go_roundw
          case rel =>
            have hb := (HN1.out : NorAt w1 p q c s'.step).ok.wd (S * 64 + (K + j))
            have eb : bits BinOp.and IntKind.u32 (s'.step.wd (S * 64 + (K + j))) x = wand (s'.wd (S * 64 + K + j)) x := by
              rw [u32_and _ _ hb.1 hb.2 hb0 hb1]
              unfold wand NorS.wd
              rw [NorS.step_l, Nat.add_assoc]
            rw [eb]
            have hw := (HN.out : NorAt wr p q c s').ok.wd (S * 64 + K + j)
            have h1 := ((HN1.out : NorAt w1 p q c s'.step).stored (S * 64 + (K + j)) (wand_u32 hw (b := x))).drew
            refine ⟨j + 1, s'.step.put (S * 64 + (K + j)) (wand (s'.wd (S * 64 + K + j)) x), by omega, by go_num, h1, ((hF.trans hF1).setq _ _).drew, (NorS.step_n s').trans HNs.out, ?_, ?_⟩
            · rw [HP1.out, hd.out]
              show (if s'.steps = true then _ else _) = _
              rw [if_pos Es.out, Nat.add_assoc (S * 64) K j, Nat.add_assoc (S * 64) K (j + 1), Nat.add_assoc (S * 64) (K + j) 1]
              rfl
            · rw [HP2.out, hd.out]
              show (if s'.steps = true then _ else _) = _
              rw [if_pos Es.out, NorS.progs_put]
          case measure => simp [intOf]; omega
        · have hs0 : s'.steps = false := by simpa using hs
          have Es : Hid (s'.steps = false) := hs0
          clear hs
          go_wp2_with (first
            | (go_at_call 63; refine (step_is HN.out).mono ?_; rintro e w1 ⟨rfl, hN1, hF1⟩; have HN1 := hide hN1; clear hN1))
          go_ret
          have e1 : s.prog (S * 64 + K) xs = s'.step := by
            rw [HP1.out, hd.out]
            show (if s'.steps = true then _ else _) = _
            rw [Es.out]; rfl
          have e2 : s.progs xs = false := by
            rw [HP2.out, hd.out]
            show (if s'.steps = true then _ else _) = _
            rw [Es.out]; rfl
          exact ⟨ret_int (by rw [E'.out, e2]; rfl), by rw [E.out, e1]; exact HN1.out, hF.trans hF1⟩
      · have ej : j = xs.length := by omega
        subst ej
        have HN := hide hN
        clear hN hx hA ux
        go_wp2
        go_ret
        have e0 : xs.drop xs.length = [] := List.drop_length
        have e1 : s.prog (S * 64 + K) xs = s' := by rw [HP1.out, e0]; rfl
        have e2 : s.progs xs = true := by rw [HP2.out, e0]; rfl
        exact ⟨ret_int (by rw [E'.out, e2]; rfl), by rw [E.out, e1]; exact HN.out, hF⟩
  · have E : Hid (s.program sec k xs = s) := by show _ = _; unfold NorS.program; rw [if_neg hu]
    have E' : Hid (s.programE sec k xs = s.up sec k xs.length) := by show _ = _; unfold NorS.programE; rw [if_neg hu]
    have hu0 : (s.up sec k xs.length != 0) = true := by simpa using hu
    have H := hide h
    clear h hu hx hA ux
    go_enter Try.func45, Try.ntmps45
    go_wp2_with (first
      | (go_at_call 62; refine (up_is _ _ _ H.out (by omega) (by omega)).mono ?_; rintro e w' ⟨rfl, rfl⟩))
    go_ret
    exact ⟨ret_int E'.out.symm, by rw [E.out]; exact H.out, Frm.refl _ _⟩
theorem program_no (sec k : Int) (A : Option Addr) (cp n : Nat) (v : Value) (h : NoNor w v) :
    Calls Try.prog 45 #[v, .int .i64 sec, .int .i64 k, .slice A n cp] w fun e w' => e = .returned (.int .i64 1) ∧ w = w' := by
  have H := hide h
  clear h
  go_enter Try.func45, Try.ntmps45
  go_wp2_with (first
    | (go_at_call 62; refine (up_no _ _ _ _ H.out).mono ?_; rintro e w' ⟨rfl, rfl⟩))
  go_ret
  exact ⟨rfl, rfl⟩
end
end Go.Proofs.Ytplngfphklpicaa

/-
  The flash: blank.
-/
namespace Go.Proofs.Ytplngfphklpicaa
open Go.RowKit
def one32 : Value := .int .u32 4294967295
def zero32 : Value := .int .u32 0
/-- a sector of ones -/
def ones64 : Array Value := Array.replicate 64 one32
def zeros64 : Array Value := Array.replicate 64 zero32
theorem ones64_all : ones64.all (·.oneCell') = true := by kernel_rfl
theorem sector_size : (Try.prog.info? 93).map (·.size) = some 64 := by kernel_rfl
set_option maxRecDepth 100000 in
theorem blank_is (w : World) :
    Calls Try.prog 52 #[] w fun e w' => e = .returned (.agg ones64) ∧ Frm NoB w w' := by
  go_enter Try.func52, Try.ntmps52
  go_wp2
  have hb0 := (Blk.new w 93 zeros64).alloc (.cells zeros64 93)
  have hb1 := Blk.new (w.alloc (.cells zeros64 93)) 93 zeros64
  have hf1 := ((Frm.refl NoB w).alloc (.cells zeros64 93)).alloc (.cells zeros64 93)
  rw [World.size_alloc] at hb1
  have ez : zeros64 = #[zero32, zero32, zero32, zero32, zero32, zero32, zero32, zero32, zero32, zero32, zero32, zero32, zero32, zero32, zero32, zero32, zero32, zero32, zero32, zero32, zero32, zero32, zero32, zero32, zero32, zero32, zero32, zero32, zero32, zero32, zero32, zero32, zero32, zero32, zero32, zero32, zero32, zero32, zero32, zero32, zero32, zero32, zero32, zero32, zero32, zero32, zero32, zero32, zero32, zero32, zero32, zero32, zero32, zero32, zero32, zero32, zero32, zero32, zero32, zero32, zero32, zero32, zero32, zero32] := by rfl
  generalize hW : (w.alloc (.cells zeros64 93)).alloc (.cells zeros64 93) = W at *
  rw [ez] at hW
  unfold zero32 at hW
  rw [hW]
  clear hW ez
  go_loopw [3] (fun i wr => ∃ j : Nat, j ≤ 64 ∧ i = .int .i64 j ∧ Blk wr w.heap.size 93 zeros64 ∧ Blk wr (w.heap.size + 1) 93 (fillTo 64 one32 zero32 j) ∧ Frm NoB w wr) (fun i _ => 64 - (intOf i).toNat)
  case atStart => exact ⟨0, by omega, rfl, hb0, by rw [fillTo_zero]; exact hb1, hf1⟩
  case round =>
    clear hb0 hb1 hf1
    obtain ⟨j, hj, rfl, h0, h1, hf⟩ := hrel
    by_cases hlt : j < 64
    · have hc : wr.cell? ⟨w.heap.size + 1, j, none⟩ = some zero32 := by rw [h1.cell, fillTo_get hlt]
      have hz := h1.frozen j
      have H0 := hide h0
      have H1 := hide h1
      clear h0 h1
      go_wp2
      go_roundw
      case rel =>
        refine ⟨j + 1, by omega, by go_num, (Hid.out H0).far (p := ⟨w.heap.size + 1, j, none⟩) (by simp) _, ?_, hf.setNew (by omega) _ _⟩
        have := (Hid.out H1).set_ j one32
        rw [fillTo_set hlt] at this
        exact this
      case measure => simp [intOf]; omega
    · obtain rfl : j = 64 := by omega
      have h1 : Blk wr (w.heap.size + 1) 93 ones64 := by rw [fillTo_all] at h1; exact h1
      have H0 := hide h0
      have H1 := hide h1
      clear h0 h1
      go_wp2_with (first
        | (refine wpList_load_row rfl 93 (.tmp 1) rfl (w.heap.size + 1) rfl 93 _ (0, 0) _ H1.out Try.underlying93 rfl sector_size ?_)
        | (refine wpList_store_row rfl 93 (.tmp 0) (.tmp 9) rfl w.heap.size _ rfl rfl 93 _ H0.out sector_size rfl ones64_all ?_))
      refine bodyPost_ret (results_cell_row rfl _ _ w.heap.size 93 ones64 (0, 0) _ rfl ((Hid.out H0).setRow ones64) Try.underlying93 rfl sector_size) rfl ⟨rfl, hf.setRow (.inr (Nat.le_refl _)) _⟩
end Go.Proofs.Ytplngfphklpicaa

/-
  The flash: New.
-/
namespace Go.Proofs.Ytplngfphklpicaa
open Go.RowKit

theorem ones64_len : ones64.toList.length = 1 * 64 := by kernel_rfl
theorem ones64_one : ∀ u ∈ ones64.toList, u.oneCell' = true := by
  intro u hu
  simp only [ones64, Array.toList_replicate] at hu
  rw [List.eq_of_mem_replicate hu]
  rfl
theorem sector_info : (Try.prog.info? 93).map (fun i => (i.zero, i.size, i.bytes)) = some (some (.agg zeros64), 64, 256) := by kernel_rfl

/-- one more sector of ones -/
theorem step_append_ones {w : World} {ops : Array Oper} {o : Oper} {a : Act} {K : Act → World → Prop} {Q : Exit → Act → World → Prop} {E : Prop} (hgd : o.guard = none) (s x : Operand)
    (ho : o.op = .call { callee := .builtin .append, args := #[s, x], argTypes := #[38, 38] })
    (base n b : Nat) (v : Value) (xs : List Value) (hs : a.eval s = v) (hx : a.eval x = .slice (some ⟨b, 0, none⟩) 1 1)
    (hown : w.ownsRow base 93 64 v n xs) (cs : Array Value) (hb : Blk w b 93 cs) (hcs : cs = ones64) (hn : n ≤ 1024) (hbase : base ≤ w.heap.size)
    (h : ∀ g cap w', w'.ownsRow base 93 64 (.slice (some ⟨g, 0, none⟩) (n + 1) cap) (n + 1) (xs ++ ones64.toList) → w.grownBy w' v.ownBlock → K (a.put o.dst (.slice (some ⟨g, 0, none⟩) (n + 1) cap)) w') :
    if Region.wanted o (yielded ops a.tmps) = true then Oper.wp Try.prog o a w K Q else E := by
  subst hcs
  obtain ⟨i0, hi0, hz0, hz1, hz2⟩ := info_parts sector_info
  exact step_append_lies w hgd s x 38 ho base 93 i0 _ 64 256 Try.underlying38 hi0 hz0 hz1 hz2 (by kernel_rfl) (by omega) v n xs hs hown ⟨b, 0, none⟩ 1 1 ones64.toList hx ones64_len (World.news_of_block hb) ones64_one (by omega) (by simp [maxLen]; omega) (by omega) hbase w.heap.size rfl (fun g cap w' h1 h2 _ _ => h g cap w' h1 h2)

theorem new_round {w wr w1 w2 : World} {j : Nat} {v : Value} {g : Int} {X : Obj} {g2 cap : Nat} (hf : Frm NoB w wr) (HB : Blk wr w.heap.size 40 #[v, .int .i64 g, .int .i64 (-1), .bool false, .int .i64 (-1)])
    (hf1 : Frm NoB wr w1) (hg : (w1.alloc X).grownBy w2 v.ownBlock) (hne : some w.heap.size ≠ v.ownBlock) (hv : ∀ b, v.ownBlock = some b → w.heap.size < b)
    (ho : w2.ownsRow (w.heap.size + 1) 93 64 (.slice (some ⟨g2, 0, none⟩) (j + 1) cap) (j + 1) (List.replicate (64 * j) one32 ++ ones64.toList)) :
    Blk (w2.setCell ⟨w.heap.size, 0, none⟩ (.slice (some ⟨g2, 0, none⟩) (j + 1) cap)) w.heap.size 40 #[.slice (some ⟨g2, 0, none⟩) (j + 1) cap, .int .i64 g, .int .i64 (-1), .bool false, .int .i64 (-1)] ∧
    (w2.setCell ⟨w.heap.size, 0, none⟩ (.slice (some ⟨g2, 0, none⟩) (j + 1) cap)).ownsRow (w.heap.size + 1) 93 64 (.slice (some ⟨g2, 0, none⟩) (j + 1) cap) (j + 1) (List.replicate (64 * (j + 1)) one32) ∧
    Frm NoB w (w2.setCell ⟨w.heap.size, 0, none⟩ (.slice (some ⟨g2, 0, none⟩) (j + 1) cap)) := by
  have hb1 := (HB.frm hf1 (fun e => e)).alloc X
  have hb2 : Blk w2 w.heap.size 40 #[v, .int .i64 g, .int .i64 (-1), .bool false, .int .i64 (-1)] := (hg.block _ hb1.lt hne).trans hb1
  refine ⟨hb2.set_ 0 _, ?_, ?_⟩
  · have hl := (ho.lt g2 rfl).1
    have e : List.replicate (64 * (j + 1)) one32 = List.replicate (64 * j) one32 ++ ones64.toList := by
      unfold ones64
      rw [Array.toList_replicate, List.replicate_append_replicate, Nat.mul_add]
    rw [e]
    exact own_frm ho ((Frm.refl (One w.heap.size) w2).set1 0 _) (fun b hb => by
      have : g2 = b := by simpa [Value.ownBlock] using hb
      intro h
      have : b = w.heap.size := h
      omega)
  · exact (((hf.trans hf1).alloc X).grown hg (fun b hb hlt => by have := hv b hb; omega)).setNew (Nat.le_refl _) _ _

/-- behind j sectors -/
def NewRel (w : World) (n : Nat) (g : Int) (i : Value) (wr : World) : Prop := ∃ (j : Nat) (v : Value), j ≤ n ∧ i = .int .i64 j ∧ Blk wr w.heap.size 40 #[v, .int .i64 g, .int .i64 (-1), .bool false, .int .i64 (-1)] ∧ wr.ownsRow (w.heap.size + 1) 93 64 v j (List.replicate (64 * j) one32) ∧ Frm NoB w wr
set_option maxHeartbeats 1000000 in
set_option maxRecDepth 100000 in
theorem new_is (n g : Nat) (w : World) (h1 : 1 ≤ n) (h2 : n ≤ 1024) (hg : g ≤ n) :
    Calls Try.prog 25 #[.int .i64 n, .int .i64 g] w fun e w' => ∃ p q c, e = .returned (.tuple #[.pointer (some ⟨p, 0, none⟩), .int .i64 0]) ∧ NorAt w' p q c (NorS.new n g) ∧ w.heap.size ≤ p ∧ w.heap.size ≤ q ∧ Frm NoB w w' := by
  have b1 : decide ((n : Int) < 1) = false := by simp; omega
  have b2 : decide (1024 < (n : Int)) = false := by simp; omega
  have b3 : decide ((g : Int) < 0) = false := by simp
  have b4 : decide ((n : Int) < (g : Int)) = false := by simp; omega
  have b5 : decide (n < g) = false := by simp; omega
  go_enter Try.func25, Try.ntmps25
  go_wp2
  go_loopw [26] (fun i wr => NewRel w n g i wr) (fun i _ => n - (intOf i).toNat)
  case atStart => exact ⟨0, .slice none 0 0, by omega, rfl, Blk.new _ _ _, World.ownsRow_nil _ _ _ _, (Frm.refl _ _).alloc _⟩
  case round =>
    obtain ⟨j, v, hj, rfl, hb, hrow, hf⟩ := hrel
    by_cases hlt : j < n
    · have hc := hb.cell 0
      have hz := hb.frozen 0
      have HB := hide hb
      have HR := hide hrow
      clear hb hrow
      go_wp2
      have hlt0 := Blk.lt HB.out
      have hne : Hid (some w.heap.size ≠ v.ownBlock) := fun e => by have := ((Hid.out HR).lt _ e.symm).1; omega
      have hos : ones64.size = 64 := by kernel_rfl
      have hcv : wr.cell? ⟨w.heap.size, 0, none⟩ = some v := hc
      clear hc
      go_region_law (first
          | (refine step_append_ones (by rfl) (.tmp 32) (.tmp 34) (by rfl) (w.heap.size + 1) j w1.heap.size v (List.replicate (64 * j) one32) (by rfl) (by rfl) ((own_frm (S := NoB) (w := wr.drew) (Hid.out HR) hf1 (fun _ _ e => e)).alloc _) _ (Blk.new _ _ _) (by kernel_rfl) (by omega) (by simp; omega) ?_; intro g2 cap w2 hown2 hgrow2; have hzz : w2.frozen? ⟨w.heap.size, 0, none⟩ = false := (by rw [hgrow2.frozen_far ⟨w.heap.size, 0, none⟩ (by simp; omega) hne.out, World.frozen?_alloc_old _ _ _ (by simp; omega), hf1.frozen (p := ⟨w.heap.size, 0, none⟩) (by simpa using hlt0) (fun e => e)]; exact hz); have hcc : w2.cell? ⟨w.heap.size, 0, none⟩ = some v := (by rw [hgrow2.cell_far ⟨w.heap.size, 0, none⟩ (by simp; omega) hne.out, World.cell?_alloc_old _ _ _ (by simp; omega), hf1.cell (p := ⟨w.heap.size, 0, none⟩) (by simpa using hlt0) (fun e => e)]; exact hcv))
          | (go_simp; go_at_call 52; refine (blank_is _).mono ?_; rintro e w1 ⟨rfl, hf1⟩; have hlt1 : wr.heap.size ≤ w1.heap.size := hf1.size; have hlt3 : w.heap.size < w1.heap.size := (by omega); have hcw : w1.cell? ⟨w.heap.size, 0, none⟩ = some v := (by rw [hf1.cell (p := ⟨w.heap.size, 0, none⟩) (by simpa using hlt0) (fun e => e)]; exact hcv)))
      all_goals
        have hR := new_round (wr := wr.drew) hf.drew HB.out hf1 hgrow2 hne.out (fun b hb => by have := ((Hid.out HR).lt b hb).1; omega) hown2
        clear hgrow2 hown2 hzz hcc hcw
        have HR2 := hide hR
        clear hR
        go_wp2
        go_roundw
        case rel =>
          obtain ⟨r1, r2, r3⟩ := (HR2.out)
          exact ⟨j + 1, _, by omega, by go_num, r1, r2, r3⟩
        case measure => simp [intOf]; omega
    · obtain rfl : j = n := by omega
      have HB := hide hb
      have HR := hide hrow
      clear hb hrow
      go_wp2
      go_ret2
      have hR := (Hid.out HR)
      obtain ⟨q, c, rfl, hq, hq2⟩ := hR.form (by omega)
      refine ⟨w.heap.size, q, c, rfl, ⟨HB.out, ?_, ?_⟩, Nat.le_refl _, by omega, hf⟩
      · have : ints .u32 (NorS.new j g).l = List.replicate (64 * j) one32 := by simp [ints, NorS.new, one32]
        rw [this]
        exact ⟨hR.1, by
          rcases hR.2 with h | ⟨a, b, c, e, h1, h2⟩
          · exact .inl h
          · exact .inr ⟨a, b, c, e, Nat.zero_le _, h2⟩⟩
      · exact ⟨by simp [NorS.new], h1, h2, by simp [NorS.new], by simp [NorS.new]; omega, by simp [NorS.new], by simp [NorS.new], by simp [NorS.new], by simp [NorS.new]; omega, fun x hx => by
          rw [List.eq_of_mem_replicate hx]; omega⟩
theorem new_bad (n g : Int) (w : World) (h : n < 1 ∨ 1024 < n ∨ g < 0 ∨ n < g) :
    Calls Try.prog 25 #[.int .i64 n, .int .i64 g] w fun e w' => e = .returned (.tuple #[.pointer none, .int .i64 2]) ∧ w = w' := by
  have hb : (decide (n < 1) || decide (1024 < n) || decide (g < 0) || decide (n < g)) = true := by simp; omega
  have H := hide h
  clear h
  by_cases h1 : n < 1
  · go_enter Try.func25, Try.ntmps25
    go_wp2
    go_ret2
    exact ⟨rfl, rfl⟩
  · by_cases h2 : 1024 < n
    · go_enter Try.func25, Try.ntmps25
      go_wp2
      go_ret2
      exact ⟨rfl, rfl⟩
    · by_cases h3 : g < 0
      · go_enter Try.func25, Try.ntmps25
        go_wp2
        go_ret2
        exact ⟨rfl, rfl⟩
      · have h4 : n < g := by have := H.out; omega
        go_enter Try.func25, Try.ntmps25
        go_wp2
        go_ret2
        exact ⟨rfl, rfl⟩
end Go.Proofs.Ytplngfphklpicaa

/-
  The flash: Erase, Guard, Rewrite, Crash.
-/
namespace Go.Proofs.Ytplngfphklpicaa
open Go.RowKit

theorem ones64_ints : ones64.toList = ints .u32 (List.replicate 64 4294967295) := by simp [ones64, ints, one32]
theorem splice_lay (xs : List Int) : ∀ (l : List Int) (i : Nat), i + xs.length ≤ l.length → NorS.lay l i xs = l.take i ++ xs ++ l.drop (i + xs.length) := by
  induction xs with
  | nil => intro l i h; simp [NorS.lay]
  | cons x r ih =>
    intro l i h
    have h' : i + 1 + r.length ≤ l.length := by simp at h; omega
    rw [NorS.lay, ih _ _ (by simpa using h')]
    have hi : i < l.length := by simp at h; omega
    rw [List.take_set, List.drop_set_of_lt (by omega)]
    have e : (l.take (i + 1)).set i x = l.take i ++ [x] := by
      rw [List.take_succ_eq_append_getElem hi, List.set_append_right _ _ (by simp; omega)]
      simp [Nat.min_eq_left (Nat.le_of_lt hi)]
    rw [e]
    simp [Nat.add_assoc, Nat.add_comm 1]

section
variable {w : World} {p q c : Nat} {s : NorS}
/-- some words are laid, by a row -/
theorem NorAt.laid (h : NorAt w p q c s) (i : Nat) (xs : List Int) (hx : U32 xs) (hi : i + xs.length ≤ s.l.length) (cur : Array Value) (hq : Blk w q 93 cur) :
    NorAt (w.setRow q (cur.toList.take i ++ ints .u32 xs ++ cur.toList.drop (i + (ints .u32 xs).length)).toArray) p q c { s with l := NorS.lay s.l i xs } := by
  have hl := h.ok.len
  refine ⟨h.blk.setRow_far _ h.ne, ?_, ⟨by rw [NorS.lay_length]; exact hl, h.ok.n1, h.ok.n2, h.ok.g0, h.ok.g1, h.ok.a0, h.ok.a1, h.ok.h0, h.ok.h1, NorS.lay_u32 xs hx _ _ h.ok.u⟩⟩
  rcases h.row.2 with ⟨e, _⟩ | ⟨g, cap, cur', e, h1, h2, h3, h4, h5, h6⟩
  · cases e
  · simp only [Value.slice.injEq, Option.some.injEq, Addr.mk.injEq, and_true, true_and] at e
    obtain ⟨rfl, rfl⟩ := e
    obtain ⟨rfl, -⟩ := Blk.inj (show Blk w q _ cur' from h2) hq
    have hs : s.n * 64 = s.l.length := by omega
    have hc6 : s.l.length ≤ cur'.size := by rw [h5]; omega
    rw [hs] at h6
    have h7 : cur'.toList.take i = ints .u32 (s.l.take i) := by
      rw [show ints .u32 (s.l.take i) = (ints .u32 s.l).take i from by simp [ints, List.map_take], ← h6, List.take_take, Nat.min_eq_left (by omega)]
    refine ⟨by show (ints .u32 (NorS.lay s.l i xs)).length = _; rw [ints_length, NorS.lay_length]; show _ = s.n * 64; omega, .inr ⟨q, c, _, rfl, h1, Blk.setRow (t := 93) h2 _, h3, h4, ?_, ?_⟩⟩
    · simp [ints_length]; omega
    · show List.take (s.n * 64) (_ : List Value) = ints .u32 (NorS.lay s.l i xs)
      rw [hs, splice_lay _ _ _ hi]
      simp only [ints, List.map_append, List.map_take, List.map_drop]
      rw [show (s.l.map (Value.int .u32)) = cur'.toList.take s.l.length from h6.symm]
      simp only [List.take_append, List.length_append, List.length_take, List.length_map, List.take_take, List.drop_take]
      have e1 : min i cur'.toList.length = i := by simp; omega
      simp only [e1]
      rw [show min s.l.length i = i from by omega, show min i s.l.length = i from by omega, List.take_of_length_le (l := xs.map _) (by simp; omega)]
theorem guard_is (h : NorAt w p q c s) : Calls Try.prog 60 #[.pointer (some ⟨p, 0, none⟩)] w fun e w' => e = .returned (.int .i64 s.guard) ∧ w = w' := by
  have h1 := h.c1
  have H := hide h
  clear h
  go_enter Try.func60, Try.ntmps60
  go_wp2_with (first
    | (go_at_call 51; refine (none_is H.out).mono ?_; rintro e w' ⟨rfl, rfl⟩))
  go_ret
  exact ⟨rfl, rfl⟩
theorem guard_no (v : Value) (h : NoNor w v) : Calls Try.prog 60 #[v] w fun e w' => e = .returned (.int .i64 0) ∧ w = w' := by
  have H := hide h
  clear h
  go_enter Try.func60, Try.ntmps60
  go_wp2_with (first
    | (go_at_call 51; refine (none_no _ _ H.out).mono ?_; rintro e w' ⟨rfl, rfl⟩))
  go_ret
  exact ⟨rfl, rfl⟩

theorem store_ones {w : World} {g off : Nat} (h : RowOk w g (off + 64)) : (storeCells ⟨g, off, none⟩ ones64.toList).run Try.prog w = .ok () (laidRow w g off ones64) :=
  run_storeCells_agg ones64_one h
theorem NorAt.rowOk {n : Nat} (h : NorAt w p q c s) (hn : n ≤ s.l.length) : RowOk w q n := by
  have hl := h.ok.len
  rcases h.row.2 with ⟨e, _⟩ | ⟨g, cap, cur', e, h1, h2, h3, h4, h5, h6⟩
  · cases e
  · simp only [Value.slice.injEq, Option.some.injEq, Addr.mk.injEq, and_true, true_and] at e
    obtain ⟨rfl, rfl⟩ := e
    exact ⟨cur', _, h2, by rw [h5]; omega⟩
attribute [local go_sem] store_ones
set_option maxRecDepth 100000 in
set_option maxHeartbeats 1000000 in
theorem erase_is (sec : Int) (h : NorAt w p q c s) :
    Calls Try.prog 47 #[.pointer (some ⟨p, 0, none⟩), .int .i64 sec] w fun e w' => e = .returned (.int .i64 (s.eraseE sec)) ∧ NorAt w' p q c (s.erase sec) ∧ Frm (Two p q) w w' := by
  by_cases hu : s.up sec 0 0 = 0
  · obtain ⟨-, i0, i1, -, -⟩ := NorS.up_zero hu
    obtain ⟨S, rfl⟩ := Int.eq_ofNat_of_zero_le i0
    have hu0 : (s.up S 0 0 != 0) = false := by rw [hu]; rfl
    by_cases hs : s.steps = true
    · have E : Hid (s.erase S = { s.step with l := NorS.lay s.l (NorS.at_ S 0) (List.replicate 64 4294967295) }) := by show _ = _; unfold NorS.erase; rw [if_pos hu, if_pos hs]
      have E' : Hid (s.eraseE S = 0) := by show _ = _; unfold NorS.eraseE; rw [if_pos hu, if_pos hs]
      have HU := hide hu
      have H := hide h
      clear h hu
      go_enter Try.func47, Try.ntmps47
      go_wp2_with (first
        | (go_at_call 62; refine (up_is _ _ _ H.out (by omega) (by omega)).mono ?_; rintro e w' ⟨rfl, rfl⟩)
        | (go_at_call 63; refine (step_is H.out).mono ?_; rintro e w1 ⟨rfl, hN1, hF1⟩; have hw0 := hN1.c0; have hsn := NorS.step_n s; rw [hsn] at hw0; have HN1 := hide hN1; clear hN1 hsn))
      have hl : s.step.l.length = 64 * s.n := by rw [NorS.step_l]; exact (Hid.out H).ok.len
      have hl0 : S * 64 + 64 ≤ s.step.l.length := by omega
      clear hl
      have hos : ones64.size = 64 := by kernel_rfl
      go_region_law (first
        | (go_simp; go_at_call 52; refine (blank_is _).mono ?_; rintro e w2 ⟨rfl, hF2⟩; have hN2 := (NorAt.drew HN1.out).frm hF2 (fun e => e) (fun e => e); have hw2 := hN2.c0; have hro := hN2.rowOk hl0; rw [NorS.step_n] at hw2; have HN2 := hide hN2; clear hN2))
      all_goals
        go_wp2
        go_ret
        have hN2 : NorAt w2 p q c s.step := HN2.out
        refine ⟨ret_int E'.out.symm, ?_, ((Frm.drew hF1).then_ hF2 (fun _ _ e => e.elim)).setRow (.inl (.inr rfl)) _⟩
        rw [E.out]
        obtain ⟨cs, hb⟩ := hN2.blkq
        have h3 := hN2.laid (NorS.at_ S 0) (List.replicate 64 4294967295) (fun x hx => by rw [List.eq_of_mem_replicate hx]; omega) (by simp [NorS.at_]; omega) cs hb
        rw [← ones64_ints] at h3
        have e1 : NorS.at_ S 0 = S * 64 := by simp [NorS.at_]
        rw [e1] at h3 ⊢
        rw [NorS.step_l] at h3
        show NorAt (w2.setRow q _) p q c _
        rw [rowOf_blk hb]
        exact h3
    · have E : Hid (s.erase S = { s.step with half := S }) := by show _ = _; unfold NorS.erase; rw [if_pos hu, if_neg hs]
      have E' : Hid (s.eraseE S = 40) := by show _ = _; unfold NorS.eraseE; rw [if_pos hu, if_neg hs]
      have hs0 : s.steps = false := by simpa using hs
      have HU := hide hu
      have H := hide h
      clear h hu hs
      go_enter Try.func47, Try.ntmps47
      go_wp2_with (first
        | (go_at_call 62; refine (up_is _ _ _ H.out (by omega) (by omega)).mono ?_; rintro e w' ⟨rfl, rfl⟩)
        | (go_at_call 63; refine (step_is H.out).mono ?_; rintro e w1 ⟨rfl, hN1, hF1⟩; have hw4 := hN1.c4; have hf4 := hN1.blk.frozen 4; have HN1 := hide hN1; clear hN1))
      go_ret
      refine ⟨ret_int E'.out.symm, ?_, hF1.setp _ _⟩
      rw [E.out]
      have hN1 : NorAt w1 p q c s.step := HN1.out
      have o := hN1.ok
      exact hN1.turn (hN1.blk.set_ 4 _) ((Frm.refl (One p) w1).set1 _ _) rfl rfl ⟨o.len, o.n1, o.n2, o.g0, o.g1, o.a0, o.a1, by show (-1 : Int) ≤ S; omega, by show (S : Int) < s.step.n; rw [NorS.step_n]; omega, o.u⟩
  · have E : Hid (s.erase sec = s) := by show _ = _; unfold NorS.erase; rw [if_neg hu]
    have E' : Hid (s.eraseE sec = s.up sec 0 0) := by show _ = _; unfold NorS.eraseE; rw [if_neg hu]
    have hu0 : (s.up sec 0 0 != 0) = true := by simpa using hu
    have H := hide h
    clear h hu
    go_enter Try.func47, Try.ntmps47
    go_wp2_with (first
      | (go_at_call 62; refine (up_is _ _ _ H.out (by omega) (by omega)).mono ?_; rintro e w' ⟨rfl, rfl⟩))
    go_ret
    exact ⟨ret_int E'.out.symm, by rw [E.out]; exact H.out, Frm.refl _ _⟩
theorem erase_no (sec : Int) (v : Value) (h : NoNor w v) : Calls Try.prog 47 #[v, .int .i64 sec] w fun e w' => e = .returned (.int .i64 1) ∧ w = w' := by
  have H := hide h
  clear h
  go_enter Try.func47, Try.ntmps47
  go_wp2_with (first
    | (go_at_call 62; refine (up_no _ _ _ _ H.out).mono ?_; rintro e w' ⟨rfl, rfl⟩))
  go_ret
  exact ⟨rfl, rfl⟩
end
end Go.Proofs.Ytplngfphklpicaa

/-
  The flash: Rewrite, Crash.
-/
namespace Go.Proofs.Ytplngfphklpicaa
open Go.RowKit
theorem sector_len : Try.prog.arrayLen 93 = 64 := by kernel_rfl
theorem sector_elem : Try.prog.elem 93 = 48 := by kernel_rfl
theorem word_size : (Try.prog.info? 48).map (·.size) = some 1 := by kernel_rfl
theorem ints_one {k : IntKind} {xs : List Int} : ∀ v ∈ ints k xs, v.oneCell' = true := by
  intro v hv
  simp only [ints, List.mem_map] at hv
  obtain ⟨x, _, rfl⟩ := hv
  rfl

section
variable {w : World} {p q c : Nat} {s : NorS}
set_option maxRecDepth 100000 in
set_option maxHeartbeats 1000000 in
theorem rewrite_is (sec k : Int) (A : Option Addr) (cp : Nat) (xs : List Int) (h : NorAt w p q c s) (hx : Rd w A (ints .u32 xs)) (ux : U32 xs) (hm : (xs.length : Int) ≤ 9223372036854775807) :
    Calls Try.prog 36 #[.pointer (some ⟨p, 0, none⟩), .int .i64 sec, .int .i64 k, .slice A xs.length cp] w fun e w' => e = .returned (.int .i64 (s.rewriteE sec k xs)) ∧ NorAt w' p q c (s.rewrite sec k xs) ∧ Frm (Two p q) w w' := by
  have hn := h.ok.n2
  have c0 := h.c0
  have c1 := h.c1
  by_cases ht : s.there sec k xs.length = true
  · by_cases hg : sec < s.guard
    · have E' : Hid (s.rewriteE sec k xs = 41) := by show _ = _; unfold NorS.rewriteE; rw [if_pos ht, if_pos hg]
      have E : Hid (s.rewrite sec k xs = s) := by show _ = _; unfold NorS.rewrite; rw [E'.out]; rfl
      have ht0 : (!s.there sec k xs.length) = false := by simpa using ht
      have H := hide h
      clear h hx ux ht
      go_enter Try.func36, Try.ntmps36
      go_wp2_with (first
        | (go_at_call 51; refine (none_is H.out).mono ?_; rintro e w' ⟨rfl, rfl⟩)
        | (go_at_call 58; refine (there_is _ _ _ H.out (by omega) (by omega)).mono ?_; rintro e w' ⟨rfl, rfl⟩))
      go_ret
      exact ⟨ret_int E'.out.symm, by rw [E.out]; exact H.out, Frm.refl _ _⟩
    · have E' : Hid (s.rewriteE sec k xs = 0) := by show _ = _; unfold NorS.rewriteE; rw [if_pos ht, if_neg hg]
      have E : Hid (s.rewrite sec k xs = { s with l := NorS.lay s.l (NorS.at_ sec k) xs }) := by show _ = _; unfold NorS.rewrite; rw [if_pos E'.out]
      have ht2 := ht
      unfold NorS.there at ht2
      simp only [Bool.and_eq_true, decide_eq_true_eq] at ht2
      obtain ⟨⟨⟨⟨i0, i1⟩, i2⟩, i3⟩, i4⟩ := ht2
      obtain ⟨S, rfl⟩ := Int.eq_ofNat_of_zero_le i0
      obtain ⟨K, rfl⟩ := Int.eq_ofNat_of_zero_le i2
      have H := hide h
      have hlen := h.ok.len
      clear h
      obtain ⟨cur, hq⟩ := (Hid.out H).blkq
      have HQ := hide hq
      clear hq
      have hfit : S * 64 + K + xs.length ≤ cur.size := by
        obtain ⟨cur', t, h1, h2⟩ := NorAt.rowOk (n := S * 64 + K + xs.length) H.out (by omega)
        obtain ⟨rfl, -⟩ := Blk.inj (show Blk w q _ cur' from h1) HQ.out
        exact h2
      have hal := sector_len
      have hel := sector_elem
      have hk : (K : Int) ≤ 64 := by omega
      have ht0 : (!s.there (↑S) (↑K) xs.length) = false := by simpa using ht
      by_cases he : xs = []
      · subst he
        have ht1 : (!s.there (↑S) (↑K) 0) = false := by simpa using ht
        have ht3 : ∀ m : Int, 0 ≤ m → m ≤ 9223372036854775807 → Calls Try.prog 58 #[.pointer (some ⟨p, 0, none⟩), .int .i64 S, .int .i64 K, .int .i64 m] w fun e w' => e = .returned (.bool (s.there S K m)) ∧ w = w' := fun m h1 h2 => there_is _ _ _ H.out h1 h2
        have HT := hide ht3
        have hcp := fun dp dLen dCap sp sCap => run_copy_none (P := Try.prog) w 22 22 3 48 dp sp dLen dCap 0 sCap Try.underlying22 word_size (by simp)
        clear hm i4 i3 hx ux ht ht0 ht3 hfit
        go_enter Try.func36, Try.ntmps36
        go_wp2_with (first
          | (go_at_call 51; refine (none_is H.out).mono ?_; rintro e w' ⟨rfl, rfl⟩)
          | (go_at_call 58; refine (HT.out _ (by simp) (by simp)).mono ?_; rintro e w' ⟨rfl, rfl⟩))
        all_goals
          go_ret
          refine ⟨ret_int E'.out.symm, ?_, Frm.refl _ _⟩
          rw [E.out]
          exact H.out
      · obtain ⟨b, o, rfl, hc⟩ := hx (ints_ne he)
        have hpos : 0 < xs.length := List.length_pos_iff.2 he
        have hk' : ((64 : Nat) = K) = False := by simp; omega
        have hcp := run_copy_row (P := Try.prog) w 22 22 3 48 q (S * 64 + K) (64 - K) (64 - K) ⟨b, o, none⟩ xs.length cp cur 93 (ints .u32 xs) Try.underlying22 word_size HQ.out
          (by rw [ints_length]; exact (Nat.min_eq_left (by omega)).symm) (fun j v hv => by rw [addr_add]; exact hc j v hv) (by rw [ints_length]; exact hfit) ints_one
        rw [ints_length] at hcp
        have HX := hide ux
        clear hx ux ht hc
        go_enter Try.func36, Try.ntmps36
        go_wp2_with (first
          | (go_at_call 51; refine (none_is H.out).mono ?_; rintro e w' ⟨rfl, rfl⟩)
          | (go_at_call 58; refine (there_is _ _ _ H.out (by omega) (by omega)).mono ?_; rintro e w' ⟨rfl, rfl⟩))
        go_ret
        refine ⟨ret_int E'.out.symm, ?_, (Frm.refl _ w).setRow (.inl (.inr rfl)) _⟩
        rw [E.out]
        have h3 := NorAt.laid H.out (NorS.at_ S K) xs HX.out (by simp [NorS.at_]; omega) cur HQ.out
        have e1 : NorS.at_ S K = S * 64 + K := by simp [NorS.at_]
        rw [e1, ints_length] at h3
        rw [e1]
        simpa using h3
  · have E' : Hid (s.rewriteE sec k xs = 2) := by show _ = _; unfold NorS.rewriteE; rw [if_neg ht]
    have E : Hid (s.rewrite sec k xs = s) := by show _ = _; unfold NorS.rewrite; rw [E'.out]; rfl
    have ht0 : (!s.there sec k xs.length) = true := by simpa using ht
    have H := hide h
    clear h hx ux ht
    go_enter Try.func36, Try.ntmps36
    go_wp2_with (first
      | (go_at_call 51; refine (none_is H.out).mono ?_; rintro e w' ⟨rfl, rfl⟩)
      | (go_at_call 58; refine (there_is _ _ _ H.out (by omega) (by omega)).mono ?_; rintro e w' ⟨rfl, rfl⟩))
    go_ret
    exact ⟨ret_int E'.out.symm, by rw [E.out]; exact H.out, Frm.refl _ _⟩
theorem rewrite_no (sec k : Int) (A : Option Addr) (cp n : Nat) (v : Value) (h : NoNor w v) :
    Calls Try.prog 36 #[v, .int .i64 sec, .int .i64 k, .slice A n cp] w fun e w' => e = .returned (.int .i64 1) ∧ w = w' := by
  have H := hide h
  clear h
  go_enter Try.func36, Try.ntmps36
  go_wp2_with (first
    | (go_at_call 51; refine (none_no _ _ H.out).mono ?_; rintro e w' ⟨rfl, rfl⟩))
  go_ret
  exact ⟨rfl, rfl⟩
end
end Go.Proofs.Ytplngfphklpicaa

/-
  The flash: Crash.
-/
namespace Go.Proofs.Ytplngfphklpicaa
open Go.RowKit

namespace NorS
theorem burn_length (ks : List Bool) (base : Nat) : ∀ (m i : Nat) (l : List Int), (burn ks base m i l).length = l.length := by
  intro m
  induction m with
  | zero => intro i l; rfl
  | succ m ih => intro i l; rw [burn, ih]; split <;> simp
theorem burn_u32 (ks : List Bool) (base : Nat) : ∀ (m i : Nat) (l : List Int), U32 l → U32 (burn ks base m i l) := by
  intro m
  induction m with
  | zero => intro i l h; exact h
  | succ m ih =>
    intro i l h
    rw [burn]
    apply ih
    split
    · exact h.set _ (by omega)
    · exact h
/-- behind i places of a crash -/
def burnt (s : NorS) (ks : List Bool) (i : Nat) (l : List Int) : Prop := burn ks (at_ s.half 0) 64 0 s.l = burn ks (at_ s.half 0) (64 - i) i l ∧ l.length = s.l.length
/-- how it stands in the midst -/
def mid (s : NorS) (l : List Int) : NorS := { s with l := l }
theorem Ok.mid {s : NorS} (h : s.Ok) {l : List Int} (hl : l.length = s.l.length) (hu : U32 l) : (s.mid l).Ok := ⟨by show l.length = _; rw [hl]; exact h.len, h.n1, h.n2, h.g0, h.g1, h.a0, h.a1, h.h0, h.h1, hu⟩
theorem Ok.crash {s : NorS} (h : s.Ok) (ks : List Bool) : (s.crash ks).Ok := by
  have h1 := h.n1
  refine ⟨?_, h.n1, h.n2, h.g0, h.g1, by simp [NorS.crash], by simp [NorS.crash], by simp [NorS.crash], by show (-1 : Int) < s.n; omega, ?_⟩
  · show (if 0 ≤ s.half then _ else _ : List Int).length = _
    split
    · rw [burn_length]; exact h.len
    · exact h.len
  · show U32 (if 0 ≤ s.half then _ else _ : List Int)
    split
    · exact burn_u32 _ _ _ _ _ h.u
    · exact h.u
end NorS

section
variable {w : World} {p q c : Nat} {s : NorS}
/-- behind j places -/
def CrashRel (w : World) (p q c : Nat) (s : NorS) (ks : List Bool) (i : Value) (wr : World) : Prop := ∃ (j : Nat) (l : List Int), j ≤ 64 ∧ i = .int .i64 j ∧ NorAt wr p q c (s.mid l) ∧ Frm (Two p q) w wr ∧ (0 ≤ s.half → s.burnt ks j l) ∧ (s.half < 0 → l = s.l)

set_option maxRecDepth 100000 in
set_option maxHeartbeats 1000000 in
theorem crash_is (A : Option Addr) (cp : Nat) (ks : List Bool) (h : NorAt w p q c s) (hx : Rd w A (bools ks)) (hA : ks ≠ [] → ∀ a, A = some a → ¬ Two p q a.block) (hm : (ks.length : Int) ≤ 9223372036854775807) :
    Calls Try.prog 23 #[.pointer (some ⟨p, 0, none⟩), .slice A ks.length cp] w fun e w' => e = .returned (.tuple #[]) ∧ NorAt w' p q c (s.crash ks) ∧ Frm (Two p q) w w' := by
  have hn := h.ok.n2
  have hh0 := h.ok.h0
  have hh1 := h.ok.h1
  have H := hide h
  clear h
  go_enter Try.func23, Try.ntmps23
  go_wp2_with (first
    | (go_at_call 51; refine (none_is H.out).mono ?_; rintro e w' ⟨rfl, rfl⟩))
  go_loopw [7] (fun i wr => CrashRel w p q c s ks i wr) (fun i _ => 64 - (intOf i).toNat)
  case atStart => exact ⟨0, s.l, by omega, rfl, H.out, Frm.refl _ _, fun _ => ⟨rfl, rfl⟩, fun _ => rfl⟩
  case round =>
    obtain ⟨j, l, hj, rfl, hN, hF, hb1, hb2⟩ := hrel
    have c0 := hN.c0
    have c4 := hN.c4
    have f2 := hN.blk.frozen 2
    have f3 := hN.blk.frozen 3
    have f4 := hN.blk.frozen 4
    have c2 := hN.c2
    have c3 := hN.c3
    have HB1 := hide hb1
    have HB2 := hide hb2
    have HN := hide hN
    clear hb1 hb2 hN
    by_cases hlt : j < 64
    · by_cases h0 : 0 ≤ s.half
      · obtain ⟨hb, hl⟩ := HB1.out h0
        obtain ⟨S, hS⟩ := Int.eq_ofNat_of_zero_le h0
        have HS := hide hS
        have HL := hide hl
        have HB := hide hb
        have hlen := (Hid.out H).ok.len
        have hlen2 : S * 64 + 64 ≤ l.length := by omega
        clear hl hb hlen
        have hc := NorAt.cell HN.out (S * 64 + j) (by show _ < l.length; omega)
        have hf := NorAt.free HN.out (S * 64 + j)
        have ea : Hid (NorS.at_ s.half 0 = S * 64) := by show _ = _; rw [hS]; simp [NorS.at_]
        have e64 : Hid (64 - j = (64 - (j + 1)) + 1) := by show _ = _; omega
        have c4' : wr.cell? ⟨p, 4, none⟩ = some (.int .i64 S) := by rw [c4]; show some (Value.int .i64 s.half) = _; rw [hS]
        have c0' : wr.cell? ⟨p, 0, none⟩ = some (.slice (some ⟨q, 0, none⟩) s.n c) := c0
        have hS1 : (S : Int) < s.n := by omega
        clear hS c4 h0 hh0 hh1 c0
        by_cases hk : j < ks.length
        · obtain ⟨b, o, rfl, hcx⟩ := hx (bools_ne (by intro e; subst e; simp at hk))
          have hcj : wr.cell? ⟨b, o + j, none⟩ = some (.bool (ks.getD j false)) := by
            have h1 := hcx j _ (bools_get hk)
            rw [hF.cell (World.block_lt_of_cell? w _ h1) (show ¬ Two p q b from hA (by intro e; subst e; simp at hk) _ rfl)]; exact h1
          clear hx hA hcx
          by_cases hv : ks.getD j false = true
          · rw [hv] at hcj
            have HV := hide hv
            clear hv
            go_wp2
            go_region
            go_wp2
            go_roundw
            case rel =>
              have hN : NorAt wr p q c (s.mid l) := HN.out
              have h1 := (hN.stored (S * 64 + j) (x := 4294967295) (by omega)).drew
              refine ⟨j + 1, l.set (S * 64 + j) 4294967295, by omega, by go_num, h1, (hF.setq _ _).drew, fun _ => ⟨?_, by simpa using HL.out⟩, fun hneg => by have := HS.out; omega⟩
              rw [HB.out, ea.out, e64.out, NorS.burn, if_pos HV.out]
            case measure => simp [intOf]; omega
          · have hv : ks.getD j false = false := by simpa using hv
            rw [hv] at hcj
            have HV := hide hv
            clear hv
            go_wp2
            go_roundw
            case rel =>
              refine ⟨j + 1, l, by omega, by go_num, HN.out, hF, fun _ => ⟨?_, HL.out⟩, fun hneg => by have := HS.out; omega⟩
              rw [HB.out, ea.out, e64.out, NorS.burn, HV.out]; rfl
            case measure => simp [intOf]; omega
        · have hv : Hid (ks.getD j false = false) := by show _ = _; rw [List.getD_eq_getElem?_getD, List.getElem?_eq_none (by omega)]; rfl
          clear hx hA
          go_wp2
          go_roundw
          case rel =>
            refine ⟨j + 1, l, by omega, by go_num, HN.out, hF, fun _ => ⟨?_, HL.out⟩, fun hneg => by have := HS.out; omega⟩
            rw [HB.out, ea.out, e64.out, NorS.burn, hv.out]; rfl
          case measure => simp [intOf]; omega
      · have c4' : wr.cell? ⟨p, 4, none⟩ = some (.int .i64 s.half) := c4
        clear hx hA
        go_wp2
        go_roundw
        case rel =>
          exact ⟨j + 1, l, by omega, by go_num, HN.out, hF, fun hp => by omega, fun _ => HB2.out (by omega)⟩
        case measure => simp [intOf]; omega
    · obtain rfl : j = 64 := by omega
      clear hx hA
      go_wp2
      go_end0
      have hN : NorAt wr p q c (s.mid l) := HN.out
      have e : s.crash ks = { s.mid l with down := false, arm := -1, half := -1 } := by
        unfold NorS.crash NorS.mid
        by_cases h0 : 0 ≤ s.half
        · rw [if_pos h0, (HB1.out h0).1]; rfl
        · rw [if_neg h0, HB2.out (by omega)]
      have o := (Hid.out H).ok.crash ks
      rw [e] at o ⊢
      exact ⟨rfl, hN.turn (((hN.blk.set_ 3 _).set_ 2 _).set_ 4 _) ((((Frm.refl (One p) wr).set1 _ _).set1 _ _).set1 _ _) rfl rfl o, ((hF.setp _ _).setp _ _).setp _ _⟩
theorem crash_no (A : Option Addr) (cp n : Nat) (v : Value) (h : NoNor w v) : Calls Try.prog 23 #[v, .slice A n cp] w fun e w' => e = .returned (.tuple #[]) ∧ w = w' := by
  have H := hide h
  clear h
  go_enter Try.func23, Try.ntmps23
  go_wp2_with (first
    | (go_at_call 51; refine (none_no _ _ H.out).mono ?_; rintro e w' ⟨rfl, rfl⟩))
  refine bodyPost_ret (results_none rfl _ _ _) rfl ?_
  exact ⟨rfl, rfl⟩
end
end Go.Proofs.Ytplngfphklpicaa

/-
  Words at an argument; a word more behind an own row.
-/
namespace Go.Proofs.Ytplngfphklpicaa
open Go.RowKit
theorem ints_take {k : IntKind} {xs : List Int} {n : Nat} : ints k (xs.take n) = (ints k xs).take n := by simp [ints]
theorem Rd.take {w : World} {A : Option Addr} {vs : List Value} (h : Rd w A vs) (n : Nat) : Rd w A (vs.take n) := fun hv => by
  have h0 : vs ≠ [] := fun e => hv (by rw [e]; simp)
  obtain ⟨b, o, e, hc⟩ := h h0
  refine ⟨b, o, e, fun i v hi => hc i v ?_⟩
  rw [List.getElem?_take] at hi
  split at hi
  · exact hi
  · cases hi
theorem below_two {B p q : Nat} (hp : B ≤ p) (hq : B ≤ q) : ∀ k, k < B → ¬ Two p q k := fun k hk h => by
  rcases h with h | h <;> omega
theorem uint32_info : (Try.prog.info? 48).map (fun i => (i.zero, i.size, i.bytes)) = some (some (.int .u32 0), 1, 4) := by kernel_rfl
/-- one word more behind an own row of words -/
theorem append_word {w : World} {ops : Array Oper} {rest : List Oper} {o : Oper} {a : Act} {Q : Exit → Act → World → Prop} (hgd : o.guard = none) (s x : Operand)
    (ho : o.op = .call { callee := .builtin .append, args := #[s, x], argTypes := #[22, 22] })
    (base n b : Nat) (v : Value) (xs : List Int) (y : Int) (hs : a.eval s = v) (hx : a.eval x = .slice (some ⟨b, 0, none⟩) 1 1)
    (hown : w.ownsRow base 48 1 v n (ints .u32 xs)) (hb : Blk w b 48 #[.int .u32 y]) (hn : n ≤ 16777216) (hbase : base ≤ w.heap.size)
    (h : ∀ g cap w', w'.ownsRow base 48 1 (.slice (some ⟨g, 0, none⟩) (n + 1) cap) (n + 1) (ints .u32 (xs ++ [y])) → w.grownBy w' v.ownBlock → wpList Try.prog ops Q rest (a.put o.dst (.slice (some ⟨g, 0, none⟩) (n + 1) cap)) w') :
    wpList Try.prog ops Q (o :: rest) a w := by
  obtain ⟨i0, hi0, hz0, hz1, hz2⟩ := info_parts uint32_info
  refine wpList_append_lies w hgd s x 22 ho base 48 i0 _ 1 4 Try.underlying22 hi0 hz0 hz1 hz2 rfl (by omega) v n (ints .u32 xs) hs hown ⟨b, 0, none⟩ 1 1 [.int .u32 y] hx rfl (World.news_of_block (cs := #[.int .u32 y]) hb) (by simp [Value.oneCell']) (by omega) (by simp [maxLen]; omega) (by omega) hbase w.heap.size rfl (fun g cap w' h1 h2 _ _ => h g cap w' ?_ h2)
  have e : ints .u32 (xs ++ [y]) = ints .u32 xs ++ [.int .u32 y] := by simp [ints]
  rw [e]
  exact h1

theorem Rd.of_own {w : World} {base : Nat} {e : TypeId} {v : Value} {n : Nat} {xs : List Value} (h : w.ownsRow base e 1 v n xs) : ∃ A c, v = .slice A n c ∧ Rd w A xs ∧ (∀ a, A = some a → base ≤ a.block ∧ a.block < w.heap.size) ∧ n ≤ c := by
  rcases h.2 with ⟨rfl, rfl⟩ | ⟨g, cap, cur, rfl, h1, h2, h3, h4, h5, h6⟩
  · refine ⟨none, 0, rfl, ?_, (fun a ha => by cases ha), Nat.le_refl _⟩
    have : xs = [] := List.eq_nil_of_length_eq_zero (by simpa using h.1)
    rw [this]; exact Rd.nil _ _
  · refine ⟨_, _, rfl, (fun _ => ⟨g, 0, rfl, fun i v hv => ?_⟩), (fun a ha => ?_), h3⟩
    · have hi : i < xs.length := (List.getElem?_eq_some_iff.1 hv).1
      have := h.cellAt i (by rw [← h.1]; exact hi)
      rw [Nat.zero_add, this]; exact hv
    · injection ha with ha; subst ha; exact ⟨h1, (h.lt g rfl).2⟩
end Go.Proofs.Ytplngfphklpicaa

/-
  Program, Rewrite at an argument.
-/
namespace Go.Proofs.Ytplngfphklpicaa
open Go.RowKit
section
variable {w : World} {p q c : Nat} {s : NorS}
theorem program_at (sec k : Int) (A : Option Addr) (cp n : Nat) (xs : List Int) (hn : xs.length = n) (h : NorAt w p q c s) (hx : Rd w A (ints .u32 xs)) (hA : xs ≠ [] → ∀ a, A = some a → ¬ Two p q a.block) (ux : U32 xs) (hm : (xs.length : Int) ≤ 9223372036854775807) :
    Calls Try.prog 45 #[.pointer (some ⟨p, 0, none⟩), .int .i64 sec, .int .i64 k, .slice A n cp] w fun e w' => e = .returned (.int .i64 (s.programE sec k xs)) ∧ NorAt w' p q c (s.program sec k xs) ∧ Frm (Two p q) w w' := by
  subst hn; exact program_is sec k A cp xs h hx hA ux hm
theorem rewrite_at (sec k : Int) (A : Option Addr) (cp n : Nat) (xs : List Int) (hn : xs.length = n) (h : NorAt w p q c s) (hx : Rd w A (ints .u32 xs)) (ux : U32 xs) (hm : (xs.length : Int) ≤ 9223372036854775807) :
    Calls Try.prog 36 #[.pointer (some ⟨p, 0, none⟩), .int .i64 sec, .int .i64 k, .slice A n cp] w fun e w' => e = .returned (.int .i64 (s.rewriteE sec k xs)) ∧ NorAt w' p q c (s.rewrite sec k xs) ∧ Frm (Two p q) w w' := by
  subst hn; exact rewrite_is sec k A cp xs h hx ux hm
end
end Go.Proofs.Ytplngfphklpicaa

-- one function of what print.sh printed for DrivePlays (printcut.py)
namespace Go.Proofs.Ytplngfphklpicaa.PDrivePlays
open Go.RowKit Go.Proofs.YtplngfphklpicaaW.PrintWords Go.Proofs.YtplngfphklpicaaW.PrintLast Go.Proofs.YtplngfphklpicaaW.PrintMore
attribute [local go_sem] max2_int min2_int max_two min_two max_three min_three max_four min_four   -- for this text's walks alone
set_option linter.unusedVariables false
set_option linter.unusedSimpArgs false

-- NOT PRINTED: function 51 (nor_Nor_none)

-- NOT PRINTED: function 22 (nor_Nor_Down)

-- NOT PRINTED: function 43 (drive_Drive_none)

-- NOT PRINTED: function 14 (drive_Drive_Sectors)

-- NOT PRINTED: function 15 (drive_Drive_Size)

/-! ### blockhouseref04_New: function 28 -/
mutual
def blockhouseref04_New.j0 : Nat → Int → Int → Bool → Option (List Int × Int × Int × Bool × Int × Int)
  | 0, _, _, _ => none
  | k + 1, x0, x1, x22 => if x22 = true then (some (([] : List Int), 0, 0, false, 0, 2)) else (blockhouseref04_New.l0 k x0 0 ([] : List Int) x1 (-1) false (-1))
def blockhouseref04_New.l0 : Nat → Int → Int → List Int → Int → Int → Bool → Int → Option (List Int × Int × Int × Bool × Int × Int)
  | 0, _, _, _, _, _, _, _ => none
  | k + 1, x0, x7, x107000, x107001, x107002, x107003, x107004 => if x7 < (wrap64 (x0 * 64)) then (if x107000.length < 35184372088832 then (blockhouseref04_New.l0 k x0 (wrap64 (x7 + 1)) (x107000 ++ [4294967295]) x107001 x107002 x107003 x107004) else (none)) else (some (x107000, x107001, x107002, x107003, x107004, 0))
end
def blockhouseref04_New.f (k : Nat) (a0 : Int) (a1 : Int) : Option (List Int × Int × Int × Bool × Int × Int) := if a0 < 1 then (blockhouseref04_New.j0 k a0 a1 true) else (if a0 > 1024 then (blockhouseref04_New.j0 k a0 a1 true) else (if a1 < 0 then (blockhouseref04_New.j0 k a0 a1 true) else (blockhouseref04_New.j0 k a0 a1 (decide (a1 > a0)))))
theorem blockhouseref04_New.mono_l : ∀ k, (∀ y0 y1 y2, LeO (blockhouseref04_New.j0 k y0 y1 y2) (blockhouseref04_New.j0 (k + 1) y0 y1 y2)) ∧ (∀ y0 y1 y2 y3 y4 y5 y6, LeO (blockhouseref04_New.l0 k y0 y1 y2 y3 y4 y5 y6) (blockhouseref04_New.l0 (k + 1) y0 y1 y2 y3 y4 y5 y6))
  | 0 => ⟨fun _ _ _ r h => by simp [blockhouseref04_New.j0] at h, fun _ _ _ _ _ _ _ r h => by simp [blockhouseref04_New.l0] at h⟩
  | k + 1 => by
    obtain ⟨ih0, ih1⟩ := blockhouseref04_New.mono_l k
    refine ⟨?_, ?_⟩
    · intro y0 y1 y2
      unfold blockhouseref04_New.j0
      repeat' first
      | (with_reducible exact ih0 _ _ _)
      | (with_reducible exact ih1 _ _ _ _ _ _ _)
      | (with_reducible exact LeO.refl _)
      | (with_reducible exact LeO.none _)
      | (with_reducible refine LeO.ite ?_ ?_)
      | (with_reducible refine LeO.bind ?_ (fun _ => ?_))
      | exact ih0 _ _ _
      | exact ih1 _ _ _ _ _ _ _
      | exact LeO.none _
      | refine LeO.ite ?_ ?_
      | refine LeO.bind ?_ (fun _ => ?_)
    · intro y0 y1 y2 y3 y4 y5 y6
      unfold blockhouseref04_New.l0
      repeat' first
      | (with_reducible exact ih0 _ _ _)
      | (with_reducible exact ih1 _ _ _ _ _ _ _)
      | (with_reducible exact LeO.refl _)
      | (with_reducible exact LeO.none _)
      | (with_reducible refine LeO.ite ?_ ?_)
      | (with_reducible refine LeO.bind ?_ (fun _ => ?_))
      | exact ih0 _ _ _
      | exact ih1 _ _ _ _ _ _ _
      | exact LeO.none _
      | refine LeO.ite ?_ ?_
      | refine LeO.bind ?_ (fun _ => ?_)
theorem blockhouseref04_New.mono : ∀ a0 a1 k, LeO (blockhouseref04_New.f k a0 a1) (blockhouseref04_New.f (k + 1) a0 a1) := by
  intro a0 a1 k
  obtain ⟨ih0, ih1⟩ := blockhouseref04_New.mono_l k
  unfold blockhouseref04_New.f
  repeat' first
      | (with_reducible exact ih0 _ _ _)
      | (with_reducible exact ih1 _ _ _ _ _ _ _)
      | (with_reducible exact LeO.refl _)
      | (with_reducible exact LeO.none _)
      | (with_reducible refine LeO.ite ?_ ?_)
      | (with_reducible refine LeO.bind ?_ (fun _ => ?_))
      | exact ih0 _ _ _
      | exact ih1 _ _ _ _ _ _ _
      | exact LeO.none _
      | refine LeO.ite ?_ ?_
      | refine LeO.bind ?_ (fun _ => ?_)
set_option maxHeartbeats 8000000 in
set_option maxRecDepth 100000 in
theorem blockhouseref04_New.calls (k : Nat) (a0 : Int) (a1 : Int) (r1 : List Int) (r2 : Int) (r3 : Int) (r4 : Bool) (r5 : Int) (r6 : Int) (w : World) (h : blockhouseref04_New.f k a0 a1 = some (r1, r2, r3, r4, r5, r6)) :
    Calls Try.prog 28 #[.int .i64 a0, .int .i64 a1] w fun e w' => ∃ v0_ : Value, e = .returned (.tuple #[.agg #[v0_, .int .i64 r2, .int .i64 r3, .bool r4, .int .i64 r5], .int .i64 r6]) ∧ Kd.R (Kd.int .u32) 48 w' w.heap.size (fun _ => True) v0_ r1 ∧ Below w.heap.size w w' := by
  have hu65 := Try.underlying65
  have HB := Aside0.mk (Below.refl w.heap.size w)
  have H : (if a0 < 1 then (blockhouseref04_New.j0 k a0 a1 true) else (if a0 > 1024 then (blockhouseref04_New.j0 k a0 a1 true) else (if a1 < 0 then (blockhouseref04_New.j0 k a0 a1 true) else (blockhouseref04_New.j0 k a0 a1 (decide (a1 > a0)))))) = some (r1, r2, r3, r4, r5, r6) := h
  clear h
  have HC3 := Aside0.mk H
  clear H
  go_enter Try.func28, Try.ntmps28
  go_upto_region 1 with (first | ((with_reducible refine gate_dst (N := 4) rfl ?_); refine box_event ?hg (N := 4) ?hd (cs := #[.slice none 0 0, .int .i64 0, .int .i64 0, .bool false, .int .i64 0]) (t := 65) ?hr ?_; (case hd => rfl); (case hg => rfl); (case hr => first | (go_simp; done) | (go_simp; rfl)); intro gb105 hg w4 hbox hb; have n0_ := Aside0.mk (below_step (by repeat (first | (with_reducible first | exact HB.out | apply below_alloc | apply pw_below_drewN | apply below_drew1) | exact HB.out)) hb); have n1_ := Aside0.mk (hbox); have n2_ := Aside0.mk ((by rw [hg]; exact (below_size (by repeat (first | (with_reducible first | exact HB.out | apply below_alloc | apply pw_below_drewN | apply below_drew1) | exact HB.out))) : w.heap.size ≤ gb105)); have n3_ := Aside0.mk ((by rw [hg]; exact (below_size (by repeat (first | (with_reducible first | exact HB.out | apply below_alloc | apply pw_below_drewN | apply below_drew1) | exact HB.out))) : w.heap.size ≤ gb105)); clear HB; have HB := n0_; have BK105 := n1_; have GW105 := n2_; have GE105 := n3_; clear n0_ n1_ n2_ n3_; clear hb hbox hg))
  (try simp only [Act.put, List.setIfInBounds_toArray, List.set_cons_zero, List.set_cons_succ])
  go_cut [22] (fun v22 wc => ∃ (kq : Nat) (x22_2 : Bool), v22 = .bool x22_2 ∧ Aside0 (blockhouseref04_New.j0 kq a0 a1 x22_2 = some (r1, r2, r3, r4, r5, r6)) ∧ Aside0 (kq ≤ k) ∧ Aside0 (wc.heap[gb105]? = some (.cells #[(.slice none 0 0), .int .i64 0, .int .i64 0, .bool false, .int .i64 0] 65 (0, 0))) ∧ Aside0 (Below w.heap.size w wc))
  case first =>
    have H := HC3.out
    clear HC3
    by_cases c5 : a0 < 1
    · rw [if_pos c5] at H
      have c5b0 : decide (a0 < 1) = true := decide_eq_true c5
      clear c5
      (first | rw [c5b0] | (simp only [i64_w, i32_w]; rw [c5b0]) | skip)
      have H' := Aside0.mk H
      clear H
      go_wp2
      go_meet
      case rel => exact ⟨_, (true), (by first | rfl | (simp; done) | (simp [*]; done)), H', ⟨by first | omega | exact Nat.le_refl _⟩, ⟨by (with_reducible repeat (first | refine blk_drewN ?_ _ | refine blk_drew ?_ | refine blk_alloc ?_ _)); exact BK105.out⟩, ⟨by repeat (first | (with_reducible first | exact HB.out | apply below_alloc | apply pw_below_drewN | apply below_drew1 | refine below_set ?_ GE105.out) | exact HB.out)⟩⟩
    · rw [if_neg c5] at H
      have c5b0 : decide (a0 < 1) = false := decide_eq_false c5
      clear c5
      (first | rw [c5b0] | (simp only [i64_w, i32_w]; rw [c5b0]) | skip)
      by_cases c6 : a0 > 1024
      · rw [if_pos c6] at H
        have c6b0 : decide (1024 < a0) = true := decide_eq_true c6
        clear c6
        have H' := Aside0.mk H
        clear H
        go_wp2
        go_meet
        case rel => exact ⟨_, (true), (by first | rfl | (simp; done) | (simp [*]; done)), H', ⟨by first | omega | exact Nat.le_refl _⟩, ⟨by (with_reducible repeat (first | refine blk_drewN ?_ _ | refine blk_drew ?_ | refine blk_alloc ?_ _)); exact BK105.out⟩, ⟨by repeat (first | (with_reducible first | exact HB.out | apply below_alloc | apply pw_below_drewN | apply below_drew1 | refine below_set ?_ GE105.out) | exact HB.out)⟩⟩
      · rw [if_neg c6] at H
        have c6b0 : decide (1024 < a0) = false := decide_eq_false c6
        clear c6
        by_cases c7 : a1 < 0
        · rw [if_pos c7] at H
          have c7b0 : decide (a1 < 0) = true := decide_eq_true c7
          clear c7
          have H' := Aside0.mk H
          clear H
          go_wp2
          go_meet
          case rel => exact ⟨_, (true), (by first | rfl | (simp; done) | (simp [*]; done)), H', ⟨by first | omega | exact Nat.le_refl _⟩, ⟨by (with_reducible repeat (first | refine blk_drewN ?_ _ | refine blk_drew ?_ | refine blk_alloc ?_ _)); exact BK105.out⟩, ⟨by repeat (first | (with_reducible first | exact HB.out | apply below_alloc | apply pw_below_drewN | apply below_drew1 | refine below_set ?_ GE105.out) | exact HB.out)⟩⟩
        · rw [if_neg c7] at H
          have c7b0 : decide (a1 < 0) = false := decide_eq_false c7
          clear c7
          have H' := Aside0.mk H
          clear H
          go_wp2
          go_meet
          case rel => exact ⟨_, (decide (a1 > a0)), (by first | rfl | (simp; done) | (simp [*]; done)), H', ⟨by first | omega | exact Nat.le_refl _⟩, ⟨by (with_reducible repeat (first | refine blk_drewN ?_ _ | refine blk_drew ?_ | refine blk_alloc ?_ _)); exact BK105.out⟩, ⟨by repeat (first | (with_reducible first | exact HB.out | apply below_alloc | apply pw_below_drewN | apply below_drew1 | refine below_set ?_ GE105.out) | exact HB.out)⟩⟩
  case rest =>
    clear HC3
    try clear c2
    try clear p2
    try clear c5
    try clear c5b0
    try clear c6
    try clear c6b0
    try clear c7
    try clear c7b0
    obtain ⟨kq, x22_2, rfl, HA, HJ2, BK105, HB⟩ := hcut
    cases kq with
    | zero => exact absurd HA.out (by simp [blockhouseref04_New.j0])
    | succ kj2 =>
      have H := HA.out
      clear HA
      simp only [blockhouseref04_New.j0] at H
      by_cases c8 : x22_2 = true
      · subst c8
        have H1 : (some (([] : List Int), 0, 0, false, 0, 2)) = some (r1, r2, r3, r4, r5, r6) := by rw [if_pos rfl] at H; exact H
        clear H
        have H := H1
        clear H1
        simp only [Option.some.injEq, Prod.mk.injEq] at H
        obtain ⟨rfl, rfl, rfl, rfl, rfl, rfl⟩ := H
        have hcz9_0 : wc.cell? ⟨gb105, 0, none⟩ = some (.slice none 0 0) := (blk_cell BK105.out 0).trans rfl
        have hcz9_1 : wc.cell? ⟨gb105, 1, none⟩ = some (.int .i64 0) := (blk_cell BK105.out 1).trans rfl
        have hcz9_2 : wc.cell? ⟨gb105, 2, none⟩ = some (.int .i64 0) := (blk_cell BK105.out 2).trans rfl
        have hcz9_3 : wc.cell? ⟨gb105, 3, none⟩ = some (.bool false) := (blk_cell BK105.out 3).trans rfl
        have hcz9_4 : wc.cell? ⟨gb105, 4, none⟩ = some (.int .i64 0) := (blk_cell BK105.out 4).trans rfl
        have hfz9_0 := blk_frozen BK105.out 0
        have hfz9_1 := blk_frozen BK105.out 1
        have hfz9_2 := blk_frozen BK105.out 2
        have hfz9_3 := blk_frozen BK105.out 3
        have hfz9_4 := blk_frozen BK105.out 4
        go_wp2
        refine bodyPost_ret (results_ct rfl _ _ gb105 65 #[.slice none 0 0, .int .i64 0, .int .i64 0, .bool false, .int .i64 0] (0, 0) _ rfl (by (with_reducible repeat (first | refine blk_drewN ?_ _ | refine blk_drew ?_ | refine blk_alloc ?_ _)); refine blk_put (cs := #[.slice none 0 0, .int .i64 0, .int .i64 0, .bool false, .int .i64 0]) ?_ 4 _ rfl; (with_reducible repeat (first | refine blk_drewN ?_ _ | refine blk_drew ?_ | refine blk_alloc ?_ _)); refine blk_put (cs := #[.slice none 0 0, .int .i64 0, .int .i64 0, .bool false, .int .i64 0]) ?_ 3 _ rfl; (with_reducible repeat (first | refine blk_drewN ?_ _ | refine blk_drew ?_ | refine blk_alloc ?_ _)); refine blk_put (cs := #[.slice none 0 0, .int .i64 0, .int .i64 0, .bool false, .int .i64 0]) ?_ 2 _ rfl; (with_reducible repeat (first | refine blk_drewN ?_ _ | refine blk_drew ?_ | refine blk_alloc ?_ _)); refine blk_put (cs := #[.slice none 0 0, .int .i64 0, .int .i64 0, .bool false, .int .i64 0]) ?_ 1 _ rfl; (with_reducible repeat (first | refine blk_drewN ?_ _ | refine blk_drew ?_ | refine blk_alloc ?_ _)); refine blk_put (cs := #[.slice none 0 0, .int .i64 0, .int .i64 0, .bool false, .int .i64 0]) ?_ 0 _ rfl; (with_reducible repeat (first | refine blk_drewN ?_ _ | refine blk_drew ?_ | refine blk_alloc ?_ _)); exact BK105.out) Try.underlying65 rfl (by kernel_rfl)) rfl ?_
        exact ⟨_, by first | rfl | (simp [errW_none, errW_some] <;> rfl) | (simp [*, errW_none, errW_some] <;> rfl), by first | exact Kd.R_nil _ _ _ _ _ | exact Kd.N_nil _ _ _ _ _ | exact Kd.V_nil _ _ _ _ _ | exact Kd.Q_nil _ _ _ _ _ | exact Kd.S_nil _ _ _ _ _, by repeat (first | (with_reducible first | exact HB.out | apply below_alloc | apply pw_below_drewN | apply below_drew1 | refine below_set ?_ GE105.out) | exact HB.out)⟩
      · replace c8 := Bool.eq_false_iff.mpr c8
        subst c8
        have H1 : (blockhouseref04_New.l0 kj2 a0 0 ([] : List Int) a1 (-1) false (-1)) = some (r1, r2, r3, r4, r5, r6) := by rw [if_neg (show ¬ (false = true) by decide)] at H; exact H
        clear H
        have H := H1
        clear H1
        have H' := Aside0.mk H
        clear H
        go_wp2_with (first | ((with_reducible refine gate_dst (N := 6) rfl ?_); refine box_event ?hg (N := 6) ?hd (cs := #[.slice none 0 0, .int .i64 0, .int .i64 0, .bool false, .int .i64 0]) (t := 65) ?hr ?_; (case hd => rfl); (case hg => rfl); (case hr => first | (go_simp; done) | (go_simp; rfl)); intro gb106 hg w10 hbox hb; have n0_ := Aside0.mk (blk_below (g := gb105) (o := .cells #[.slice none 0 0, .int .i64 0, .int .i64 0, .bool false, .int .i64 0] 65 (0, 0)) (by (with_reducible repeat (first | refine blk_drewN ?_ _ | refine blk_drew ?_ | refine blk_alloc ?_ _)); exact BK105.out) hb); have n1_ := Aside0.mk (below_step (by repeat (first | (with_reducible first | exact HB.out | apply below_alloc | apply pw_below_drewN | apply below_drew1 | refine below_set ?_ GE105.out) | exact HB.out)) hb); have n2_ := Aside0.mk (hbox); have n3_ := Aside0.mk ((by rw [hg]; exact (below_size (by repeat (first | (with_reducible first | exact HB.out | apply below_alloc | apply pw_below_drewN | apply below_drew1 | refine below_set ?_ GE105.out) | exact HB.out))) : w.heap.size ≤ gb106)); have n4_ := Aside0.mk ((by rw [hg]; exact (below_size (by repeat (first | (with_reducible first | exact HB.out | apply below_alloc | apply pw_below_drewN | apply below_drew1 | refine below_set ?_ GE105.out) | exact HB.out))) : w.heap.size ≤ gb106)); have n5_ := Aside0.mk ((by rw [hg]; exact Nat.ne_of_lt (blk_lt (g := gb105) (o := .cells #[.slice none 0 0, .int .i64 0, .int .i64 0, .bool false, .int .i64 0] 65 (0, 0)) (by (with_reducible repeat (first | refine blk_drewN ?_ _ | refine blk_drew ?_ | refine blk_alloc ?_ _)); exact BK105.out)) : gb105 ≠ gb106)); have n6_ := Aside0.mk ((by rw [hg]; exact Nat.ne_of_gt (blk_lt (g := gb105) (o := .cells #[.slice none 0 0, .int .i64 0, .int .i64 0, .bool false, .int .i64 0] 65 (0, 0)) (by (with_reducible repeat (first | refine blk_drewN ?_ _ | refine blk_drew ?_ | refine blk_alloc ?_ _)); exact BK105.out)) : gb106 ≠ gb105)); clear BK105; clear HB; have BK105 := n0_; have HB := n1_; have BK106 := n2_; have GW106 := n3_; have GE106 := n4_; have NB105_106 := n5_; have NB106_105 := n6_; clear n0_ n1_ n2_ n3_ n4_ n5_ n6_; clear hb hbox hg; have hnb11 := NB106_105.out; have hnc11 := NB105_106.out; have hcz12_0 : w10.cell? ⟨gb106, 0, none⟩ = some (.slice none 0 0) := (blk_cell BK106.out 0).trans rfl; have hcz12_1 : w10.cell? ⟨gb106, 1, none⟩ = some (.int .i64 0) := (blk_cell BK106.out 1).trans rfl; have hcz12_2 : w10.cell? ⟨gb106, 2, none⟩ = some (.int .i64 0) := (blk_cell BK106.out 2).trans rfl; have hcz12_3 : w10.cell? ⟨gb106, 3, none⟩ = some (.bool false) := (blk_cell BK106.out 3).trans rfl; have hcz12_4 : w10.cell? ⟨gb106, 4, none⟩ = some (.int .i64 0) := (blk_cell BK106.out 4).trans rfl; have hfz12_0 := blk_frozen BK106.out 0; have hfz12_1 := blk_frozen BK106.out 1; have hfz12_2 := blk_frozen BK106.out 2; have hfz12_3 := blk_frozen BK106.out 3; have hfz12_4 := blk_frozen BK106.out 4))
        go_loopg [7] kj2 (fun kq v7 w' => ∃ (x7_2 : Int) (x107000_2 : List Int) (u107000 : Value), v7 = .int .i64 x7_2 ∧ Aside0 (blockhouseref04_New.l0 kq a0 x7_2 x107000_2 a1 (-1) false (-1) = some (r1, r2, r3, r4, r5, r6)) ∧ Aside0 (kq ≤ kj2) ∧ Aside0 (Kd.R (Kd.int .u32) 48 w' w.heap.size (fun _ => True) u107000 x107000_2) ∧ Aside0 (w'.heap[gb105]? = some (.cells #[(.slice none 0 0), .int .i64 0, .int .i64 0, .bool false, .int .i64 0] 65 (0, 0))) ∧ Aside0 (w'.heap[gb106]? = some (.cells #[u107000, .int .i64 a1, .int .i64 (-1), .bool false, .int .i64 (-1)] 65 (0, 0))) ∧ Aside0 (Below w.heap.size w w'))
        case atStart => exact ⟨(0), (([] : List Int)), (.slice none 0 0), (by first | rfl | (simp; done) | (simp [*]; done)), H', ⟨Nat.le_refl _⟩, ⟨by first | exact Kd.R_nil _ _ _ _ _ | exact Kd.N_nil _ _ _ _ _ | exact Kd.V_nil _ _ _ _ _ | exact Kd.Q_nil _ _ _ _ _ | exact Kd.S_nil _ _ _ _ _⟩, ⟨by (with_reducible repeat (first | refine blk_drewN ?_ _ | refine blk_drew ?_ | refine blk_alloc ?_ _)); refine blk_far ?_ NB105_106.out _; (with_reducible repeat (first | refine blk_drewN ?_ _ | refine blk_drew ?_ | refine blk_alloc ?_ _)); refine blk_far ?_ NB105_106.out _; (with_reducible repeat (first | refine blk_drewN ?_ _ | refine blk_drew ?_ | refine blk_alloc ?_ _)); refine blk_far ?_ NB105_106.out _; (with_reducible repeat (first | refine blk_drewN ?_ _ | refine blk_drew ?_ | refine blk_alloc ?_ _)); refine blk_far ?_ NB105_106.out _; (with_reducible repeat (first | refine blk_drewN ?_ _ | refine blk_drew ?_ | refine blk_alloc ?_ _)); refine blk_far ?_ NB105_106.out _; (with_reducible repeat (first | refine blk_drewN ?_ _ | refine blk_drew ?_ | refine blk_alloc ?_ _)); exact BK105.out⟩, ⟨by (with_reducible repeat (first | refine blk_drewN ?_ _ | refine blk_drew ?_ | refine blk_alloc ?_ _)); refine blk_put (cs := #[.slice none 0 0, .int .i64 a1, .int .i64 (-1), .bool false, .int .i64 0]) ?_ 4 _ rfl; (with_reducible repeat (first | refine blk_drewN ?_ _ | refine blk_drew ?_ | refine blk_alloc ?_ _)); refine blk_put (cs := #[.slice none 0 0, .int .i64 a1, .int .i64 (-1), .bool false, .int .i64 0]) ?_ 3 _ rfl; (with_reducible repeat (first | refine blk_drewN ?_ _ | refine blk_drew ?_ | refine blk_alloc ?_ _)); refine blk_put (cs := #[.slice none 0 0, .int .i64 a1, .int .i64 0, .bool false, .int .i64 0]) ?_ 2 _ rfl; (with_reducible repeat (first | refine blk_drewN ?_ _ | refine blk_drew ?_ | refine blk_alloc ?_ _)); refine blk_put (cs := #[.slice none 0 0, .int .i64 0, .int .i64 0, .bool false, .int .i64 0]) ?_ 1 _ rfl; (with_reducible repeat (first | refine blk_drewN ?_ _ | refine blk_drew ?_ | refine blk_alloc ?_ _)); refine blk_put (cs := #[.slice none 0 0, .int .i64 0, .int .i64 0, .bool false, .int .i64 0]) ?_ 0 _ rfl; (with_reducible repeat (first | refine blk_drewN ?_ _ | refine blk_drew ?_ | refine blk_alloc ?_ _)); exact BK106.out⟩, ⟨by repeat (first | (with_reducible first | exact HB.out | apply below_alloc | apply pw_below_drewN | apply below_drew1 | refine below_set ?_ GE105.out | refine below_set ?_ GE106.out) | exact HB.out)⟩⟩
        case round =>
          clear H'
          try clear c1
          try clear c2
          try clear p2
          try clear c5
          try clear c5b0
          try clear c6
          try clear c6b0
          try clear c7
          try clear c7b0
          try clear c8
          try clear c11
          try clear hcz12_0
          try clear hcz12_1
          try clear hcz12_2
          try clear hcz12_3
          try clear hcz12_4
          try clear hcz9_0
          try clear hcz9_1
          try clear hcz9_2
          try clear hcz9_3
          try clear hcz9_4
          try clear hfz12_0
          try clear hfz12_1
          try clear hfz12_2
          try clear hfz12_3
          try clear hfz12_4
          try clear hfz9_0
          try clear hfz9_1
          try clear hfz9_2
          try clear hfz9_3
          try clear hfz9_4
          try clear p2
          obtain ⟨x7_2, x107000_2, u107000, rfl, HA, HK2, HO_107000, BK105, BK106, HB⟩ := hrel
          cases gk with
          | zero => exact absurd HA.out (by simp [blockhouseref04_New.l0])
          | succ k2 =>
            have H := HA.out
            clear HA
            simp only [blockhouseref04_New.l0] at H
            by_cases c13 : x7_2 < (wrap64 (a0 * 64))
            · rw [if_pos c13] at H
              have c13b0 : decide (x7_2 < (wrap64 (a0 * 64))) = true := decide_eq_true c13
              clear c13
              by_cases c14 : x107000_2.length < 35184372088832
              · rw [if_pos c14] at H
                have LMc14 := Aside0.mk c14
                clear c14
                obtain ⟨y107, hy107⟩ : ∃ y_ : List Int, y_ = (x107000_2 ++ [4294967295]) := ⟨_, rfl⟩
                replace H : (blockhouseref04_New.l0 k2 a0 (wrap64 (x7_2 + 1)) y107 a1 (-1) false (-1)) = some (r1, r2, r3, r4, r5, r6) := by first | (rw [hy107]; with_reducible exact H) | (have H2_ := (Option.bind_some _ _).symm.trans H; rw [hy107]; with_reducible exact H2_) | (have H2_ := (Option.bind_some _ _).symm.trans H; with_reducible exact H2_) | with_reducible exact H | (rw [hy107]; exact H) | exact H
                have Ny107 := Aside0.mk hy107
                clear hy107
                have H' := Aside0.mk H
                clear H
                have hnb15 := NB106_105.out
                have hnc15 := NB105_106.out
                have hcz16_0 : wr.cell? ⟨gb106, 0, none⟩ = some (u107000) := (blk_cell BK106.out 0).trans rfl
                have hcz16_1 : wr.cell? ⟨gb106, 1, none⟩ = some (.int .i64 a1) := (blk_cell BK106.out 1).trans rfl
                have hcz16_2 : wr.cell? ⟨gb106, 2, none⟩ = some (.int .i64 (-1)) := (blk_cell BK106.out 2).trans rfl
                have hcz16_3 : wr.cell? ⟨gb106, 3, none⟩ = some (.bool false) := (blk_cell BK106.out 3).trans rfl
                have hcz16_4 : wr.cell? ⟨gb106, 4, none⟩ = some (.int .i64 (-1)) := (blk_cell BK106.out 4).trans rfl
                have hfz16_0 := blk_frozen BK106.out 0
                have hfz16_1 := blk_frozen BK106.out 1
                have hfz16_2 := blk_frozen BK106.out 2
                have hfz16_3 := blk_frozen BK106.out 3
                have hfz16_4 := blk_frozen BK106.out 4
                go_wp2_with (first | ((with_reducible refine gate_builtin (b := .append) (xs := #[.tmp 33, .tmp 34]) rfl ?_); at_builtin; refine Kd.R_append (Kd.int .u32) (w0 := w) w.heap.size rfl (.tmp 33) (.tmp 34) 22 48 (.int .u32 0) 4 rfl Try.underlying22 info48 rfl (by decide) (by omega) u107000 x107000_2 4294967295 [.int .u32 4294967295] (fun _ => True) (fun _ => False) rfl rfl ?aP (fun _ hk => hk.elim) ?aF ?aO ?aB ?aS ?aL ?_; (case aP => exact rfl); (case aB => exact (by repeat (first | (with_reducible first | exact HB.out | apply below_alloc | apply pw_below_drewN | apply below_drew1 | refine below_set ?_ GE105.out | refine below_set ?_ GE106.out) | exact HB.out))); (case aF => exact (fun _ _ => trivial)); (case aO => exact (by (with_reducible repeat (first | apply Kd.R_alloc | apply Kd.R_drewN | apply Kd.R_drew)); exact HO_107000.out)); (case aS => exact (below_size (by repeat (first | (with_reducible first | exact HB.out | apply below_alloc | apply pw_below_drewN | apply below_drew1 | refine below_set ?_ GE105.out | refine below_set ?_ GE106.out) | exact HB.out)))); (case aL => have := LMc14.out; omega); intro v108 w17 ho hb hg hat; rw [← Ny107.out] at ho; have n0_ := Aside0.mk (blk_grown (g := gb105) (o := .cells #[.slice none 0 0, .int .i64 0, .int .i64 0, .bool false, .int .i64 0] 65 (0, 0)) (by (with_reducible repeat (first | refine blk_drewN ?_ _ | refine blk_drew ?_ | refine blk_alloc ?_ _)); exact BK105.out) hg (Kd.R_ne HO_107000.out BK105.out (by decide))); have n1_ := Aside0.mk (blk_grown (g := gb106) (o := .cells #[u107000, .int .i64 a1, .int .i64 (-1), .bool false, .int .i64 (-1)] 65 (0, 0)) (by (with_reducible repeat (first | refine blk_drewN ?_ _ | refine blk_drew ?_ | refine blk_alloc ?_ _)); exact BK106.out) hg (Kd.R_ne HO_107000.out BK106.out (by decide))); have n2_ := Aside0.mk (hb); have n3_ := Aside0.mk (ho); clear BK105; clear BK106; clear HB; clear HO_107000; have BK105 := n0_; have BK106 := n1_; have HB := n2_; have HO109 := n3_; clear n0_ n1_ n2_ n3_; clear ho hb hg hat; obtain ⟨Ao18, co18, eo18⟩ := Kd.R_slice HO109.out; subst eo18; have hcz19_0 : w17.cell? ⟨gb106, 0, none⟩ = some (u107000) := (blk_cell BK106.out 0).trans rfl; have hcz19_1 : w17.cell? ⟨gb106, 1, none⟩ = some (.int .i64 a1) := (blk_cell BK106.out 1).trans rfl; have hcz19_2 : w17.cell? ⟨gb106, 2, none⟩ = some (.int .i64 (-1)) := (blk_cell BK106.out 2).trans rfl; have hcz19_3 : w17.cell? ⟨gb106, 3, none⟩ = some (.bool false) := (blk_cell BK106.out 3).trans rfl; have hcz19_4 : w17.cell? ⟨gb106, 4, none⟩ = some (.int .i64 (-1)) := (blk_cell BK106.out 4).trans rfl; have hfz19_0 := blk_frozen BK106.out 0; have hfz19_1 := blk_frozen BK106.out 1; have hfz19_2 := blk_frozen BK106.out 2; have hfz19_3 := blk_frozen BK106.out 3; have hfz19_4 := blk_frozen BK106.out 4))
                go_roundg k2
                case measure => have := HJ2.out; have := HK2.out; omega
                case rel => exact ⟨(wrap64 (x7_2 + 1)), (y107), (.slice Ao18 y107.length co18), (by first | rfl | (simp; done) | (simp [*]; done)), H', ⟨by have := HJ2.out; have := HK2.out; omega⟩, ⟨by (with_reducible repeat (first | apply Kd.R_alloc | apply Kd.R_drewN | apply Kd.R_drew)); exact Kd.R_mono (Kd.R_far (p := ⟨gb106, 0, none⟩) (Kd.R_types HO109.out BK106.out (by decide)) (fun _ hk => hk.2) (.slice Ao18 y107.length co18)) (fun _ hk => trivial)⟩, ⟨by (with_reducible repeat (first | refine blk_drewN ?_ _ | refine blk_drew ?_ | refine blk_alloc ?_ _)); refine blk_far ?_ NB105_106.out _; (with_reducible repeat (first | refine blk_drewN ?_ _ | refine blk_drew ?_ | refine blk_alloc ?_ _)); exact BK105.out⟩, ⟨by (with_reducible repeat (first | refine blk_drewN ?_ _ | refine blk_drew ?_ | refine blk_alloc ?_ _)); refine blk_put (cs := #[u107000, .int .i64 a1, .int .i64 (-1), .bool false, .int .i64 (-1)]) ?_ 0 _ rfl; (with_reducible repeat (first | refine blk_drewN ?_ _ | refine blk_drew ?_ | refine blk_alloc ?_ _)); exact BK106.out⟩, ⟨by repeat (first | (with_reducible first | exact HB.out | apply below_alloc | apply pw_below_drewN | apply below_drew1 | refine below_set ?_ GE105.out | refine below_set ?_ GE106.out) | exact HB.out)⟩⟩
              · rw [if_neg c14] at H
                exact absurd H (by simp)
            · rw [if_neg c13] at H
              have c13b0 : decide (x7_2 < (wrap64 (a0 * 64))) = false := decide_eq_false c13
              clear c13
              simp only [Option.some.injEq, Prod.mk.injEq] at H
              obtain ⟨rfl, rfl, rfl, rfl, rfl, rfl⟩ := H
              have hnb20 := NB106_105.out
              have hnc20 := NB105_106.out
              have hcz21_0 : wr.cell? ⟨gb106, 0, none⟩ = some (u107000) := (blk_cell BK106.out 0).trans rfl
              have hcz21_1 : wr.cell? ⟨gb106, 1, none⟩ = some (.int .i64 a1) := (blk_cell BK106.out 1).trans rfl
              have hcz21_2 : wr.cell? ⟨gb106, 2, none⟩ = some (.int .i64 (-1)) := (blk_cell BK106.out 2).trans rfl
              have hcz21_3 : wr.cell? ⟨gb106, 3, none⟩ = some (.bool false) := (blk_cell BK106.out 3).trans rfl
              have hcz21_4 : wr.cell? ⟨gb106, 4, none⟩ = some (.int .i64 (-1)) := (blk_cell BK106.out 4).trans rfl
              have hfz21_0 := blk_frozen BK106.out 0
              have hfz21_1 := blk_frozen BK106.out 1
              have hfz21_2 := blk_frozen BK106.out 2
              have hfz21_3 := blk_frozen BK106.out 3
              have hfz21_4 := blk_frozen BK106.out 4
              obtain ⟨Ao22, co22, eo22⟩ := Kd.R_slice HO_107000.out
              subst eo22
              have hcz23_0 : wr.cell? ⟨gb105, 0, none⟩ = some (.slice none 0 0) := (blk_cell BK105.out 0).trans rfl
              have hcz23_1 : wr.cell? ⟨gb105, 1, none⟩ = some (.int .i64 0) := (blk_cell BK105.out 1).trans rfl
              have hcz23_2 : wr.cell? ⟨gb105, 2, none⟩ = some (.int .i64 0) := (blk_cell BK105.out 2).trans rfl
              have hcz23_3 : wr.cell? ⟨gb105, 3, none⟩ = some (.bool false) := (blk_cell BK105.out 3).trans rfl
              have hcz23_4 : wr.cell? ⟨gb105, 4, none⟩ = some (.int .i64 0) := (blk_cell BK105.out 4).trans rfl
              have hfz23_0 := blk_frozen BK105.out 0
              have hfz23_1 := blk_frozen BK105.out 1
              have hfz23_2 := blk_frozen BK105.out 2
              have hfz23_3 := blk_frozen BK105.out 3
              have hfz23_4 := blk_frozen BK105.out 4
              go_wp2
              refine bodyPost_ret (results_ct rfl _ _ gb105 65 #[.slice Ao22 x107000_2.length co22, .int .i64 a1, .int .i64 (-1), .bool false, .int .i64 (-1)] (0, 0) _ rfl (by (with_reducible repeat (first | refine blk_drewN ?_ _ | refine blk_drew ?_ | refine blk_alloc ?_ _)); refine blk_put (cs := #[.slice Ao22 x107000_2.length co22, .int .i64 a1, .int .i64 (-1), .bool false, .int .i64 0]) ?_ 4 _ rfl; (with_reducible repeat (first | refine blk_drewN ?_ _ | refine blk_drew ?_ | refine blk_alloc ?_ _)); refine blk_put (cs := #[.slice Ao22 x107000_2.length co22, .int .i64 a1, .int .i64 (-1), .bool false, .int .i64 0]) ?_ 3 _ rfl; (with_reducible repeat (first | refine blk_drewN ?_ _ | refine blk_drew ?_ | refine blk_alloc ?_ _)); refine blk_put (cs := #[.slice Ao22 x107000_2.length co22, .int .i64 a1, .int .i64 0, .bool false, .int .i64 0]) ?_ 2 _ rfl; (with_reducible repeat (first | refine blk_drewN ?_ _ | refine blk_drew ?_ | refine blk_alloc ?_ _)); refine blk_put (cs := #[.slice Ao22 x107000_2.length co22, .int .i64 0, .int .i64 0, .bool false, .int .i64 0]) ?_ 1 _ rfl; (with_reducible repeat (first | refine blk_drewN ?_ _ | refine blk_drew ?_ | refine blk_alloc ?_ _)); refine blk_put (cs := #[.slice none 0 0, .int .i64 0, .int .i64 0, .bool false, .int .i64 0]) ?_ 0 _ rfl; (with_reducible repeat (first | refine blk_drewN ?_ _ | refine blk_drew ?_ | refine blk_alloc ?_ _)); exact BK105.out) Try.underlying65 rfl (by kernel_rfl)) rfl ?_
              exact ⟨_, by first | rfl | (simp [errW_none, errW_some] <;> rfl) | (simp [*, errW_none, errW_some] <;> rfl), by (with_reducible repeat (first | apply Kd.R_alloc | apply Kd.R_drewN | apply Kd.R_drew)); exact Kd.R_mono (Kd.R_far (p := ⟨gb105, 4, none⟩) (Kd.R_far (p := ⟨gb105, 3, none⟩) (Kd.R_far (p := ⟨gb105, 2, none⟩) (Kd.R_far (p := ⟨gb105, 1, none⟩) (Kd.R_far (p := ⟨gb105, 0, none⟩) (Kd.R_types HO_107000.out BK105.out (by decide)) (fun _ hk => hk.2) (.slice Ao22 x107000_2.length co22)) (fun _ hk => hk.2) (.int .i64 a1)) (fun _ hk => hk.2) (.int .i64 (-1))) (fun _ hk => hk.2) (.bool false)) (fun _ hk => hk.2) (.int .i64 (-1))) (fun _ hk => trivial), by repeat (first | (with_reducible first | exact HB.out | apply below_alloc | apply pw_below_drewN | apply below_drew1 | refine below_set ?_ GE105.out | refine below_set ?_ GE106.out) | exact HB.out)⟩

end Go.Proofs.Ytplngfphklpicaa.PDrivePlays

-- one function of what print.sh printed for DrivePlays (printcut.py)
namespace Go.Proofs.Ytplngfphklpicaa.PDrivePlays
open Go.RowKit Go.Proofs.YtplngfphklpicaaW.PrintWords Go.Proofs.YtplngfphklpicaaW.PrintLast Go.Proofs.YtplngfphklpicaaW.PrintMore
attribute [local go_sem] max2_int min2_int max_two min_two max_three min_three max_four min_four   -- for this text's walks alone
set_option linter.unusedVariables false
set_option linter.unusedSimpArgs false

-- NOT PRINTED: function 51 (nor_Nor_none)

-- NOT PRINTED: function 22 (nor_Nor_Down)

-- NOT PRINTED: function 43 (drive_Drive_none)

-- NOT PRINTED: function 14 (drive_Drive_Sectors)

-- NOT PRINTED: function 15 (drive_Drive_Size)

/-! ### blockhouseref04_Nor_Sectors: function 53 -/
def blockhouseref04_Nor_Sectors.f (l0_0 : List Int) (a0_1 : Int) (a0_2 : Int) (a0_3 : Bool) (a0_4 : Int) : Option (Int) := some (wrap64 ((l0_0.length : Int) / 64))
set_option maxHeartbeats 8000000 in
set_option maxRecDepth 100000 in
theorem blockhouseref04_Nor_Sectors.calls (A0_0 : Option Addr) (c0_0 : Nat) (l0_0 : List Int) (a0_1 : Int) (a0_2 : Int) (a0_3 : Bool) (a0_4 : Int) (r : Int) (w : World) (hr0_0 : Kd.C (Kd.int .u32) w A0_0 l0_0.length l0_0) (hc0_0 : l0_0.length ≤ c0_0) (h : blockhouseref04_Nor_Sectors.f l0_0 a0_1 a0_2 a0_3 a0_4 = some r) :
    Calls Try.prog 53 #[.agg #[.slice A0_0 l0_0.length c0_0, .int .i64 a0_1, .int .i64 a0_2, .bool a0_3, .int .i64 a0_4]] w fun e w' => e = .returned (.int .i64 r) ∧ Below w.heap.size w w' := by
  have hu65 := Try.underlying65
  have HR0_0 := Aside0.mk hr0_0
  have HC0_0 := Aside0.mk hc0_0
  clear hr0_0 hc0_0
  have HB := Aside0.mk (Below.refl w.heap.size w)
  have H : (some (wrap64 ((l0_0.length : Int) / 64))) = some r := h
  clear h
  obtain rfl := Option.some.inj H
  go_enter Try.func53, Try.ntmps53
  go_wp2_with (first | ((with_reducible refine gate_dst (N := 1) rfl ?_); refine box_event ?hg (N := 1) ?hd (cs := #[.slice A0_0 l0_0.length c0_0, .int .i64 a0_1, .int .i64 a0_2, .bool a0_3, .int .i64 a0_4]) (t := 65) ?hr ?_; (case hd => rfl); (case hg => rfl); (case hr => first | (go_simp; done) | (go_simp; rfl)); intro gb110 hg w2 hbox hb; have n0_ := Aside0.mk (below_step (by repeat (first | (with_reducible first | exact HB.out | apply below_alloc | apply pw_below_drewN | apply below_drew1) | exact HB.out)) hb); have n1_ := Aside0.mk (hbox); have n2_ := Aside0.mk ((by rw [hg]; exact (below_size (by repeat (first | (with_reducible first | exact HB.out | apply below_alloc | apply pw_below_drewN | apply below_drew1) | exact HB.out))) : w.heap.size ≤ gb110)); have n3_ := Aside0.mk ((by rw [hg]; exact (below_size (by repeat (first | (with_reducible first | exact HB.out | apply below_alloc | apply pw_below_drewN | apply below_drew1) | exact HB.out))) : w.heap.size ≤ gb110)); clear HB; have HB := n0_; have BK110 := n1_; have GW110 := n2_; have GE110 := n3_; clear n0_ n1_ n2_ n3_; clear hb hbox hg; have hcz3_0 : w2.cell? ⟨gb110, 0, none⟩ = some (.slice A0_0 l0_0.length c0_0) := (blk_cell BK110.out 0).trans rfl; have hcz3_1 : w2.cell? ⟨gb110, 1, none⟩ = some (.int .i64 a0_1) := (blk_cell BK110.out 1).trans rfl; have hcz3_2 : w2.cell? ⟨gb110, 2, none⟩ = some (.int .i64 a0_2) := (blk_cell BK110.out 2).trans rfl; have hcz3_3 : w2.cell? ⟨gb110, 3, none⟩ = some (.bool a0_3) := (blk_cell BK110.out 3).trans rfl; have hcz3_4 : w2.cell? ⟨gb110, 4, none⟩ = some (.int .i64 a0_4) := (blk_cell BK110.out 4).trans rfl; have hfz3_0 := blk_frozen BK110.out 0; have hfz3_1 := blk_frozen BK110.out 1; have hfz3_2 := blk_frozen BK110.out 2; have hfz3_3 := blk_frozen BK110.out 3; have hfz3_4 := blk_frozen BK110.out 4))
  go_ret
  exact ⟨by first | rfl | (simp [errW_none, errW_some] <;> rfl) | (simp [*, errW_none, errW_some] <;> rfl), by repeat (first | (with_reducible first | exact HB.out | apply below_alloc | apply pw_below_drewN | apply below_drew1 | refine below_set ?_ GE110.out) | exact HB.out)⟩

end Go.Proofs.Ytplngfphklpicaa.PDrivePlays

-- one function of what print.sh printed for DrivePlays (printcut.py)
namespace Go.Proofs.Ytplngfphklpicaa.PDrivePlays
open Go.RowKit Go.Proofs.YtplngfphklpicaaW.PrintWords Go.Proofs.YtplngfphklpicaaW.PrintLast Go.Proofs.YtplngfphklpicaaW.PrintMore
attribute [local go_sem] max2_int min2_int max_two min_two max_three min_three max_four min_four   -- for this text's walks alone
set_option linter.unusedVariables false
set_option linter.unusedSimpArgs false

-- NOT PRINTED: function 51 (nor_Nor_none)

-- NOT PRINTED: function 22 (nor_Nor_Down)

-- NOT PRINTED: function 43 (drive_Drive_none)

-- NOT PRINTED: function 14 (drive_Drive_Sectors)

-- NOT PRINTED: function 15 (drive_Drive_Size)

/-! ### blockhouseref05_Drive_Part: function 30 -/
def blockhouseref05_Drive_Part.f (a0_0 : Int) (a0_1 : Int) (a1 : Int) (a2 : Int) : Option (Int × Int × Int) := if a2 < 1 then (some (0, 0, 2)) else (if a1 < 0 then (some (0, 0, 2)) else (if a1 > a0_1 then (some (0, 0, 2)) else (if a2 > (wrap64 (a0_1 - a1)) then (some (0, 0, 2)) else (some (wrap64 (a0_0 + a1), a2, 0)))))
set_option maxHeartbeats 8000000 in
set_option maxRecDepth 100000 in
theorem blockhouseref05_Drive_Part.calls (a0_0 : Int) (a0_1 : Int) (a1 : Int) (a2 : Int) (r1 : Int) (r2 : Int) (r3 : Int) (w : World) (h : blockhouseref05_Drive_Part.f a0_0 a0_1 a1 a2 = some (r1, r2, r3)) :
    Calls Try.prog 30 #[.agg #[.int .i64 a0_0, .int .i64 a0_1], .int .i64 a1, .int .i64 a2] w fun e w' => e = .returned (.tuple #[.agg #[.int .i64 r1, .int .i64 r2], .int .i64 r3]) ∧ Below w.heap.size w w' := by
  have hu69 := Try.underlying69
  have HB := Aside0.mk (Below.refl w.heap.size w)
  have H : (if a2 < 1 then (some (0, 0, 2)) else (if a1 < 0 then (some (0, 0, 2)) else (if a1 > a0_1 then (some (0, 0, 2)) else (if a2 > (wrap64 (a0_1 - a1)) then (some (0, 0, 2)) else (some (wrap64 (a0_0 + a1), a2, 0)))))) = some (r1, r2, r3) := h
  clear h
  by_cases c4 : a2 < 1
  · rw [if_pos c4] at H
    have c4b0 : decide (a2 < 1) = true := decide_eq_true c4
    clear c4
    simp only [Option.some.injEq, Prod.mk.injEq] at H
    obtain ⟨rfl, rfl, rfl⟩ := H
    go_enter Try.func30, Try.ntmps30
    go_wp2_with (first | ((with_reducible refine gate_dst (N := 3) rfl ?_); refine box_event ?hg (N := 3) ?hd (cs := #[.int .i64 a0_0, .int .i64 a0_1]) (t := 69) ?hr ?_; (case hd => rfl); (case hg => rfl); (case hr => first | (go_simp; done) | (go_simp; rfl)); intro gb115 hg w5 hbox hb; have n0_ := Aside0.mk (below_step (by repeat (first | (with_reducible first | exact HB.out | apply below_alloc | apply pw_below_drewN | apply below_drew1) | exact HB.out)) hb); have n1_ := Aside0.mk (hbox); have n2_ := Aside0.mk ((by rw [hg]; exact (below_size (by repeat (first | (with_reducible first | exact HB.out | apply below_alloc | apply pw_below_drewN | apply below_drew1) | exact HB.out))) : w.heap.size ≤ gb115)); have n3_ := Aside0.mk ((by rw [hg]; exact (below_size (by repeat (first | (with_reducible first | exact HB.out | apply below_alloc | apply pw_below_drewN | apply below_drew1) | exact HB.out))) : w.heap.size ≤ gb115)); clear HB; have HB := n0_; have BK115 := n1_; have GW115 := n2_; have GE115 := n3_; clear n0_ n1_ n2_ n3_; clear hb hbox hg) | ((with_reducible refine gate_dst (N := 6) rfl ?_); refine box_event ?hg (N := 6) ?hd (cs := #[.int .i64 0, .int .i64 0]) (t := 69) ?hr ?_; (case hd => rfl); (case hg => rfl); (case hr => first | (go_simp; done) | (go_simp; rfl)); intro gb116 hg w6 hbox hb; have n0_ := Aside0.mk (blk_below (g := gb115) (o := .cells #[.int .i64 a0_0, .int .i64 a0_1] 69 (0, 0)) (by (with_reducible repeat (first | refine blk_drewN ?_ _ | refine blk_drew ?_ | refine blk_alloc ?_ _)); exact BK115.out) hb); have n1_ := Aside0.mk (below_step (by repeat (first | (with_reducible first | exact HB.out | apply below_alloc | apply pw_below_drewN | apply below_drew1 | refine below_set ?_ GE115.out) | exact HB.out)) hb); have n2_ := Aside0.mk (hbox); have n3_ := Aside0.mk ((by rw [hg]; exact (below_size (by repeat (first | (with_reducible first | exact HB.out | apply below_alloc | apply pw_below_drewN | apply below_drew1 | refine below_set ?_ GE115.out) | exact HB.out))) : w.heap.size ≤ gb116)); have n4_ := Aside0.mk ((by rw [hg]; exact (below_size (by repeat (first | (with_reducible first | exact HB.out | apply below_alloc | apply pw_below_drewN | apply below_drew1 | refine below_set ?_ GE115.out) | exact HB.out))) : w.heap.size ≤ gb116)); have n5_ := Aside0.mk ((by rw [hg]; exact Nat.ne_of_lt (blk_lt (g := gb115) (o := .cells #[.int .i64 a0_0, .int .i64 a0_1] 69 (0, 0)) (by (with_reducible repeat (first | refine blk_drewN ?_ _ | refine blk_drew ?_ | refine blk_alloc ?_ _)); exact BK115.out)) : gb115 ≠ gb116)); have n6_ := Aside0.mk ((by rw [hg]; exact Nat.ne_of_gt (blk_lt (g := gb115) (o := .cells #[.int .i64 a0_0, .int .i64 a0_1] 69 (0, 0)) (by (with_reducible repeat (first | refine blk_drewN ?_ _ | refine blk_drew ?_ | refine blk_alloc ?_ _)); exact BK115.out)) : gb116 ≠ gb115)); clear BK115; clear HB; have BK115 := n0_; have HB := n1_; have BK116 := n2_; have GW116 := n3_; have GE116 := n4_; have NB115_116 := n5_; have NB116_115 := n6_; clear n0_ n1_ n2_ n3_ n4_ n5_ n6_; clear hb hbox hg; have hnb7 := NB116_115.out; have hnc7 := NB115_116.out; have hcz8_0 : w6.cell? ⟨gb116, 0, none⟩ = some (.int .i64 0) := (blk_cell BK116.out 0).trans rfl; have hcz8_1 : w6.cell? ⟨gb116, 1, none⟩ = some (.int .i64 0) := (blk_cell BK116.out 1).trans rfl; have hfz8_0 := blk_frozen BK116.out 0; have hfz8_1 := blk_frozen BK116.out 1))
    refine bodyPost_ret (results_ct rfl _ _ gb116 69 #[.int .i64 0, .int .i64 0] (0, 0) _ rfl (by (with_reducible repeat (first | refine blk_drewN ?_ _ | refine blk_drew ?_ | refine blk_alloc ?_ _)); refine blk_put (cs := #[.int .i64 0, .int .i64 0]) ?_ 1 _ rfl; (with_reducible repeat (first | refine blk_drewN ?_ _ | refine blk_drew ?_ | refine blk_alloc ?_ _)); refine blk_put (cs := #[.int .i64 0, .int .i64 0]) ?_ 0 _ rfl; (with_reducible repeat (first | refine blk_drewN ?_ _ | refine blk_drew ?_ | refine blk_alloc ?_ _)); exact BK116.out) Try.underlying69 rfl (by kernel_rfl)) rfl ?_
    exact ⟨by first | rfl | (simp [errW_none, errW_some] <;> rfl) | (simp [*, errW_none, errW_some] <;> rfl), by repeat (first | (with_reducible first | exact HB.out | apply below_alloc | apply pw_below_drewN | apply below_drew1 | refine below_set ?_ GE115.out | refine below_set ?_ GE116.out) | exact HB.out)⟩
  · rw [if_neg c4] at H
    have c4b0 : decide (a2 < 1) = false := decide_eq_false c4
    clear c4
    by_cases c9 : a1 < 0
    · rw [if_pos c9] at H
      have c9b0 : decide (a1 < 0) = true := decide_eq_true c9
      clear c9
      simp only [Option.some.injEq, Prod.mk.injEq] at H
      obtain ⟨rfl, rfl, rfl⟩ := H
      go_enter Try.func30, Try.ntmps30
      go_wp2_with (first | ((with_reducible refine gate_dst (N := 3) rfl ?_); refine box_event ?hg (N := 3) ?hd (cs := #[.int .i64 a0_0, .int .i64 a0_1]) (t := 69) ?hr ?_; (case hd => rfl); (case hg => rfl); (case hr => first | (go_simp; done) | (go_simp; rfl)); intro gb115 hg w10 hbox hb; have n0_ := Aside0.mk (below_step (by repeat (first | (with_reducible first | exact HB.out | apply below_alloc | apply pw_below_drewN | apply below_drew1) | exact HB.out)) hb); have n1_ := Aside0.mk (hbox); have n2_ := Aside0.mk ((by rw [hg]; exact (below_size (by repeat (first | (with_reducible first | exact HB.out | apply below_alloc | apply pw_below_drewN | apply below_drew1) | exact HB.out))) : w.heap.size ≤ gb115)); have n3_ := Aside0.mk ((by rw [hg]; exact (below_size (by repeat (first | (with_reducible first | exact HB.out | apply below_alloc | apply pw_below_drewN | apply below_drew1) | exact HB.out))) : w.heap.size ≤ gb115)); clear HB; have HB := n0_; have BK115 := n1_; have GW115 := n2_; have GE115 := n3_; clear n0_ n1_ n2_ n3_; clear hb hbox hg) | ((with_reducible refine gate_dst (N := 6) rfl ?_); refine box_event ?hg (N := 6) ?hd (cs := #[.int .i64 0, .int .i64 0]) (t := 69) ?hr ?_; (case hd => rfl); (case hg => rfl); (case hr => first | (go_simp; done) | (go_simp; rfl)); intro gb116 hg w11 hbox hb; have n0_ := Aside0.mk (blk_below (g := gb115) (o := .cells #[.int .i64 a0_0, .int .i64 a0_1] 69 (0, 0)) (by (with_reducible repeat (first | refine blk_drewN ?_ _ | refine blk_drew ?_ | refine blk_alloc ?_ _)); exact BK115.out) hb); have n1_ := Aside0.mk (below_step (by repeat (first | (with_reducible first | exact HB.out | apply below_alloc | apply pw_below_drewN | apply below_drew1 | refine below_set ?_ GE115.out) | exact HB.out)) hb); have n2_ := Aside0.mk (hbox); have n3_ := Aside0.mk ((by rw [hg]; exact (below_size (by repeat (first | (with_reducible first | exact HB.out | apply below_alloc | apply pw_below_drewN | apply below_drew1 | refine below_set ?_ GE115.out) | exact HB.out))) : w.heap.size ≤ gb116)); have n4_ := Aside0.mk ((by rw [hg]; exact (below_size (by repeat (first | (with_reducible first | exact HB.out | apply below_alloc | apply pw_below_drewN | apply below_drew1 | refine below_set ?_ GE115.out) | exact HB.out))) : w.heap.size ≤ gb116)); have n5_ := Aside0.mk ((by rw [hg]; exact Nat.ne_of_lt (blk_lt (g := gb115) (o := .cells #[.int .i64 a0_0, .int .i64 a0_1] 69 (0, 0)) (by (with_reducible repeat (first | refine blk_drewN ?_ _ | refine blk_drew ?_ | refine blk_alloc ?_ _)); exact BK115.out)) : gb115 ≠ gb116)); have n6_ := Aside0.mk ((by rw [hg]; exact Nat.ne_of_gt (blk_lt (g := gb115) (o := .cells #[.int .i64 a0_0, .int .i64 a0_1] 69 (0, 0)) (by (with_reducible repeat (first | refine blk_drewN ?_ _ | refine blk_drew ?_ | refine blk_alloc ?_ _)); exact BK115.out)) : gb116 ≠ gb115)); clear BK115; clear HB; have BK115 := n0_; have HB := n1_; have BK116 := n2_; have GW116 := n3_; have GE116 := n4_; have NB115_116 := n5_; have NB116_115 := n6_; clear n0_ n1_ n2_ n3_ n4_ n5_ n6_; clear hb hbox hg; have hnb12 := NB116_115.out; have hnc12 := NB115_116.out; have hcz13_0 : w11.cell? ⟨gb116, 0, none⟩ = some (.int .i64 0) := (blk_cell BK116.out 0).trans rfl; have hcz13_1 : w11.cell? ⟨gb116, 1, none⟩ = some (.int .i64 0) := (blk_cell BK116.out 1).trans rfl; have hfz13_0 := blk_frozen BK116.out 0; have hfz13_1 := blk_frozen BK116.out 1))
      refine bodyPost_ret (results_ct rfl _ _ gb116 69 #[.int .i64 0, .int .i64 0] (0, 0) _ rfl (by (with_reducible repeat (first | refine blk_drewN ?_ _ | refine blk_drew ?_ | refine blk_alloc ?_ _)); refine blk_put (cs := #[.int .i64 0, .int .i64 0]) ?_ 1 _ rfl; (with_reducible repeat (first | refine blk_drewN ?_ _ | refine blk_drew ?_ | refine blk_alloc ?_ _)); refine blk_put (cs := #[.int .i64 0, .int .i64 0]) ?_ 0 _ rfl; (with_reducible repeat (first | refine blk_drewN ?_ _ | refine blk_drew ?_ | refine blk_alloc ?_ _)); exact BK116.out) Try.underlying69 rfl (by kernel_rfl)) rfl ?_
      exact ⟨by first | rfl | (simp [errW_none, errW_some] <;> rfl) | (simp [*, errW_none, errW_some] <;> rfl), by repeat (first | (with_reducible first | exact HB.out | apply below_alloc | apply pw_below_drewN | apply below_drew1 | refine below_set ?_ GE115.out | refine below_set ?_ GE116.out) | exact HB.out)⟩
    · rw [if_neg c9] at H
      have c9b0 : decide (a1 < 0) = false := decide_eq_false c9
      clear c9
      by_cases c14 : a1 > a0_1
      · rw [if_pos c14] at H
        have c14b0 : decide (a0_1 < a1) = true := decide_eq_true c14
        clear c14
        simp only [Option.some.injEq, Prod.mk.injEq] at H
        obtain ⟨rfl, rfl, rfl⟩ := H
        go_enter Try.func30, Try.ntmps30
        go_wp2_with (first | ((with_reducible refine gate_dst (N := 3) rfl ?_); refine box_event ?hg (N := 3) ?hd (cs := #[.int .i64 a0_0, .int .i64 a0_1]) (t := 69) ?hr ?_; (case hd => rfl); (case hg => rfl); (case hr => first | (go_simp; done) | (go_simp; rfl)); intro gb115 hg w15 hbox hb; have n0_ := Aside0.mk (below_step (by repeat (first | (with_reducible first | exact HB.out | apply below_alloc | apply pw_below_drewN | apply below_drew1) | exact HB.out)) hb); have n1_ := Aside0.mk (hbox); have n2_ := Aside0.mk ((by rw [hg]; exact (below_size (by repeat (first | (with_reducible first | exact HB.out | apply below_alloc | apply pw_below_drewN | apply below_drew1) | exact HB.out))) : w.heap.size ≤ gb115)); have n3_ := Aside0.mk ((by rw [hg]; exact (below_size (by repeat (first | (with_reducible first | exact HB.out | apply below_alloc | apply pw_below_drewN | apply below_drew1) | exact HB.out))) : w.heap.size ≤ gb115)); clear HB; have HB := n0_; have BK115 := n1_; have GW115 := n2_; have GE115 := n3_; clear n0_ n1_ n2_ n3_; clear hb hbox hg) | ((with_reducible refine gate_dst (N := 6) rfl ?_); refine box_event ?hg (N := 6) ?hd (cs := #[.int .i64 0, .int .i64 0]) (t := 69) ?hr ?_; (case hd => rfl); (case hg => rfl); (case hr => first | (go_simp; done) | (go_simp; rfl)); intro gb116 hg w16 hbox hb; have n0_ := Aside0.mk (blk_below (g := gb115) (o := .cells #[.int .i64 a0_0, .int .i64 a0_1] 69 (0, 0)) (by (with_reducible repeat (first | refine blk_drewN ?_ _ | refine blk_drew ?_ | refine blk_alloc ?_ _)); exact BK115.out) hb); have n1_ := Aside0.mk (below_step (by repeat (first | (with_reducible first | exact HB.out | apply below_alloc | apply pw_below_drewN | apply below_drew1 | refine below_set ?_ GE115.out) | exact HB.out)) hb); have n2_ := Aside0.mk (hbox); have n3_ := Aside0.mk ((by rw [hg]; exact (below_size (by repeat (first | (with_reducible first | exact HB.out | apply below_alloc | apply pw_below_drewN | apply below_drew1 | refine below_set ?_ GE115.out) | exact HB.out))) : w.heap.size ≤ gb116)); have n4_ := Aside0.mk ((by rw [hg]; exact (below_size (by repeat (first | (with_reducible first | exact HB.out | apply below_alloc | apply pw_below_drewN | apply below_drew1 | refine below_set ?_ GE115.out) | exact HB.out))) : w.heap.size ≤ gb116)); have n5_ := Aside0.mk ((by rw [hg]; exact Nat.ne_of_lt (blk_lt (g := gb115) (o := .cells #[.int .i64 a0_0, .int .i64 a0_1] 69 (0, 0)) (by (with_reducible repeat (first | refine blk_drewN ?_ _ | refine blk_drew ?_ | refine blk_alloc ?_ _)); exact BK115.out)) : gb115 ≠ gb116)); have n6_ := Aside0.mk ((by rw [hg]; exact Nat.ne_of_gt (blk_lt (g := gb115) (o := .cells #[.int .i64 a0_0, .int .i64 a0_1] 69 (0, 0)) (by (with_reducible repeat (first | refine blk_drewN ?_ _ | refine blk_drew ?_ | refine blk_alloc ?_ _)); exact BK115.out)) : gb116 ≠ gb115)); clear BK115; clear HB; have BK115 := n0_; have HB := n1_; have BK116 := n2_; have GW116 := n3_; have GE116 := n4_; have NB115_116 := n5_; have NB116_115 := n6_; clear n0_ n1_ n2_ n3_ n4_ n5_ n6_; clear hb hbox hg; have hnb17 := NB115_116.out; have hnc17 := NB116_115.out; have hcz18_0 : w16.cell? ⟨gb115, 0, none⟩ = some (.int .i64 a0_0) := (blk_cell BK115.out 0).trans rfl; have hcz18_1 : w16.cell? ⟨gb115, 1, none⟩ = some (.int .i64 a0_1) := (blk_cell BK115.out 1).trans rfl; have hfz18_0 := blk_frozen BK115.out 0; have hfz18_1 := blk_frozen BK115.out 1; have hcz19_0 : w16.cell? ⟨gb116, 0, none⟩ = some (.int .i64 0) := (blk_cell BK116.out 0).trans rfl; have hcz19_1 : w16.cell? ⟨gb116, 1, none⟩ = some (.int .i64 0) := (blk_cell BK116.out 1).trans rfl; have hfz19_0 := blk_frozen BK116.out 0; have hfz19_1 := blk_frozen BK116.out 1))
        refine bodyPost_ret (results_ct rfl _ _ gb116 69 #[.int .i64 0, .int .i64 0] (0, 0) _ rfl (by (with_reducible repeat (first | refine blk_drewN ?_ _ | refine blk_drew ?_ | refine blk_alloc ?_ _)); refine blk_put (cs := #[.int .i64 0, .int .i64 0]) ?_ 1 _ rfl; (with_reducible repeat (first | refine blk_drewN ?_ _ | refine blk_drew ?_ | refine blk_alloc ?_ _)); refine blk_put (cs := #[.int .i64 0, .int .i64 0]) ?_ 0 _ rfl; (with_reducible repeat (first | refine blk_drewN ?_ _ | refine blk_drew ?_ | refine blk_alloc ?_ _)); exact BK116.out) Try.underlying69 rfl (by kernel_rfl)) rfl ?_
        exact ⟨by first | rfl | (simp [errW_none, errW_some] <;> rfl) | (simp [*, errW_none, errW_some] <;> rfl), by repeat (first | (with_reducible first | exact HB.out | apply below_alloc | apply pw_below_drewN | apply below_drew1 | refine below_set ?_ GE115.out | refine below_set ?_ GE116.out) | exact HB.out)⟩
      · rw [if_neg c14] at H
        have c14b0 : decide (a0_1 < a1) = false := decide_eq_false c14
        clear c14
        by_cases c20 : a2 > (wrap64 (a0_1 - a1))
        · rw [if_pos c20] at H
          have c20b0 : decide ((wrap64 (a0_1 - a1)) < a2) = true := decide_eq_true c20
          clear c20
          simp only [Option.some.injEq, Prod.mk.injEq] at H
          obtain ⟨rfl, rfl, rfl⟩ := H
          go_enter Try.func30, Try.ntmps30
          go_wp2_with (first | ((with_reducible refine gate_dst (N := 3) rfl ?_); refine box_event ?hg (N := 3) ?hd (cs := #[.int .i64 a0_0, .int .i64 a0_1]) (t := 69) ?hr ?_; (case hd => rfl); (case hg => rfl); (case hr => first | (go_simp; done) | (go_simp; rfl)); intro gb115 hg w21 hbox hb; have n0_ := Aside0.mk (below_step (by repeat (first | (with_reducible first | exact HB.out | apply below_alloc | apply pw_below_drewN | apply below_drew1) | exact HB.out)) hb); have n1_ := Aside0.mk (hbox); have n2_ := Aside0.mk ((by rw [hg]; exact (below_size (by repeat (first | (with_reducible first | exact HB.out | apply below_alloc | apply pw_below_drewN | apply below_drew1) | exact HB.out))) : w.heap.size ≤ gb115)); have n3_ := Aside0.mk ((by rw [hg]; exact (below_size (by repeat (first | (with_reducible first | exact HB.out | apply below_alloc | apply pw_below_drewN | apply below_drew1) | exact HB.out))) : w.heap.size ≤ gb115)); clear HB; have HB := n0_; have BK115 := n1_; have GW115 := n2_; have GE115 := n3_; clear n0_ n1_ n2_ n3_; clear hb hbox hg) | ((with_reducible refine gate_dst (N := 6) rfl ?_); refine box_event ?hg (N := 6) ?hd (cs := #[.int .i64 0, .int .i64 0]) (t := 69) ?hr ?_; (case hd => rfl); (case hg => rfl); (case hr => first | (go_simp; done) | (go_simp; rfl)); intro gb116 hg w22 hbox hb; have n0_ := Aside0.mk (blk_below (g := gb115) (o := .cells #[.int .i64 a0_0, .int .i64 a0_1] 69 (0, 0)) (by (with_reducible repeat (first | refine blk_drewN ?_ _ | refine blk_drew ?_ | refine blk_alloc ?_ _)); exact BK115.out) hb); have n1_ := Aside0.mk (below_step (by repeat (first | (with_reducible first | exact HB.out | apply below_alloc | apply pw_below_drewN | apply below_drew1 | refine below_set ?_ GE115.out) | exact HB.out)) hb); have n2_ := Aside0.mk (hbox); have n3_ := Aside0.mk ((by rw [hg]; exact (below_size (by repeat (first | (with_reducible first | exact HB.out | apply below_alloc | apply pw_below_drewN | apply below_drew1 | refine below_set ?_ GE115.out) | exact HB.out))) : w.heap.size ≤ gb116)); have n4_ := Aside0.mk ((by rw [hg]; exact (below_size (by repeat (first | (with_reducible first | exact HB.out | apply below_alloc | apply pw_below_drewN | apply below_drew1 | refine below_set ?_ GE115.out) | exact HB.out))) : w.heap.size ≤ gb116)); have n5_ := Aside0.mk ((by rw [hg]; exact Nat.ne_of_lt (blk_lt (g := gb115) (o := .cells #[.int .i64 a0_0, .int .i64 a0_1] 69 (0, 0)) (by (with_reducible repeat (first | refine blk_drewN ?_ _ | refine blk_drew ?_ | refine blk_alloc ?_ _)); exact BK115.out)) : gb115 ≠ gb116)); have n6_ := Aside0.mk ((by rw [hg]; exact Nat.ne_of_gt (blk_lt (g := gb115) (o := .cells #[.int .i64 a0_0, .int .i64 a0_1] 69 (0, 0)) (by (with_reducible repeat (first | refine blk_drewN ?_ _ | refine blk_drew ?_ | refine blk_alloc ?_ _)); exact BK115.out)) : gb116 ≠ gb115)); clear BK115; clear HB; have BK115 := n0_; have HB := n1_; have BK116 := n2_; have GW116 := n3_; have GE116 := n4_; have NB115_116 := n5_; have NB116_115 := n6_; clear n0_ n1_ n2_ n3_ n4_ n5_ n6_; clear hb hbox hg; have hnb23 := NB115_116.out; have hnc23 := NB116_115.out; have hcz24_0 : w22.cell? ⟨gb115, 0, none⟩ = some (.int .i64 a0_0) := (blk_cell BK115.out 0).trans rfl; have hcz24_1 : w22.cell? ⟨gb115, 1, none⟩ = some (.int .i64 a0_1) := (blk_cell BK115.out 1).trans rfl; have hfz24_0 := blk_frozen BK115.out 0; have hfz24_1 := blk_frozen BK115.out 1; have hcz25_0 : w22.cell? ⟨gb116, 0, none⟩ = some (.int .i64 0) := (blk_cell BK116.out 0).trans rfl; have hcz25_1 : w22.cell? ⟨gb116, 1, none⟩ = some (.int .i64 0) := (blk_cell BK116.out 1).trans rfl; have hfz25_0 := blk_frozen BK116.out 0; have hfz25_1 := blk_frozen BK116.out 1))
          refine bodyPost_ret (results_ct rfl _ _ gb116 69 #[.int .i64 0, .int .i64 0] (0, 0) _ rfl (by (with_reducible repeat (first | refine blk_drewN ?_ _ | refine blk_drew ?_ | refine blk_alloc ?_ _)); refine blk_put (cs := #[.int .i64 0, .int .i64 0]) ?_ 1 _ rfl; (with_reducible repeat (first | refine blk_drewN ?_ _ | refine blk_drew ?_ | refine blk_alloc ?_ _)); refine blk_put (cs := #[.int .i64 0, .int .i64 0]) ?_ 0 _ rfl; (with_reducible repeat (first | refine blk_drewN ?_ _ | refine blk_drew ?_ | refine blk_alloc ?_ _)); exact BK116.out) Try.underlying69 rfl (by kernel_rfl)) rfl ?_
          exact ⟨by first | rfl | (simp [errW_none, errW_some] <;> rfl) | (simp [*, errW_none, errW_some] <;> rfl), by repeat (first | (with_reducible first | exact HB.out | apply below_alloc | apply pw_below_drewN | apply below_drew1 | refine below_set ?_ GE115.out | refine below_set ?_ GE116.out) | exact HB.out)⟩
        · rw [if_neg c20] at H
          have c20b0 : decide ((wrap64 (a0_1 - a1)) < a2) = false := decide_eq_false c20
          clear c20
          simp only [Option.some.injEq, Prod.mk.injEq] at H
          obtain ⟨rfl, rfl, rfl⟩ := H
          go_enter Try.func30, Try.ntmps30
          go_wp2_with (first | ((with_reducible refine gate_dst (N := 3) rfl ?_); refine box_event ?hg (N := 3) ?hd (cs := #[.int .i64 a0_0, .int .i64 a0_1]) (t := 69) ?hr ?_; (case hd => rfl); (case hg => rfl); (case hr => first | (go_simp; done) | (go_simp; rfl)); intro gb115 hg w26 hbox hb; have n0_ := Aside0.mk (below_step (by repeat (first | (with_reducible first | exact HB.out | apply below_alloc | apply pw_below_drewN | apply below_drew1) | exact HB.out)) hb); have n1_ := Aside0.mk (hbox); have n2_ := Aside0.mk ((by rw [hg]; exact (below_size (by repeat (first | (with_reducible first | exact HB.out | apply below_alloc | apply pw_below_drewN | apply below_drew1) | exact HB.out))) : w.heap.size ≤ gb115)); have n3_ := Aside0.mk ((by rw [hg]; exact (below_size (by repeat (first | (with_reducible first | exact HB.out | apply below_alloc | apply pw_below_drewN | apply below_drew1) | exact HB.out))) : w.heap.size ≤ gb115)); clear HB; have HB := n0_; have BK115 := n1_; have GW115 := n2_; have GE115 := n3_; clear n0_ n1_ n2_ n3_; clear hb hbox hg) | ((with_reducible refine gate_dst (N := 6) rfl ?_); refine box_event ?hg (N := 6) ?hd (cs := #[.int .i64 0, .int .i64 0]) (t := 69) ?hr ?_; (case hd => rfl); (case hg => rfl); (case hr => first | (go_simp; done) | (go_simp; rfl)); intro gb116 hg w27 hbox hb; have n0_ := Aside0.mk (blk_below (g := gb115) (o := .cells #[.int .i64 a0_0, .int .i64 a0_1] 69 (0, 0)) (by (with_reducible repeat (first | refine blk_drewN ?_ _ | refine blk_drew ?_ | refine blk_alloc ?_ _)); exact BK115.out) hb); have n1_ := Aside0.mk (below_step (by repeat (first | (with_reducible first | exact HB.out | apply below_alloc | apply pw_below_drewN | apply below_drew1 | refine below_set ?_ GE115.out) | exact HB.out)) hb); have n2_ := Aside0.mk (hbox); have n3_ := Aside0.mk ((by rw [hg]; exact (below_size (by repeat (first | (with_reducible first | exact HB.out | apply below_alloc | apply pw_below_drewN | apply below_drew1 | refine below_set ?_ GE115.out) | exact HB.out))) : w.heap.size ≤ gb116)); have n4_ := Aside0.mk ((by rw [hg]; exact (below_size (by repeat (first | (with_reducible first | exact HB.out | apply below_alloc | apply pw_below_drewN | apply below_drew1 | refine below_set ?_ GE115.out) | exact HB.out))) : w.heap.size ≤ gb116)); have n5_ := Aside0.mk ((by rw [hg]; exact Nat.ne_of_lt (blk_lt (g := gb115) (o := .cells #[.int .i64 a0_0, .int .i64 a0_1] 69 (0, 0)) (by (with_reducible repeat (first | refine blk_drewN ?_ _ | refine blk_drew ?_ | refine blk_alloc ?_ _)); exact BK115.out)) : gb115 ≠ gb116)); have n6_ := Aside0.mk ((by rw [hg]; exact Nat.ne_of_gt (blk_lt (g := gb115) (o := .cells #[.int .i64 a0_0, .int .i64 a0_1] 69 (0, 0)) (by (with_reducible repeat (first | refine blk_drewN ?_ _ | refine blk_drew ?_ | refine blk_alloc ?_ _)); exact BK115.out)) : gb116 ≠ gb115)); clear BK115; clear HB; have BK115 := n0_; have HB := n1_; have BK116 := n2_; have GW116 := n3_; have GE116 := n4_; have NB115_116 := n5_; have NB116_115 := n6_; clear n0_ n1_ n2_ n3_ n4_ n5_ n6_; clear hb hbox hg; have hnb28 := NB115_116.out; have hnc28 := NB116_115.out; have hcz29_0 : w27.cell? ⟨gb115, 0, none⟩ = some (.int .i64 a0_0) := (blk_cell BK115.out 0).trans rfl; have hcz29_1 : w27.cell? ⟨gb115, 1, none⟩ = some (.int .i64 a0_1) := (blk_cell BK115.out 1).trans rfl; have hfz29_0 := blk_frozen BK115.out 0; have hfz29_1 := blk_frozen BK115.out 1; have hcz30_0 : w27.cell? ⟨gb116, 0, none⟩ = some (.int .i64 0) := (blk_cell BK116.out 0).trans rfl; have hcz30_1 : w27.cell? ⟨gb116, 1, none⟩ = some (.int .i64 0) := (blk_cell BK116.out 1).trans rfl; have hfz30_0 := blk_frozen BK116.out 0; have hfz30_1 := blk_frozen BK116.out 1))
          refine bodyPost_ret (results_ct rfl _ _ gb116 69 #[.int .i64 (wrap64 (a0_0 + a1)), .int .i64 a2] (0, 0) _ rfl (by (with_reducible repeat (first | refine blk_drewN ?_ _ | refine blk_drew ?_ | refine blk_alloc ?_ _)); refine blk_put (cs := #[.int .i64 (wrap64 (a0_0 + a1)), .int .i64 0]) ?_ 1 _ rfl; (with_reducible repeat (first | refine blk_drewN ?_ _ | refine blk_drew ?_ | refine blk_alloc ?_ _)); refine blk_put (cs := #[.int .i64 0, .int .i64 0]) ?_ 0 _ rfl; (with_reducible repeat (first | refine blk_drewN ?_ _ | refine blk_drew ?_ | refine blk_alloc ?_ _)); exact BK116.out) Try.underlying69 rfl (by kernel_rfl)) rfl ?_
          exact ⟨by first | rfl | (simp [errW_none, errW_some] <;> rfl) | (simp [*, errW_none, errW_some] <;> rfl), by repeat (first | (with_reducible first | exact HB.out | apply below_alloc | apply pw_below_drewN | apply below_drew1 | refine below_set ?_ GE115.out | refine below_set ?_ GE116.out) | exact HB.out)⟩

end Go.Proofs.Ytplngfphklpicaa.PDrivePlays
