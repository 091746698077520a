/-
  What was written with OK is read so: what the walk wants.
-/
import Derived.Test.YtplngfphklpicaaDrvCopy
import Derived.Test.YtplngfphklpicaaDrvErases0
import Derived.Test.YtplngfphklpicaaDrvKeepsP
namespace Go.Proofs.Ytplngfphklpicaa
open Go.RowKit
/-- would a bit have to be set, among the first j words? -/
def anySet (s : NorS) (k : Nat) (x : List Int) (j : Nat) : Bool := (List.range j).any fun i => !(wand (x.getD i 0) (s.wd (mD.base + k + i)) == x.getD i 0)
theorem anySet_next (s : NorS) (k : Nat) (x : List Int) (j : Nat) : anySet s k x (j + 1) = (anySet s k x j || !(wand (x.getD j 0) (s.wd (mD.base + k + j)) == x.getD j 0)) := by
  unfold anySet; rw [List.range_succ, List.any_append]; simp
theorem anySet_all (s : NorS) (k : Nat) (x : List Int) : anySet s k x x.length = mD.sets s k x := rfl
def DKRel (w3 : World) (s : NorS) (k : Nat) (x : List Int) (i b : Value) (wr : World) : Prop := ∃ j : Nat, j ≤ x.length ∧ i = .int .i64 j ∧ b = .bool (anySet s k x j) ∧ wr = w3
/-- what is wanted behind j words -/
def want (W0 x : List Int) (k j i : Nat) : Int := if k ≤ i ∧ i < k + j then x.getD (i - k) 0 else W0.getD i 0
/-- the copy in block g -/
def WantAt (w : World) (g : Nat) (W0 x : List Int) (k j : Nat) : Prop := ∃ arr, Blk w g 48 arr ∧ ∀ i, i < 192 → arr[i]? = some (.int .u32 (want W0 x k j i))
theorem WantAt.cell {w : World} {g : Nat} {W0 x : List Int} {k j i : Nat} (h : WantAt w g W0 x k j) (hi : i < 192) : w.cell? ⟨g, i, none⟩ = some (.int .u32 (want W0 x k j i)) := by
  obtain ⟨arr, hb, ha⟩ := h
  rw [hb.cell i]; exact ha i hi
theorem WantAt.frozen {w : World} {g : Nat} {W0 x : List Int} {k j : Nat} (h : WantAt w g W0 x k j) (i : Nat) : w.frozen? ⟨g, i, none⟩ = false := by
  obtain ⟨arr, hb, ha⟩ := h
  exact hb.frozen i
theorem WantAt.frm {S : Nat → Prop} {w w' : World} {g : Nat} {W0 x : List Int} {k j : Nat} (h : WantAt w g W0 x k j) (hf : Frm S w w') (hs : ¬ S g) : WantAt w' g W0 x k j := by
  obtain ⟨arr, hb, ha⟩ := h
  exact ⟨arr, hb.frm hf hs, ha⟩
theorem WantAt.next {w : World} {g : Nat} {W0 x : List Int} {k j : Nat} (h : WantAt w g W0 x k j) (hk : k + j < 192) : WantAt (w.setCell ⟨g, k + j, none⟩ (.int .u32 (x.getD j 0))) g W0 x k (j + 1) := by
  obtain ⟨arr, hb, ha⟩ := h
  have hsz : k + j < arr.size := (Array.getElem?_eq_some_iff.1 (ha (k + j) hk)).1
  refine ⟨_, hb.set_ (k + j) _, fun i hi => ?_⟩
  rw [Array.getElem?_setIfInBounds]
  by_cases e : k + j = i
  · subst e
    rw [if_pos rfl, if_pos hsz]
    unfold want
    rw [if_pos (by omega), Nat.add_sub_cancel_left]
  · rw [if_neg e, ha i hi]
    unfold want
    by_cases q : k ≤ i ∧ i < k + j
    · rw [if_pos q, if_pos (by omega)]
    · rw [if_neg q, if_neg (by omega)]
/-- the copy, as a row -/
theorem WantAt.rd {w : World} {g : Nat} {W0 x : List Int} {k j : Nat} (h : WantAt w g W0 x k j) : Rd w (some ⟨g, 0, none⟩) (ints .u32 ((List.range 192).map (want W0 x k j))) := fun _ =>
  ⟨g, 0, rfl, fun i v hv => by
    have hi : i < 192 := by
      have := (List.getElem?_eq_some_iff.1 hv).1
      simpa [ints] using this
    rw [Nat.zero_add, h.cell hi, ← hv]
    simp [ints, hi]⟩
def DKRel2 (w w4 : World) (p q c g g3 : Nat) (s : NorS) (W0 x : List Int) (k m : Nat) (i : Value) (wr : World) : Prop := ∃ j : Nat, j ≤ m ∧ i = .int .i64 j ∧ Own w wr p q c s ∧ DrvAt wr g p mD ∧ WantAt wr g3 W0 x k j ∧ Frm (One g3) w4 wr
/-- what the writing did, and is found behind it -/
structure KeepsOut (s1 s0 : NorS) (k : Nat) (x : List Int) (m : Nat) (F : Int) (D : Bool) : Prop where
  e : mD.wrE s1 k x = F
  dn : (mD.wr s1 k x).down = D
  n : (mD.wr s1 k x).n = 5
  h : (mD.wr s1 k x).half = -1
  mx : m ≤ x.length
  wd : ∀ j, (mD.wr s1 k x).wd j = if mD.base + k ≤ j ∧ j < mD.base + k + m then x.getD (j - (mD.base + k)) 0 else s0.wd j
theorem KeepsOut.words {s1 s0 : NorS} {k : Nat} {x : List Int} {m : Nat} {F : Int} {D : Bool} (h : KeepsOut s1 s0 k x m F D) (hok : ((mD.wr s1 k x).crash []).Ok) : mD.words ((mD.wr s1 k x).crash []) 0 192 = (List.range 192).map (want (mD.words s0 0 192) x k m) := by
  have hb : mD.base = 64 := rfl
  have hd : mD.Ok ((mD.wr s1 k x).crash []) := mD_ok h.n
  have hl := DrvS.words_length (a := 0) (m := 192) hok hd (by decide)
  apply NorS.ext_getD
  · rw [hl]; simp
  · intro i hi
    rw [hl] at hi
    have e : ((List.range 192).map (want (mD.words s0 0 192) x k m)).getD i 0 = want (mD.words s0 0 192) x k m i := by
      rw [List.getD_eq_getElem?_getD, List.getElem?_map, List.getElem?_range hi]; rfl
    rw [DrvS.words_get hi, e, DrvS.crash_nil_wd h.h, h.wd]
    unfold want
    rw [DrvS.words_get hi]
    by_cases q : k ≤ i ∧ i < k + m
    · rw [if_pos q, if_pos (by omega), show mD.base + 0 + i - (mD.base + k) = i - k from by omega]
    · rw [if_neg q, if_neg (by omega)]
theorem keeps_set {s1 s0 : NorS} {k : Nat} {x : List Int} (hdn : s1.down = false) (hn : s1.n = 5) (hh : s1.half = -1) (hl : s1.l = s0.l) (hx : k + x.length ≤ 192) (hset : mD.sets s0 k x = true) : KeepsOut s1 s0 k x 0 50 false := by
  have hb : mD.many * 64 = 192 := rfl
  obtain ⟨h1, h2⟩ := DrvS.wr_set (d := mD) (s := s1) hdn (k := k) (x := x) (by omega) (by rw [DrvS.sets_l hl]; exact hset)
  refine ⟨h1, by rw [h2]; exact hdn, by rw [h2]; exact hn, by rw [h2]; exact hh, Nat.zero_le _, fun j => ?_⟩
  rw [h2, if_neg (by omega)]
  unfold NorS.wd; rw [hl]
theorem keeps_go {s1 s0 : NorS} {k : Nat} {x : List Int} (hok : s1.Ok) (hdn : s1.down = false) (hn : s1.n = 5) (hh : s1.half = -1) (hl : s1.l = s0.l) (hx : k + x.length ≤ 192) (hset : mD.sets s0 k x = false) (m : Nat) (hm : s1.doneN x.length = m) :
    KeepsOut s1 s0 k x m (if m = x.length then 0 else 40) (!(decide (m = x.length))) := by
  have hb : mD.many * 64 = 192 := rfl
  obtain ⟨h1, h2, h3, h4, h5⟩ := DrvS.wr_go (d := mD) (s := s1) hdn hok (mD_ok hn) (k := k) (x := x) (by omega) (by rw [DrvS.sets_l hl]; exact hset)
  rw [hm] at h1 h2 h5
  refine ⟨h1, h2, h4.trans hn, h3.trans hh, by rw [← hm]; exact NorS.doneN_le _ _, fun j => ?_⟩
  rw [h5]
  unfold NorS.wd; rw [hl]
theorem Own.of_one {w0 w w' : World} {p q c g3 : Nat} {s : NorS} (h : Own w0 w p q c s) (hf : Frm (One g3) w w') (hp : w0.heap.size ≤ g3 ∧ p ≠ g3 ∧ q ≠ g3) : Own w0 w' p q c s :=
  ⟨h.n.frm hf (fun e => hp.2.1 e) (fun e => hp.2.2 e), h.f.then_ hf (fun i hi e => by have e : i = g3 := e; omega), h.p0, h.q0⟩
theorem arms_calm {s : NorS} (h : DrvS.Calm s) (n : Nat) : (s.arms n).down = false ∧ (s.arms n).n = s.n ∧ (s.arms n).half = s.half ∧ (s.arms n).l = s.l ∧ (∀ L, (s.arms n).doneN L = min n L) := by
  have e : s.arms n = { s with arm := max (n : Int) 0 } := by unfold NorS.arms; rw [if_neg (by rw [h.dn]; simp)]
  rw [e]
  refine ⟨h.dn, rfl, rfl, rfl, fun L => ?_⟩
  unfold NorS.doneN
  simp only
  rw [if_neg (by omega)]
  omega
theorem calm_done {s : NorS} (h : DrvS.Calm s) (L : Nat) : s.doneN L = L := by
  unfold NorS.doneN; rw [h.ar]; rfl
theorem sameWords_self (n : Nat) (a : List Int) (hn : a.length = n) (A B : Option Addr) (ca cb : Nat) (w : World) (ha : Rd w A (ints .u32 a)) (hb : Rd w B (ints .u32 a)) (hla : (a.length : Int) ≤ 9223372036854775807) :
    Calls Try.prog 24 #[.slice A n ca, .slice B n cb] w fun e w' => e = .returned (.bool true) ∧ ∃ m, w' = w.drewN m := by
  subst hn
  exact (sameWords_is a a A B ca cb w ha hb hla).mono (fun e w' h => ⟨h.1.trans (by rw [same_iff.2 rfl]), h.2⟩)
end Go.Proofs.Ytplngfphklpicaa
