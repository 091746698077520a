/-
  The bytes' statements: reads, writes.
-/
import Derived.Test.YtdhcgghdimkdbaaByt7
import Derived.Lib.SlBytesConst
import Derived.Lib.SmallJoins
namespace Go.Proofs.Ytdhcgghdimkdbaa
open Go.RowKit
/-- bytes, a place, and what should be read there -/
structure TryS where
  b : List Int
  at_ : Int
  n : Int
  next : Int
  err : Int
def TryS.good (t : TryS) : Prop := gN t.b t.at_ = t.n ∧ gX t.b t.at_ = t.next ∧ gE t.b t.at_ = t.err
/-- tries in a row -/
structure TriesAt (w : World) (b o : Nat) (ts : List TryS) : Prop where
  at_ : ∀ i (h : i < ts.length), ∃ v, By w v (ts[i]'h).b ∧ (ts[i]'h).b.length ≤ 16777216 ∧
    w.cell? ⟨b, o + i * 5, none⟩ = some v ∧ w.cell? ⟨b, o + i * 5 + 1, none⟩ = some (.int .i64 (ts[i]'h).at_) ∧ w.cell? ⟨b, o + i * 5 + 2, none⟩ = some (.int .u64 (ts[i]'h).n) ∧
    w.cell? ⟨b, o + i * 5 + 3, none⟩ = some (.int .i64 (ts[i]'h).next) ∧ w.cell? ⟨b, o + i * 5 + 4, none⟩ = some (.int .i64 (ts[i]'h).err)
section
variable {w : World}
def ReadsRel (w : World) (n : Nat) (i : Value) (wr : World) : Prop := ∃ j : Nat, j ≤ n ∧ i = .int .i64 j ∧ Frm NoB w wr
set_option maxHeartbeats 1000000 in
theorem reads8_is (ts : List TryS) (b o n c : Nat) (h : TriesAt w b o ts) (hg : ∀ t ∈ ts, t.good) (hn : ts.length = n) (hl : n ≤ 16777216) :
    Calls Try.prog 18 #[.slice (some ⟨b, o, none⟩) n c] w fun e w' => e = .returned (.bool true) ∧ Frm NoB w w' := by
  subst hn
  have H := hide h
  have HG := hide hg
  clear h hg
  go_enter Try.func18, Try.ntmps18
  go_wp2
  go_loopw [10] (fun i wr => ReadsRel w ts.length i wr) (fun i _ => ts.length - (intOf i).toNat)
  case atStart => exact ⟨0, by omega, rfl, Frm.refl _ _⟩
  case round =>
    obtain ⟨j, hj, rfl, hF⟩ := hrel
    have HF := hide hF
    clear hF
    by_cases hlt : j < ts.length
    · obtain ⟨v, hb, hbl, k0, k1, k2, k3, k4⟩ := H.out.at_ j hlt
      have c0 := (HF.out.cell (World.block_lt_of_cell? w _ k0) (fun e => e)).trans k0
      have c1 := (HF.out.cell (World.block_lt_of_cell? w _ k1) (fun e => e)).trans k1
      have c2 := (HF.out.cell (World.block_lt_of_cell? w _ k2) (fun e => e)).trans k2
      have c3 := (HF.out.cell (World.block_lt_of_cell? w _ k3) (fun e => e)).trans k3
      have c4 := (HF.out.cell (World.block_lt_of_cell? w _ k4) (fun e => e)).trans k4
      obtain ⟨g1, g2, g3⟩ := HG.out _ (List.getElem_mem hlt)
      have HB := hide (hb.frm0 HF.out)
      obtain ⟨t, ht⟩ : ∃ t, ts[j]'hlt = t := ⟨_, rfl⟩
      rw [ht] at hbl hb c1 c2 c3 c4 g1 g2 g3 HB
      obtain ⟨tb, ta, tn, tx, te⟩ := t
      simp only at hbl hb c1 c2 c3 c4 g1 g2 g3 HB
      have hw : ∃ A c, v = .slice A tb.length c := by obtain ⟨A, c, e, -⟩ := hb; exact ⟨A, c, e⟩
      obtain ⟨A, c', rfl⟩ := hw
      have GU : Hid (∀ W, Frm NoB wr W → Calls Try.prog 22 #[.slice A tb.length c', .int .i64 ta] W fun e w' => e = .returned (.tuple #[.int .u64 tn, .int .i64 tx, .int .i64 te]) ∧ W = w') := fun W hf => by
        have := getUint_is (HB.out.frm0 hf) ta hbl
        unfold GuPost at this
        rwa [g1, g2, g3] at this
      have i0 : (0 : Int) ≤ (j : Int) := by omega
      have i1 : (j : Int) < (ts.length : Int) := by omega
      clear k0 k1 k2 k3 k4 g1 g2 g3 HB hb ht hbl
      go_wp2_with fail
      refine (GU.out _ ((Frm.refl NoB wr).alloc _)).mono ?_
      rintro e w' ⟨rfl, rfl⟩
      have HF1 := hide (HF.out.alloc (.cells #[.slice A tb.length c', .int .i64 ta, .int .u64 tn, .int .i64 tx, .int .i64 te] 42))
      go_wp2
      go_roundw
      case rel => exact ⟨j + 1, by omega, by go_num, HF1.out⟩
      case measure => simp [intOf]; omega
    · obtain rfl : j = ts.length := by omega
      go_wp2
      go_ret
      exact ⟨rfl, HF.out⟩
def triesCells : List (Value × TryS) → List Value
  | [] => []
  | p :: r => p.1 :: .int .i64 p.2.at_ :: .int .u64 p.2.n :: .int .i64 p.2.next :: .int .i64 p.2.err :: triesCells r
theorem triesCells_get : ∀ (l : List (Value × TryS)) (i : Nat) (h : i < l.length), (triesCells l)[i * 5]? = some (l[i]'h).1 ∧ (triesCells l)[i * 5 + 1]? = some (.int .i64 (l[i]'h).2.at_) ∧ (triesCells l)[i * 5 + 2]? = some (.int .u64 (l[i]'h).2.n) ∧ (triesCells l)[i * 5 + 3]? = some (.int .i64 (l[i]'h).2.next) ∧ (triesCells l)[i * 5 + 4]? = some (.int .i64 (l[i]'h).2.err)
  | [], i, h => by simp at h
  | p :: r, 0, _ => ⟨rfl, rfl, rfl, rfl, rfl⟩
  | p :: r, i + 1, h => by
    have ih := triesCells_get r i (by simpa using h)
    have e : ∀ k, (triesCells (p :: r))[(i + 1) * 5 + k]? = (triesCells r)[i * 5 + k]? := fun k => by
      rw [show (i + 1) * 5 + k = (i * 5 + k) + 1 + 1 + 1 + 1 + 1 from by omega]
      show (p.1 :: .int .i64 p.2.at_ :: .int .u64 p.2.n :: .int .i64 p.2.next :: .int .i64 p.2.err :: triesCells r)[_]? = _
      simp only [List.getElem?_cons_succ]
    have e0 := e 0
    rw [Nat.add_zero, Nat.add_zero] at e0
    rw [e0, e, e, e, e]
    exact ih
theorem tries_lit {t : TypeId} {g : Nat} (l : List (Value × TryS)) (h : Blk w g t (triesCells l).toArray) (hb : ∀ p ∈ l, By w p.1 p.2.b ∧ p.2.b.length ≤ 16777216) : TriesAt w g 0 (l.map (·.2)) := by
  refine ⟨fun i hi => ?_⟩
  rw [List.length_map] at hi
  obtain ⟨h0, h1, h2, h3, h4⟩ := triesCells_get l i hi
  obtain ⟨b1, b2⟩ := hb _ (List.getElem_mem hi)
  simp only [List.getElem_map, Nat.zero_add]
  refine ⟨(l[i]'hi).1, b1, b2, ?_, ?_, ?_, ?_, ?_⟩
  all_goals
    rw [h.cell, List.getElem?_toArray]
    assumption
theorem by_lit' (w : World) (g : Nat) (hg : w.heap.size = g) (ys : List Int) (u : U8 ys) (hl : ys.length ≤ 16777216) (cs : Array Value) (hcs : cs = (ints .u8 ys).toArray) (n : Nat) (hn : ys.length = n) : By (w.alloc (.cells cs 5)) (.slice (some ⟨g, 0, none⟩) n n) ys := by
  subst hg; exact by_lit w ys u hl cs hcs n hn
theorem Blk.new' (w : World) (g : Nat) (hg : w.heap.size = g) (t : TypeId) (cs : Array Value) : Blk (w.alloc (.cells cs t)) g t cs := by
  subst hg; exact Blk.new w t cs
/-- bytes of a constant string, just laid -/
theorem by_mark (w : World) (ys : List Int) (u : U8 ys) (hl : ys.length ≤ 16777216) (cs : Array Value) (hcs : cs = (ints .u8 ys).toArray) (n : Nat) (hn : ys.length = n) (fr : Nat × Nat) : By (w.alloc (.cells cs 5 fr)) (.slice (some ⟨w.heap.size, 0, none⟩) n n) ys := by
  subst hcs hn
  refine ⟨_, _, rfl, fun _ => ⟨w.heap.size, 0, rfl, fun i v hv => ?_⟩, (fun e => by cases e), Nat.le_refl _, by omega, u⟩
  rw [Nat.zero_add, World.cell?_alloc_mark]
  simpa using hv
theorem const_bytes (w : World) (C : Array Value) (n c : Nat) : (convert 23 23 (.slice (some ⟨w.heap.size, 0, none⟩) n c)).run Try.prog (w.alloc (.cells C 5)) = .ok (.slice (some ⟨w.heap.size, 0, none⟩) n c) (w.alloc (.cells C 5 (C.size, C.size + 1))) :=
  Lib.run_convert_bytes_const w 23 5 C n c Try.underlying23 Try.underlying5
set_option maxRecDepth 100000 in
theorem writes_is : Calls Try.prog 34 #[] w fun e w' => e = .returned (.bool true) ∧ Frm NoB w w' := by
  have kc := const_bytes
  have e1 : uv 300 = [172, 2] := by decide
  have e2 : wb 258 = [0, 0, 1, 2] := by decide
  have e3 : uv 2 ++ [97, 98] = [2, 97, 98] := by decide
  go_enter Try.func34, Try.ntmps34
  go_wp2_with fail
  refine (buint_is 300 (by omega) (Ob.nil w w.heap.size) (by simp) (Nat.le_refl _)).mono ?_
  rintro e w1 ⟨v1, rfl, hG1⟩
  rw [List.nil_append, e1] at hG1
  have HG1 := hide hG1
  clear hG1
  go_wp2_with fail
  refine (bword_is 258 (by omega) (Ob.nil w1 w1.heap.size) (by simp) (Nat.le_refl _)).mono ?_
  rintro e w2 ⟨v2, rfl, hG2⟩
  rw [List.nil_append, e2] at hG2
  have HG2 := hide hG2
  clear hG2
  go_wp2_with fail
  have hY := by_mark w2 [97, 98] (U8.cons (by omega) (U8.cons (by omega) U8.nil)) (by simp) _ rfl 2 rfl (2, 3)
  refine (bblob_is (Ob.nil _ (w2.heap.size + 1)) hY (fun _ k _ e => by cases e) (by simp) (by simp)).mono ?_
  rintro e w3 ⟨v3, rfl, hG3⟩
  rw [List.nil_append] at hG3
  have hG3 : Grew _ _ _ _ [2, 97, 98] _ := hG3
  have hf2 : Frm NoB w1 w2 := HG2.out.new
  have hf3 : Frm NoB w2 w3 := ((Frm.refl NoB w2).alloc _).trans hG3.new
  have s1 := ((HG1.out.o.by_.frm0 hf2).frm0 hf3).string
  have s2 := (HG2.out.o.by_.frm0 hf3).string
  have s3 := hG3.o.by_.string
  have HF := hide ((HG1.out.new.trans hf2).trans hf3)
  have l1 : (strOfNums [172, 2]).toList = [172, 2] := (Lib.strOfNums_toList _).trans (by decide)
  have l2 : (strOfNums [0, 0, 1, 2]).toList = [0, 0, 1, 2] := (Lib.strOfNums_toList _).trans (by decide)
  have l3 : (strOfNums [2, 97, 98]).toList = [2, 97, 98] := (Lib.strOfNums_toList _).trans (by decide)
  clear HG1 HG2 hG3 hf2 hf3 hY e1 e2 e3 kc
  go_wp2
  go_ret
  exact ⟨rfl, HF.out⟩
end
end Go.Proofs.Ytdhcgghdimkdbaa
