/-
  Texts of this claim, joined: Drv3, LowP, LowS, NorLaw1, DrvEq, Drv4, SetP, RoundHeld, Drv5, RefG, RefH, Drv6, NorOwnG, DrvOwn.
-/
import Derived.RegionTactic
import Derived.Laws.BitsAllLaws
import Derived.OrdersHeld
import Derived.Test.YtplngfphklpicaaDpJ4
/-
  The drive: Read.
-/
namespace Go.Proofs.Ytplngfphklpicaa
open Go.RowKit
attribute [local go_sem] Oper.semAt_some
/-- what Read tells, and leaves -/
def DrdPost (w : World) (d : DrvS) (s : NorS) (a m : Int) (e : Ending) (w' : World) : Prop := ∃ A cp, e = .returned (.tuple #[.slice A (d.rd s a m).length cp, .int .i64 (d.rdE s a m)]) ∧ Rd w' A (ints .u32 (d.rd s a m)) ∧ (∀ b, A = some b → w.heap.size ≤ b.block) ∧ (d.rd s a m).length ≤ cp ∧ Frm NoB w w'
section
variable {w : World} {g p q c : Nat} {s : NorS} {d : DrvS}
set_option maxRecDepth 100000 in
set_option maxHeartbeats 1000000 in
theorem dread_bad (a m : Int) (h : DrvAt w g p d) (hn : NorAt w p q c s) (hd : d.Ok s) (he : ¬ d.rdE s a m = 0) :
    Calls Try.prog 9 #[.pointer (some ⟨g, 0, none⟩), .int .i64 a, .int .i64 m] w (DrdPost w d s a m) := by
  have hn2 := hn.ok.n2
  have hdn := hd.n
  have E : Hid (d.rd s a m = []) := by show _ = _; unfold DrvS.rd; rw [if_neg he]
  have H := hide h
  have HN := hide hn
  have HE := hide he
  clear hd
  refine calls_marks Try.func9 rfl ?_
  simp only [Try.ntmps9, List.size_toArray, List.length_cons, List.length_nil, Nat.reduceAdd, Nat.reduceSub, Array.replicate_succ, Array.replicate_zero, List.push_toArray, List.append_toArray, List.nil_append, List.cons_append]
  by_cases ht : 0 ≤ a ∧ 0 ≤ m ∧ a ≤ d.many * 64 ∧ m ≤ d.many * 64 - a
  · have hdown : s.down = true := by
      rcases Bool.eq_false_or_eq_true s.down with h1 | h1
      · exact h1
      · exact absurd (DrvS.rdE_ok h1 ht) he
    have E' : Hid (d.rdE s a m = 40) := by show _ = _; unfold DrvS.rdE; rw [if_pos ht, if_pos hdown]
    have T : Hid (d.thereE a m = 0) := by show _ = _; unfold DrvS.thereE; rw [if_pos ht]
    have HD := hide hdown
    have c0 : ∀ X Y Z : Obj, (((w.alloc X).alloc Y).alloc Z).cell? ⟨g, 0, none⟩ = some (.pointer (some ⟨p, 0, none⟩)) := fun X Y Z => (h.frm ((((Frm.refl NoB w).alloc X).alloc Y).alloc Z) (fun e => e)).c0
    clear he h hn ht hdown
    go_wp2_with (first
      | (go_at_call 40; refine (dthere_is _ _ (H.out.frm ((((Frm.refl NoB w).alloc _).alloc _).alloc _) (fun e => e)) (by omega)).mono ?_; rw [T.out]; rintro e w' ⟨rfl, rfl⟩)
      | (go_at_call 22; refine (down_is ((((Hid.out HN).alloc _).alloc _).alloc _)).mono ?_; rw [HD.out]; rintro e w' ⟨rfl, rfl⟩))
    refine postM_ret (v := .tuple #[.slice none 0 0, .int .i64 40]) (by simp [results, Try.results9, go_sem]) rfl ⟨none, 0, ?_, ?_, (fun b hb => by cases hb), ?_, (((Frm.refl NoB w).alloc _).alloc _).alloc _⟩
    · rw [E.out, E'.out]; rfl
    · rw [E.out]; exact Rd.nil _ _
    · rw [E.out]; exact Nat.le_refl _
  · have E' : Hid (d.rdE s a m = 2) := by show _ = _; unfold DrvS.rdE; rw [if_neg ht]
    have T : Hid (d.thereE a m = 2) := by show _ = _; unfold DrvS.thereE; rw [if_neg ht]
    clear he h hn ht
    go_wp2_with (first
      | (go_at_call 40; refine (dthere_is _ _ (H.out.frm ((((Frm.refl NoB w).alloc _).alloc _).alloc _) (fun e => e)) (by omega)).mono ?_; rw [T.out]; rintro e w' ⟨rfl, rfl⟩))
    refine postM_ret (v := .tuple #[.slice none 0 0, .int .i64 2]) (by simp [results, Try.results9, go_sem]) rfl ⟨none, 0, ?_, ?_, (fun b hb => by cases hb), ?_, (((Frm.refl NoB w).alloc _).alloc _).alloc _⟩
    · rw [E.out, E'.out]; rfl
    · rw [E.out]; exact Rd.nil _ _
    · rw [E.out]; exact Nat.le_refl _

theorem seven_boxes {w W : World} {c0 c1 c2 c3 c4 c5 c6 : Array Value} {t0 t1 t2 t3 t4 t5 t6 : TypeId} (hW : (((((((w.alloc (.cells c0 t0)).alloc (.cells c1 t1)).alloc (.cells c2 t2)).alloc (.cells c3 t3)).alloc (.cells c4 t4)).alloc (.cells c5 t5)).alloc (.cells c6 t6)) = W) :
    W.heap.size = w.heap.size + 7 ∧ Frm NoB w W ∧ Blk W w.heap.size t0 c0 ∧ Blk W (w.heap.size + 1) t1 c1 ∧ Blk W (w.heap.size + 2) t2 c2 ∧ Blk W (w.heap.size + 3) t3 c3 ∧ Blk W (w.heap.size + 4) t4 c4 ∧ Blk W (w.heap.size + 5) t5 c5 ∧ Blk W (w.heap.size + 6) t6 c6 := by
  subst hW
  have s1 : (w.alloc (.cells c0 t0)).heap.size = w.heap.size + 1 := World.size_alloc _ _
  have n1 := Blk.new (w.alloc (.cells c0 t0)) t1 c1
  have n2 := Blk.new ((w.alloc (.cells c0 t0)).alloc (.cells c1 t1)) t2 c2
  have n3 := Blk.new (((w.alloc (.cells c0 t0)).alloc (.cells c1 t1)).alloc (.cells c2 t2)) t3 c3
  have n4 := Blk.new ((((w.alloc (.cells c0 t0)).alloc (.cells c1 t1)).alloc (.cells c2 t2)).alloc (.cells c3 t3)) t4 c4
  have n5 := Blk.new (((((w.alloc (.cells c0 t0)).alloc (.cells c1 t1)).alloc (.cells c2 t2)).alloc (.cells c3 t3)).alloc (.cells c4 t4)) t5 c5
  have n6 := Blk.new ((((((w.alloc (.cells c0 t0)).alloc (.cells c1 t1)).alloc (.cells c2 t2)).alloc (.cells c3 t3)).alloc (.cells c4 t4)).alloc (.cells c5 t5)) t6 c6
  simp only [World.size_alloc] at n1 n2 n3 n4 n5 n6
  refine ⟨by simp only [World.size_alloc], (((((((Frm.refl NoB w).alloc _).alloc _).alloc _).alloc _).alloc _).alloc _).alloc _, ?_, ?_, ?_, ?_, ?_, ?_, ?_⟩
  · exact ((((((Blk.new w t0 c0).alloc _).alloc _).alloc _).alloc _).alloc _).alloc _
  · exact ((((n1.alloc _).alloc _).alloc _).alloc _).alloc _
  · exact (((n2.alloc _).alloc _).alloc _).alloc _
  · exact ((n3.alloc _).alloc _).alloc _
  · exact (n4.alloc _).alloc _
  · exact n5.alloc _
  · exact n6
/-- the frame of Read's round: the box of p at bx, piece j -/
def rdAct (g p a m B bx first j : Nat) : Act :=
  { tmps := #[.pointer (some ⟨g, 0, none⟩), .int .i64 a, .int .i64 m, .pointer (some ⟨B, 0, none⟩), undef, undef, .pointer (some ⟨B + 1, 0, none⟩), .pointer (some ⟨B + 1 + 1, 0, none⟩), .int .i64 0, .pointer (some ⟨B + 1 + 1 + 1, 0, none⟩),
      .pointer (some ⟨bx, 0, none⟩), .int .i64 (plen a m j), undef, undef, undef, .pointer (some ⟨g, 0, none⟩), .int .i64 a, .int .i64 m, .int .i64 0, .int .i64 0, .bool false, undef, .pointer (some ⟨g, 0, none⟩), .pointer (some ⟨g, 0, none⟩), .pointer (some ⟨g, 0, none⟩), .pointer (some ⟨p, 0, none⟩),
      .bool false, .pointer (some ⟨g, 0, none⟩), .int .i64 a, .int .i64 m,
      .func (.func 61) #[] #[.pointer (some ⟨B + 1 + 1 + 1 + 1 + 2, 0, none⟩), .pointer (some ⟨B + 1 + 1 + 1 + 1 + 1, 0, none⟩), .pointer (some ⟨B + 1 + 1 + 1 + 1, 0, none⟩)],
      .agg #[.int .i64 ((first : Int) + (pcur a m j : Int) / 64), .int .i64 ((pcur a m j : Int) % 64)], .int .i64 (plen a m j), undef, undef, undef, undef, undef, undef, undef, undef, undef, undef, undef, undef, undef, undef, undef, undef, undef, undef, undef, undef, undef, undef, undef, undef, undef, undef, undef], defers := [] }
/-- between two rounds of Read: k words have come -/
structure RdInv (w : World) (p q c g : Nat) (s : NorS) (d : DrvS) (a m k : Nat) (W : World) : Prop where
  n : NorAt W p q c s
  dr : DrvAt W g p d
  c3 : Blk W w.heap.size 23 #[.pointer (some ⟨g, 0, none⟩)]
  r6 : Blk W (w.heap.size + 1) 22 #[.slice none 0 0]
  r7 : Blk W (w.heap.size + 2) 28 #[.int .i64 0]
  out : ∃ v, Blk W (w.heap.size + 3) 22 #[v] ∧ W.ownsRow (w.heap.size + 9) 48 1 v k (ints .u32 ((d.words s a m).take k))
  f : Frm NoB w W
/-- the blocks of the iterator, and of the loop -/
def RdB (B : Nat) : Nat → Prop := fun k => B + 4 ≤ k ∧ k < B + 9
theorem RdInv.frm {w W W' : World} {p q c g : Nat} {s : NorS} {d : DrvS} {a m k : Nat} (h : RdInv w p q c g s d a m k W) (hp : p < w.heap.size) (hq : q < w.heap.size) (hg : g < w.heap.size) (hf : Frm (RdB w.heap.size) W W') : RdInv w p q c g s d a m k W' := by
  obtain ⟨v, hb, ho⟩ := h.out
  exact ⟨h.n.frm hf (fun e => by have := e.1; omega) (fun e => by have := e.1; omega), h.dr.frm hf (fun e => by have := e.1; omega), h.c3.frm hf (fun e => by have := e.1; omega), h.r6.frm hf (fun e => by have := e.1; omega), h.r7.frm hf (fun e => by have := e.1; omega),
    ⟨v, hb.frm hf (fun e => by have := e.1; omega), own_frm ho hf (fun b e h2 => by have := (ho.lt b e).1; have := h2.2; omega)⟩,
    h.f.then_ hf (fun i hi e => by have := e.1; omega)⟩
theorem rd_act {g p a m B bx first j : Nat} : ({ tmps := #[.pointer (some ⟨g, 0, none⟩), .int .i64 a, .int .i64 m, .pointer (some ⟨B, 0, none⟩), undef, undef, .pointer (some ⟨B + 1, 0, none⟩), .pointer (some ⟨B + 1 + 1, 0, none⟩), .int .i64 0, .pointer (some ⟨B + 1 + 1 + 1, 0, none⟩),
      .pointer (some ⟨bx, 0, none⟩), .int .i64 (plen a m j), undef, undef, undef, .pointer (some ⟨g, 0, none⟩), .int .i64 a, .int .i64 m, .int .i64 0, .int .i64 0, .bool false, undef, .pointer (some ⟨g, 0, none⟩), .pointer (some ⟨g, 0, none⟩), .pointer (some ⟨g, 0, none⟩), .pointer (some ⟨p, 0, none⟩),
      .bool false, .pointer (some ⟨g, 0, none⟩), .int .i64 a, .int .i64 m,
      .func (.func 61) #[] #[.pointer (some ⟨B + 1 + 1 + 1 + 1 + 2, 0, none⟩), .pointer (some ⟨B + 1 + 1 + 1 + 1 + 1, 0, none⟩), .pointer (some ⟨B + 1 + 1 + 1 + 1, 0, none⟩)],
      .agg #[.int .i64 ((first : Int) + (pcur a m j : Int) / 64), .int .i64 ((pcur a m j : Int) % 64)], .int .i64 (plen a m j), undef, undef, undef, undef, undef, undef, undef, undef, undef, undef, undef, undef, undef, undef, undef, undef, undef, undef, undef, undef, undef, undef, undef, undef, undef, undef, undef], defers := [] } : Act) = rdAct g p a m B bx first j := rfl
theorem own_not {W : World} {B : Nat} {t e : TypeId} {cs : Array Value} (h : Blk W B t cs) (hte : t ≠ e) {base size k : Nat} {v : Value} {xs : List Value} (hr : W.ownsRow base e size v k xs) : some B ≠ v.ownBlock := by
  rcases hr.2 with ⟨rfl, _⟩ | ⟨g, cap, cur, rfl, _, hgb, _⟩
  · simp [Value.ownBlock]
  · intro e'
    obtain rfl : B = g := by simpa [Value.ownBlock] using e'
    have := (show W.heap[B]? = _ from h).symm.trans hgb
    simp at this
    exact hte this.2
/-- a word more, in a round -/
theorem append_word_in {F : Fence} {n0 : Nat} {w : World} {ops : Array Oper} {rest : List Oper} {o : Oper} {a : Act} {Q : Exit → Act → World → Prop} (hgd : o.guard = none) (s x : Operand)
    (ho : o.op = .call { callee := .builtin .append, args := #[s, x], argTypes := #[22, 22] })
    (base n b : Nat) (v : Value) (xs : List Int) (y : Int) (hs : a.eval s = v) (hx : a.eval x = .slice (some ⟨b, 0, none⟩) 1 1)
    (hown : w.ownsRow base 48 1 v n (ints .u32 xs)) (hb : Blk w b 48 #[.int .u32 y]) (hn : n ≤ 16777216) (hbase : base ≤ w.heap.size)
    (h : ∀ g cap w', w'.ownsRow base 48 1 (.slice (some ⟨g, 0, none⟩) (n + 1) cap) (n + 1) (ints .u32 (xs ++ [y])) → w.grownBy w' v.ownBlock → wpListIn F n0 Try.prog ops Q rest (a.put o.dst (.slice (some ⟨g, 0, none⟩) (n + 1) cap)) w') :
    wpListIn F n0 Try.prog ops Q (o :: rest) a w := by
  obtain ⟨i0, hi0, hz0, hz1, hz2⟩ := info_parts uint32_info
  refine wpListIn_append_own w hgd s x 22 ho base 48 i0 _ 1 4 Try.underlying22 hi0 hz0 hz1 hz2 rfl (by omega) v n (ints .u32 xs) hs hown ⟨b, 0, none⟩ 1 1 [.int .u32 y] hx rfl (World.news_of_block (cs := #[.int .u32 y]) hb) (by simp [Value.oneCell']) (by simp [maxLen]; omega) (by omega) hbase (fun v' w' h1 h2 _ => ?_)
  obtain ⟨g, cap, rfl⟩ := ownsRow_succ h1
  refine h g cap w' ?_ h2
  have e : ints .u32 (xs ++ [y]) = ints .u32 xs ++ [.int .u32 y] := by simp [ints]
  rw [e]
  exact h1
/-- a variable's box, behind an append to what it holds -/
theorem own_box {W w2 : World} {B : Nat} {t e : TypeId} {cs : Array Value} {X : Obj} {n : Nat} {v : Value} {xs : List Value} (hv : Blk W B t cs) (ho : W.ownsRow (B + 6) e 1 v n xs) (hgr : (W.alloc X).grownBy w2 v.ownBlock) : Blk w2 B t cs :=
  (hgr.block _ ((hv.alloc X).lt) (fun e => by have := (ho.lt B e.symm).1; omega)).trans (hv.alloc X)
/-- what a round has written -/
theorem RdInv.next {w W w2 : World} {p q c g : Nat} {s : NorS} {d : DrvS} {a m k : Nat} {v : Value} {X : Obj} {g2 cap : Nat} {y : Int} (h : RdInv w p q c g s d a m k W) (hp : p < w.heap.size) (hq : q < w.heap.size) (hg : g < w.heap.size)
    (hv : Blk W (w.heap.size + 3) 22 #[v]) (ho : W.ownsRow (w.heap.size + 9) 48 1 v k (ints .u32 ((d.words s a m).take k))) (hgr : (W.alloc X).grownBy w2 v.ownBlock)
    (ho2 : w2.ownsRow (w.heap.size + 9) 48 1 (.slice (some ⟨g2, 0, none⟩) (k + 1) cap) (k + 1) (ints .u32 ((d.words s a m).take k ++ [y]))) (hk : k < (d.words s a m).length) (hy : (d.words s a m).getD k 0 = y) :
    RdInv w p q c g s d a m (k + 1) (w2.setCell ⟨w.heap.size + 3, 0, none⟩ (.slice (some ⟨g2, 0, none⟩) (k + 1) cap)) ∧ Frm (fun i => some i = v.ownBlock ∨ i = w.heap.size + 3) W (w2.setCell ⟨w.heap.size + 3, 0, none⟩ (.slice (some ⟨g2, 0, none⟩) (k + 1) cap)) := by
  have hvn : ∀ i, some i = v.ownBlock → w.heap.size + 9 ≤ i := fun i e => (ho.lt i e.symm).1
  have hne : some (w.heap.size + 3) ≠ v.ownBlock := fun e => by have := hvn _ e; omega
  have hF1 : Frm (fun i => some i = v.ownBlock ∨ i = w.heap.size + 3) W w2 := ((Frm.refl _ W).alloc X).grown hgr (fun i e _ => .inl e.symm)
  have hF : Frm (fun i => some i = v.ownBlock ∨ i = w.heap.size + 3) W (w2.setCell ⟨w.heap.size + 3, 0, none⟩ (.slice (some ⟨g2, 0, none⟩) (k + 1) cap)) := hF1.setCell (p := ⟨w.heap.size + 3, 0, none⟩) (.inl (.inr rfl)) _
  have hv2 : Blk w2 (w.heap.size + 3) 22 #[v] := (hgr.block _ ((hv.alloc X).lt) hne).trans (hv.alloc X)
  have low : ∀ i, i < w.heap.size + 3 → ¬ (some i = v.ownBlock ∨ i = w.heap.size + 3) := fun i hi e => by
    rcases e with e | e
    · have := hvn _ e; omega
    · omega
  have e : (d.words s a m).take (k + 1) = (d.words s a m).take k ++ [y] := by
    rw [List.take_add_one, List.getElem?_eq_getElem hk, ← hy, List.getD_eq_getElem?_getD, List.getElem?_eq_getElem hk]; rfl
  refine ⟨⟨h.n.frm hF (low p (by omega)) (low q (by omega)), h.dr.frm hF (low g (by omega)), h.c3.frm hF (low _ (by omega)), h.r6.frm hF (low _ (by omega)), h.r7.frm hF (low _ (by omega)), ⟨_, hv2.set_ 0 _, ?_⟩, h.f.then_ hF (fun i hi => low i (by omega))⟩, hF⟩
  rw [e]
  exact own_frm ho2 ((Frm.refl (One (w.heap.size + 3)) w2).set1 0 _) (fun b hb => by
    have := (ho2.lt b hb).1; intro e; have e : b = w.heap.size + 3 := e; omega)
set_option maxRecDepth 100000 in
set_option maxHeartbeats 1000000 in
theorem dread_ok (a m : Nat) (h : DrvAt w g p d) (hn : NorAt w p q c s) (hd : d.Ok s) (he : d.rdE s a m = 0) :
    Calls Try.prog 9 #[.pointer (some ⟨g, 0, none⟩), .int .i64 a, .int .i64 m] w (DrdPost w d s a m) := by
  have hn2 := hn.ok.n2
  have hdn := hd.n
  have E : Hid (d.rd s a m = d.words s a m) := by show _ = _; unfold DrvS.rd; rw [if_pos he]; rfl
  have E' := hide he
  have hz := DrvS.rdE_zero he
  obtain ⟨hdown, z0, z1, z2, z3⟩ := hz
  have T : Hid (d.thereE a m = 0) := by show _ = _; unfold DrvS.thereE; rw [if_pos ⟨z0, z1, z2, z3⟩]
  have HD := hide hdown
  have H := hide h
  have HN := hide hn
  have HOK := hide hd
  have c0 : ∀ X Y Z : Obj, (((w.alloc X).alloc Y).alloc Z).cell? ⟨g, 0, none⟩ = some (.pointer (some ⟨p, 0, none⟩)) := fun X Y Z => (h.frm ((((Frm.refl NoB w).alloc X).alloc Y).alloc Z) (fun e => e)).c0
  clear he h hn hd hdown
  refine calls_marks Try.func9 rfl ?_
  simp only [Try.ntmps9, List.size_toArray, List.length_cons, List.length_nil, Nat.reduceAdd, Nat.reduceSub, Array.replicate_succ, Array.replicate_zero, List.push_toArray, List.append_toArray, List.nil_append, List.cons_append]
  go_wp2_with (first
    | (go_at_call 40; refine (dthere_is _ _ (H.out.frm ((((Frm.refl NoB w).alloc _).alloc _).alloc _) (fun e => e)) (by omega)).mono ?_; rw [T.out]; rintro e w' ⟨rfl, rfl⟩)
    | (go_at_call 22; refine (down_is ((((Hid.out HN).alloc _).alloc _).alloc _)).mono ?_; rw [HD.out]; rintro e w' ⟨rfl, rfl⟩)
    | (go_at_call 41; refine (dpieces_is _ _ _).mono ?_; rintro e w' ⟨rfl, rfl⟩))
  rename_i K0 hK0
  have hpl := (Hid.out HN).ltp
  have hql := (Hid.out HN).ltq
  have hgl := H.out.lt
  obtain ⟨W, hW⟩ : ∃ W, (((((((w.alloc (.cells #[.pointer (some ⟨g, 0, none⟩)] 23)).alloc (.cells #[.slice none 0 0] 22)).alloc (.cells #[.int .i64 0] 28)).alloc (.cells #[.slice none 0 0] 22)).alloc (.cells #[.pointer (some ⟨g, 0, none⟩)] 23)).alloc (.cells #[.int .i64 a] 3)).alloc (.cells #[.int .i64 m] 3)) = W := ⟨_, rfl⟩
  rw [hW]
  obtain ⟨hsz, hF, b0, b1, b2, b3, b4, b5, b6⟩ := seven_boxes hW
  have I0 : RdInv w p q c g s d a m 0 W := ⟨(Hid.out HN).frm hF (fun e => e) (fun e => e), H.out.frm hF (fun e => e), b0, b1, b2, ⟨_, b3, by simpa [ints] using World.ownsRow_nil W _ _ _⟩, hF⟩
  clear hW
  refine (wpIn_wide (n := 4)).1 ?_
  refine wpIn_rangeL (F := Fence.wide) (n := 4) rfl (by omega) (gf := 61) (lb := #[.pointer (some ⟨w.heap.size + 6, 0, none⟩), .pointer (some ⟨w.heap.size + 5, 0, none⟩), .pointer (some ⟨w.heap.size + 4, 0, none⟩)]) rfl trivial (enters_of Try.func61 (by kernel_rfl) rfl)
    (encs := pieceV d.first a m) (U := Two (w.heap.size + 6) (w.heap.size + 5)) (V := Two (w.heap.size + 4) g) (full := List.range (pnum a m))
    (pieces1_in 3 (by omega) (w.heap.size + 6) (w.heap.size + 5) (w.heap.size + 4) g d.first a m W (by omega) (by omega) (by omega) (by omega) (by omega) (by omega) (b6.cell 0) (b5.cell 0) (b6.frozen 0) (b5.frozen 0) (b4.cell 0) I0.dr.c1)
    (fun k hk => by rcases hk with hk | hk <;> omega) (fun x => rfl)
    (fun pre W' => RdInv w p q c g s d a m (pcur a m pre.length - a) W') (fun _ _ _ => False)
    (fun pre A B hi hf => hi.frm hpl hql hgl (hf.mono (fun k _ hk => ?sub)))
    (fun _ _ _ _ hi _ => hi) (by simpa [pcur_zero] using I0)
    (fun j a' W' => ∃ bx, w.heap.size + 9 ≤ bx ∧ Blk W' bx 55 #[.int .i64 ((d.first : Int) + (pcur a m j : Int) / 64), .int .i64 ((pcur a m j : Int) % 64)] ∧ a' = rdAct g p a m w.heap.size bx d.first j)
    (fun j a' A B hx hf => ?ax) ?assign ?body (fun k hk => by rcases hk with hk | hk <;> omega) ?done (fun _ _ _ _ h _ => h.elim)
  case sub =>
    have h : (Two (w.heap.size + 6) (w.heap.size + 5) k ∨ LoopB W.heap.size k) → w.heap.size + 4 ≤ k ∧ k < w.heap.size + 9 := fun hk => by rcases hk with (hk | hk) | (hk | hk) <;> omega
    exact h hk
  case ax =>
    obtain ⟨bx, h1, h2, h3⟩ := hx
    exact ⟨bx, h1, h2.frm hf (fun e => by rcases e with (e | e) | (e | e) <;> omega), h3⟩
  case assign =>
    intro l pre j W' K hlt hi hK
    have HK := hide hK
    have HI := hide hi
    clear hK hi I0 b0 b1 b2 b3 b4 b5 b6 hF
    unfold pieceV
    gi_wp2
    refine HK.out _ _ (Keep.of_frm ((Frm.refl NoB W').alloc _) (fun _ _ e => e)) (HI.out.frm hpl hql hgl ((Frm.refl _ W').alloc _)) ⟨W'.heap.size, by omega, Blk.new _ _ _, ?_⟩
    exact rd_act
  case body =>
    rintro l pre j a' W' hlt hi ⟨bx, hbx, hB, rfl⟩ hpre
    obtain ⟨rfl, hj⟩ := range_prefix hpre
    rw [List.length_range] at hi
    have hp1 := pnum_lt.1 hj
    have hp2 := plen_le hj
    have hp3 := pcur_next hj
    have hp4 := pcur_ge a m j
    have hp5 := pcur_le a m (j + 1)
    have hwl := DrvS.words_length (Hid.out HN).ok HOK.out (a := a) (m := m) (by omega)
    have hlb : w.heap.size + 9 ≤ W'.heap.size := by omega
    obtain ⟨cu, hcu⟩ : ∃ cu, pcur a m j = cu := ⟨_, rfl⟩
    obtain ⟨ln, hln⟩ : ∃ ln, plen a m j = ln := ⟨_, rfl⟩
    unfold rdAct
    rw [hcu] at hi hB hp1 hp2 hp3 hp4
    rw [hln] at hp2 hp3
    rw [hcu, hln]
    obtain ⟨T, hT⟩ : ∃ T : Nat → Prop, (fun k => (Two (w.heap.size + 6) (w.heap.size + 5) k ∨ Two (w.heap.size + 4) g k) ∨ LoopB W.heap.size k) = T := ⟨_, rfl⟩
    have hT2 : ∀ k, T k → k < w.heap.size + 9 ∧ k ≠ w.heap.size + 3 := fun k hk => by
      rw [← hT] at hk
      rcases hk with (hk | hk) | hk <;> rcases hk with hk | hk <;> omega
    rw [hT]
    clear hT hcu hln hpre I0 b0 b1 b2 b3 b4 b5 b6 hF c0
    have HI := hide hi
    have HB := hide hB
    clear hi hB
    gi_wp2
    gi_loopw [34] (fun i wr => ∃ k : Nat, k ≤ ln ∧ i = .int .i64 k ∧ RdInv w p q c g s d a m (cu - a + k) wr ∧ Keep T W' wr ∧ Blk wr bx 55 #[.int .i64 ((d.first : Int) + (cu : Int) / 64), .int .i64 ((cu : Int) % 64)]) (fun i _ => ln - (intOf i).toNat)
    case atStart => exact ⟨0, Nat.zero_le _, rfl, HI.out, Keep.refl _ _, HB.out⟩
    case round =>
      obtain ⟨k, hk, rfl, hI, hK, hBr⟩ := hrel
      by_cases hlt2 : k < ln
      · have hup : s.up ((d.first : Int) + (cu : Int) / 64) ((cu : Int) % 64 + k) 1 = 0 := by
          unfold NorS.up
          rw [if_neg (by rw [HD.out]; simp), if_pos]
          unfold NorS.there
          simp only [Bool.and_eq_true, decide_eq_true_eq]
          omega
        have hrd : s.read ((d.first : Int) + (cu : Int) / 64) ((cu : Int) % 64 + k) = (d.words s a m).getD (cu - a + k) 0 := by
          rw [DrvS.words_get (by omega)]
          unfold NorS.read
          rw [if_pos hup]
          unfold NorS.at_ DrvS.base
          congr 1
          omega
        have RD : Hid (∀ n, Calls Try.prog 42 #[.pointer (some ⟨p, 0, none⟩), .int .i64 ((d.first : Int) + (cu : Int) / 64), .int .i64 ((cu : Int) % 64 + k)] (wr.drewN n) fun e w' => e = .returned (.tuple #[.int .u32 ((d.words s a m).getD (cu - a + k) 0), .int .i64 0]) ∧ wr.drewN n = w') := by
          intro n
          have h := read_is ((d.first : Int) + (cu : Int) / 64) ((cu : Int) % 64 + k) (hI.n.drewN n)
          rwa [hrd, hup] at h
        have hw1 : IntKind.i64.wrap ((cu : Int) % 64 + k) = (cu : Int) % 64 + k := IntWalk.i64_in _ (by omega)
        have hkl : cu - a + k < (d.words s a m).length := by omega
        obtain ⟨y, hy⟩ : ∃ y, (d.words s a m).getD (cu - a + k) 0 = y := ⟨_, rfl⟩
        rw [hy] at RD
        clear hup hrd
        have d3 := hI.c3.cell 0
        have d0 := hI.dr.c0
        have e0 := hBr.cell 0
        have e1 := hBr.cell 1
        have HIr := hide hI
        have HKr := hide hK
        have HBr := hide hBr
        have HY := hide hy
        obtain ⟨v, hbv, hov⟩ := hI.out
        have HV := hide hbv
        have HO := hide hov
        clear hI hK hBr hy hbv hov
        gi_wp2
        refine region_quiet_round (by kernel_rfl) (by kernel_rfl) rfl ?_
        repeat (quiet_step ((go_at_call 42; exact quiet_of' RD.out)))
        refine wpQuiet_nil ?_
        rintro _ ⟨nq, rfl⟩
        have v0 := (Hid.out HV).cell 0
        obtain ⟨W3, hW3⟩ : ∃ W3, wr.drewN nq = W3 := ⟨_, rfl⟩
        have HI3 : Hid (RdInv w p q c g s d a m (cu - a + k) W3) := by rw [← hW3]; exact HIr.out.frm hpl hql hgl ((Frm.refl _ wr).drewN nq)
        have HV3 : Hid (Blk W3 (w.heap.size + 3) 22 #[v]) := by rw [← hW3]; exact HV.out
        have HO3 : Hid (W3.ownsRow (w.heap.size + 9) 48 1 v (cu - a + k) (ints .u32 ((d.words s a m).take (cu - a + k)))) := by
          rw [← hW3]; exact own_frm HO.out ((Frm.refl NoB wr).drewN nq) (fun _ _ e => e)
        have HK3 : Hid (Keep T W' W3) := by rw [← hW3]; exact HKr.out
        have HB3 : Hid (Blk W3 bx 55 #[.int .i64 ((d.first : Int) + (cu : Int) / 64), .int .i64 ((cu : Int) % 64)]) := by rw [← hW3]; exact HBr.out
        have hl3 : w.heap.size + 9 ≤ W3.heap.size := Nat.le_trans hlb HK3.out.1
        rw [hW3]
        have v3 : W3.cell? ⟨w.heap.size + 3, 0, none⟩ = some v := HV3.out.cell 0
        clear d3 d0 e0 e1 v0 hW3 HIr HV HO HKr HBr
        have hin : cu - a + k ≤ 16777216 := by omega
        gi_wp2_with (gi_at_builtin; refine append_word_in rfl (.tmp 54) (.tmp 56) rfl (w.heap.size + 9) (cu - a + k) W3.heap.size v ((d.words s a m).take (cu - a + k)) y rfl rfl ((Hid.out HO3).alloc _) (Blk.new _ _ _) hin (by simp; omega) ?_; intro g2 cap w2 hown2 hgrow2; have z3 : w2.frozen? ⟨w.heap.size + 3, 0, none⟩ = false := (own_box HV3.out HO3.out hgrow2).frozen 0; have y3 := (own_box HV3.out HO3.out hgrow2).cell 0)
        obtain ⟨hI4, hF4⟩ := RdInv.next HI3.out hpl hql hgl HV3.out HO3.out hgrow2 hown2 hkl HY.out
        have hB4 := HB3.out.frm hF4 (fun e => by
          rcases e with e | e
          · exact own_not HB3.out (by decide) HO3.out e
          · omega)
        have hK4 : Keep T W' _ := HK3.out.trans (Keep.of_frm hF4 (fun i hi e => by
          have h1 := hT2 i hi
          rcases e with e | e
          · have := ((Hid.out HO3).lt i e.symm).1; omega
          · exact h1.2 e))
        clear z3 y3 v3 hown2 hgrow2
        gi_wp2
        go_roundw
        case rel => exact ⟨k + 1, by omega, by go_num, by rw [← Nat.add_assoc]; exact hI4, hK4, hB4⟩
        case measure => simp [intOf]; omega
      · obtain rfl : k = ln := by omega
        gi_wp2
        refine ⟨hK, ?_⟩
        have e : pcur a m (List.range j ++ [j]).length - a = cu - a + k := by simp; omega
        show RdInv w p q c g s d a m (pcur a m (List.range j ++ [j]).length - a) wr
        rw [e]
        exact hI
  case done =>
    intro W2 hi hD
    rw [List.length_range, pcur_last, Nat.add_sub_cancel_left] at hi
    obtain ⟨v, hbv, hov⟩ := hi.out
    obtain ⟨A, cp, rfl, hRd, hAb, hcp⟩ := Rd.of_own hov
    have hwl := DrvS.words_length (Hid.out HN).ok HOK.out (a := a) (m := m) (by omega)
    rw [List.take_of_length_le (by omega)] at hRd
    have r6 := hi.r6.cell 0
    have r7 := hi.r7.cell 0
    have v9 := hbv.cell 0
    have f6 := hi.r6.frozen 0
    have f7 := hi.r7.frozen 0
    have B6 := hide (hi.r6.set_ 0 (.slice A m cp))
    have B7 := hide (hi.r7)
    have HF2 := hide hi.f
    have HRd := hide hRd
    have HAb := hide hAb
    have HDe := hide hD
    clear I0 b0 b1 b2 b3 b4 b5 b6 hi hbv hov hRd hAb hD
    refine hK0 _ _ ?_
    go_wp2
    have hF3 : Frm (fun k => k = w.heap.size + 1 ∨ k = w.heap.size + 2) W2 ((W2.setCell ⟨w.heap.size + 1, 0, none⟩ (.slice A m cp)).setCell ⟨w.heap.size + 2, 0, none⟩ (.int .i64 0)) := ((Frm.refl _ W2).setCell (p := ⟨w.heap.size + 1, 0, none⟩) (.inl (.inl rfl)) _).setCell (p := ⟨w.heap.size + 2, 0, none⟩) (.inl (.inr rfl)) _
    have hsz2 := HF2.out.size
    have hDl : w.heap.size + 7 < W2.heap.size := by have := (Array.getElem?_eq_some_iff.1 HDe.out).1; omega
    have n7 : Blk (W2.setCell ⟨w.heap.size + 1, 0, none⟩ (.slice A m cp)) (w.heap.size + 2) 28 #[.int .i64 0] := B7.out.frm ((Frm.refl (One (w.heap.size + 1)) W2).set1 0 _) (fun e => by have e : w.heap.size + 2 = w.heap.size + 1 := e; omega)
    have m7 : Blk ((W2.setCell ⟨w.heap.size + 1, 0, none⟩ (.slice A m cp)).setCell ⟨w.heap.size + 2, 0, none⟩ (.int .i64 0)) (w.heap.size + 2) 28 #[.int .i64 0] := n7.set_ 0 _
    have m6 : Blk ((W2.setCell ⟨w.heap.size + 1, 0, none⟩ (.slice A m cp)).setCell ⟨w.heap.size + 2, 0, none⟩ (.int .i64 0)) (w.heap.size + 1) 22 #[.slice A m cp] := Blk.frm B6.out ((Frm.refl (One (w.heap.size + 2)) _).set1 0 _) (fun e => by have e : w.heap.size + 1 = w.heap.size + 2 := e; omega)
    obtain ⟨W3, hW3⟩ : ∃ W3, (W2.setCell ⟨w.heap.size + 1, 0, none⟩ (.slice A m cp)).setCell ⟨w.heap.size + 2, 0, none⟩ (.int .i64 0) = W3 := ⟨_, rfl⟩
    have hW3' : (W2.setCell ⟨w.heap.size + 1, 0, none⟩ (.slice A m cp)).setCell ⟨w.heap.size + 1 + 1, 0, none⟩ (.int .i64 0) = W3 := hW3
    rw [hW3] at hF3 m6 m7
    rw [hW3']
    have hDe3 : W3.heap[w.heap.size + 7]? = some (.deferred (some [])) := (hF3.block _ hDl (fun e => by omega)).trans (by rw [← hsz]; exact HDe.out)
    have r6' : (W3.putObj (w.heap.size + 7) (.deferred none)).cell? ⟨w.heap.size + 1, 0, none⟩ = some (.slice A m cp) := (World.cell?_of_block (World.putObj_heap_other (by show w.heap.size + 1 ≠ _; omega))).trans (m6.cell 0)
    have r7' : (W3.putObj (w.heap.size + 7) (.deferred none)).cell? ⟨w.heap.size + 1 + 1, 0, none⟩ = some (.int .i64 0) := (World.cell?_of_block (World.putObj_heap_other (by show w.heap.size + 1 + 1 ≠ _; omega))).trans (m7.cell 0)
    have hF4 : Frm (fun k => k = w.heap.size + 1 ∨ k = w.heap.size + 2 ∨ k = w.heap.size + 7) W2 (W3.putObj (w.heap.size + 7) (.deferred none)) := Frm.putObj (hF3.mono (fun k _ e => by omega)) _ (.inl (.inr (.inr rfl)))
    refine postM_mark (v := .tuple #[.slice A m cp, .int .i64 0]) (by simp [results, Try.results9, go_sem, r6', r7']) rfl hDe3 ⟨A, cp, ?_, ?_, (fun b hb => by have := (HAb.out b hb).1; omega), ?_, HF2.out.then_ hF4 (fun i hi e => by omega)⟩
    · rw [E.out, E'.out, hwl]
    · rw [E.out]; exact Rd.frm HRd.out hF4 (fun b hb e => by have := (HAb.out b hb).1; omega)
    · rw [E.out, hwl]; exact hcp
end
end Go.Proofs.Ytplngfphklpicaa

/-
  Pick.
-/
namespace Go.Proofs.Ytplngfphklpicaa
open Go.RowKit

/-- from 0 to n - 1 -/
def pick (x n : Int) : Int := x % n
theorem pick_lo (x : Int) {n : Int} (h : 0 < n) : 0 ≤ pick x n := Int.emod_nonneg _ (by omega)
theorem pick_hi (x : Int) {n : Int} (h : 0 < n) : pick x n < n := Int.emod_lt_of_pos _ h
theorem pick_neg {x : Int} {n : Nat} (hl : x.tmod n < 0) : x.tmod n + n = x % n := by
  rw [Int.emod_eq_tmod]
  split
  · rename_i h
    rcases h with h | h
    · have := Int.tmod_nonneg (n : Int) h; omega
    · rw [Int.tmod_eq_zero_of_dvd h] at hl; omega
  · simp
theorem pick_pos {x : Int} {n : Nat} (hl : 0 ≤ x.tmod n) (hn : 0 < n) : x.tmod n = x % n := by
  rw [Int.emod_eq_tmod]
  split
  · simp
  · rename_i h
    have h1 : x < 0 := by omega
    have h2 : ¬ ((n : Int) ∣ x) := fun e => h (.inr e)
    have h3 : x.tmod n ≤ 0 := by
      have := Int.tmod_nonneg (n : Int) (a := -x) (by omega)
      rw [Int.neg_tmod] at this; omega
    have h4 : x.tmod n = 0 := by omega
    exact absurd (Int.dvd_of_tmod_eq_zero h4) h2
theorem pick_is (x : Int) (n : Nat) (w : World) (h : 1 ≤ n) (h2 : n ≤ 1048576) (hx : -9223372036854775808 ≤ x) (hx2 : x ≤ 9223372036854775807) :
    Calls Try.prog 19 #[.int .i64 x, .int .i64 n] w fun e w' => e = .returned (.int .i64 (pick x n)) ∧ w = w' := by
  have hn : ((n : Int) == 0) = false := by rw [beq_eq_false_iff_ne]; omega
  have hd : decide ((n : Int) ≤ 0) = false := by simp; omega
  have E : Hid (pick x n = x % n) := rfl
  by_cases hl : x.tmod n < 0
  · have hs := hide (pick_neg hl)
    have hb : -(n : Int) < x.tmod n := by have := Int.lt_tmod_of_pos x (b := n) (by omega); omega
    go_enter Try.func19, Try.ntmps19
    go_wp2
    go_ret
    exact ⟨ret_int (hs.out.trans E.out.symm), rfl⟩
  · have hs := hide (pick_pos (x := x) (n := n) (by omega) (by omega))
    go_enter Try.func19, Try.ntmps19
    go_wp2
    go_ret
    exact ⟨ret_int (hs.out.trans E.out.symm), rfl⟩
end Go.Proofs.Ytplngfphklpicaa

/-
  SameWords.
-/
namespace Go.Proofs.Ytplngfphklpicaa
open Go.RowKit

/-- are they the same? -/
def same (a b : List Int) : Bool := decide (a = b)
theorem same_iff {a b : List Int} : same a b = true ↔ a = b := by simp [same]
/-- up to i they are -/
def SameRel (a b : List Int) (w : World) (v : Value) (wr : World) : Prop := ∃ (j : Nat) (m : Nat), j ≤ a.length ∧ v = .int .i64 j ∧ wr = w.drewN m ∧ a.take j = b.take j
def SamePost (a b : List Int) (w : World) (e : Ending) (w' : World) : Prop := e = .returned (.bool (same a b)) ∧ ∃ m, w' = w.drewN m

theorem take_same {a b : List Int} {j : Nat} (h : a.take j = b.take j) (ha : j < a.length) (hb : j < b.length) (he : a.getD j 0 = b.getD j 0) : a.take (j + 1) = b.take (j + 1) := by
  rw [List.take_succ_eq_append_getElem ha, List.take_succ_eq_append_getElem hb, h]
  simp only [List.getD_eq_getElem?_getD, List.getElem?_eq_getElem ha, List.getElem?_eq_getElem hb, Option.getD_some] at he
  rw [he]
set_option maxHeartbeats 400000 in
theorem sameWords_is (a b : List Int) (A B : Option Addr) (ca cb : Nat) (w : World) (ha : Rd w A (ints .u32 a)) (hb : Rd w B (ints .u32 b)) (hla : (a.length : Int) ≤ 9223372036854775807) :
    Calls Try.prog 24 #[.slice A a.length ca, .slice B b.length cb] w (SamePost a b w) := by
  by_cases hl : a.length = b.length
  · have h1 : ((a.length : Int) != (b.length : Int)) = false := by rw [hl]; simp
    have h1' : (a.length != b.length) = false := by rw [hl]; simp
    have HL : Hid (a.length = b.length) := hl
    have hl1 : a.length ≤ b.length := by omega
    clear hl
    go_enter Try.func24, Try.ntmps24
    go_wp2
    go_loopw [5] (fun v wr => SameRel a b w v wr) (fun v _ => a.length - (intOf v).toNat)
    case atStart => exact ⟨0, 0, by omega, rfl, rfl, rfl⟩
    case round =>
      obtain ⟨j, m, hj, rfl, rfl, ht⟩ := hrel
      have HT := hide ht
      clear ht
      by_cases hlt : j < a.length
      · have hltb : j < b.length := by omega
        obtain ⟨ba, oa, rfl, hca⟩ := ha (ints_ne (by intro e; subst e; simp at hlt))
        obtain ⟨bb, ob, rfl, hcb⟩ := hb (ints_ne (by intro e; subst e; simp at hltb))
        have h1 := hca j _ (ints_get hlt)
        have h2 := hcb j _ (ints_get hltb)
        have i0 : (0 : Int) ≤ (j : Int) := by omega
        have i1 : (j : Int) < (a.length : Int) := by omega
        have i2 : (j : Int) < (b.length : Int) := by omega
        clear ha hb hca hcb
        have hxy : Hid (∀ x y, a.getD j 0 = x → b.getD j 0 = y → x = y → a.take (j + 1) = b.take (j + 1)) := fun x y hx hy he => take_same HT.out hlt hltb (by rw [hx, hy, he])
        have hxn : Hid (∀ x y, a.getD j 0 = x → b.getD j 0 = y → x ≠ y → same a b = false) := fun x y hx hy he => by
          rw [Bool.eq_false_iff]; intro e; rw [same_iff.1 e] at hx; exact he (hx.symm.trans hy)
        generalize hx : a.getD j 0 = x at h1
        generalize hy : b.getD j 0 = y at h2
        have HX := hide hx
        have HY := hide hy
        clear hx hy
        by_cases he : x = y
        · have hf : (x != y) = false := by simpa using he
          have HE := hide he
          clear he
          go_wp2
          go_quiet (fail)
          go_wp2
          go_roundw
          case rel => exact ⟨j + 1, _, by omega, by go_num, rfl, hxy.out _ _ HX.out HY.out HE.out⟩
          case measure => simp [intOf]; omega
        · have hf : (x != y) = true := by simpa using he
          have HE := hide he
          clear he
          go_wp2
          go_quiet (fail)
          go_wp2
          go_ret
          exact ⟨ret_bool (hxn.out _ _ HX.out HY.out HE.out).symm, _, World.drewN_drewN _ _ _⟩
      · obtain rfl : j = a.length := by omega
        have hs : same a b = true := by
          rw [same_iff]
          have := HT.out
          rw [List.take_length, List.take_of_length_le (Nat.le_of_eq HL.out.symm)] at this
          exact this
        have HS := hide hs
        clear hs ha hb
        go_wp2
        go_ret
        exact ⟨ret_bool HS.out.symm, _, rfl⟩
  · have hne : same a b = false := by
      rw [Bool.eq_false_iff]; intro e; exact hl (by rw [same_iff.1 e])
    have h1 : ((a.length : Int) != (b.length : Int)) = true := by simp; omega
    have h1' : (a.length != b.length) = true := by simpa using hl
    have H := hide hne
    clear ha hb hl hne
    go_enter Try.func24, Try.ntmps24
    go_wp2
    go_ret
    exact ⟨ret_bool H.out.symm, 0, rfl⟩
end Go.Proofs.Ytplngfphklpicaa

/-
  The helpers of the flash's statements: Pick, SameWords.
-/
namespace Go.Proofs.Ytplngfphklpicaa
end Go.Proofs.Ytplngfphklpicaa

/-
  slices.Equal, slices.ContainsFunc at words.
-/
namespace Go.Proofs.Ytplngfphklpicaa
open Go.RowKit
set_option maxHeartbeats 400000 in
theorem equal_is (a b : List Int) (A B : Option Addr) (ca cb : Nat) (w : World) (ha : Rd w A (ints .u32 a)) (hb : Rd w B (ints .u32 b)) (hla : (a.length : Int) ≤ 9223372036854775807) :
    Calls Try.prog 46 #[.slice A a.length ca, .slice B b.length cb] w (SamePost a b w) := by
  by_cases hl : a.length = b.length
  · have h1 : ((a.length : Int) != (b.length : Int)) = false := by rw [hl]; simp
    have h1' : (a.length != b.length) = false := by rw [hl]; simp
    have HL : Hid (a.length = b.length) := hl
    have hl1 : a.length ≤ b.length := by omega
    clear hl
    go_enter Try.func46, Try.ntmps46
    go_wp2
    go_loopw [13] (fun v wr => SameRel a b w v wr) (fun v _ => a.length - (intOf v).toNat)
    case atStart => exact ⟨0, 0, by omega, rfl, rfl, rfl⟩
    case round =>
      obtain ⟨j, m, hj, rfl, rfl, ht⟩ := hrel
      have HT := hide ht
      clear ht
      by_cases hlt : j < a.length
      · have hltb : j < b.length := by omega
        obtain ⟨ba, oa, rfl, hca⟩ := ha (ints_ne (by intro e; subst e; simp at hlt))
        obtain ⟨bb, ob, rfl, hcb⟩ := hb (ints_ne (by intro e; subst e; simp at hltb))
        have h1 := hca j _ (ints_get hlt)
        have h2 := hcb j _ (ints_get hltb)
        have i0 : (0 : Int) ≤ (j : Int) := by omega
        have i1 : (j : Int) < (a.length : Int) := by omega
        have i2 : (j : Int) < (b.length : Int) := by omega
        clear ha hb hca hcb
        have hxy : Hid (∀ x y, a.getD j 0 = x → b.getD j 0 = y → x = y → a.take (j + 1) = b.take (j + 1)) := fun x y hx hy he => take_same HT.out hlt hltb (by rw [hx, hy, he])
        have hxn : Hid (∀ x y, a.getD j 0 = x → b.getD j 0 = y → x ≠ y → same a b = false) := fun x y hx hy he => by
          rw [Bool.eq_false_iff]; intro e; rw [same_iff.1 e] at hx; exact he (hx.symm.trans hy)
        generalize hx : a.getD j 0 = x at h1
        generalize hy : b.getD j 0 = y at h2
        have HX := hide hx
        have HY := hide hy
        clear hx hy
        by_cases he : x = y
        · have hf : (x != y) = false := by simpa using he
          have HE := hide he
          clear he
          go_wp2
          go_quiet (fail)
          go_wp2
          go_roundw
          case rel => exact ⟨j + 1, _, by omega, by go_num, rfl, hxy.out _ _ HX.out HY.out HE.out⟩
          case measure => simp [intOf]; omega
        · have hf : (x != y) = true := by simpa using he
          have HE := hide he
          clear he
          go_wp2
          go_quiet (fail)
          go_wp2
          go_ret
          exact ⟨ret_bool (hxn.out _ _ HX.out HY.out HE.out).symm, _, World.drewN_drewN _ _ _⟩
      · obtain rfl : j = a.length := by omega
        have hs : same a b = true := by
          rw [same_iff]
          have := HT.out
          rw [List.take_length, List.take_of_length_le (Nat.le_of_eq HL.out.symm)] at this
          exact this
        have HS := hide hs
        clear hs ha hb
        go_wp2
        go_ret
        exact ⟨ret_bool HS.out.symm, _, rfl⟩
  · have hne : same a b = false := by
      rw [Bool.eq_false_iff]; intro e; exact hl (by rw [same_iff.1 e])
    have h1 : ((a.length : Int) != (b.length : Int)) = true := by simp; omega
    have h1' : (a.length != b.length) = true := by simpa using hl
    have H := hide hne
    clear ha hb hl hne
    go_enter Try.func46, Try.ntmps46
    go_wp2
    go_ret
    exact ⟨ret_bool H.out.symm, 0, rfl⟩
theorem odd_is (x : Int) (w : World) : Calls Try.prog 48 #[.int .u32 x] w fun e w' => e = .returned (.bool (x != 4294967295)) ∧ w = w' := by
  go_enter Try.func48, Try.ntmps48
  go_wp2
  go_ret
  exact ⟨rfl, rfl⟩
/-- the first odd one, or -1 -/
def IdxPost (a : List Int) (w : World) (e : Ending) (w' : World) : Prop := (∃ r : Int, e = .returned (.int .i64 r) ∧ decide (0 ≤ r) = a.any (fun x => x != 4294967295)) ∧ w = w'
def IdxRel (a : List Int) (w : World) (v : Value) (wr : World) : Prop := ∃ j : Nat, j ≤ a.length ∧ v = .int .i64 j ∧ wr = w ∧ (a.take j).any (fun x => x != 4294967295) = false
theorem index_is (a : List Int) (A : Option Addr) (ca : Nat) (w : World) (ha : Rd w A (ints .u32 a)) (hla : (a.length : Int) ≤ 9223372036854775807) :
    Calls Try.prog 64 #[.slice A a.length ca, .func (.func 48) #[] #[]] w (IdxPost a w) := by
  go_enter Try.func64, Try.ntmps64
  go_wp2
  go_loopw [8] (fun v wr => IdxRel a w v wr) (fun v _ => a.length - (intOf v).toNat)
  case atStart => exact ⟨0, by omega, rfl, rfl, rfl⟩
  case round =>
    obtain ⟨j, hj, rfl, rfl, ht⟩ := hrel
    have HT := hide ht
    clear ht
    by_cases hlt : j < a.length
    · obtain ⟨ba, oa, rfl, hca⟩ := ha (ints_ne (by intro e; subst e; simp at hlt))
      have h1 := hca j _ (ints_get hlt)
      have i0 : (0 : Int) ≤ (j : Int) := by omega
      have i1 : (j : Int) < (a.length : Int) := by omega
      have e : a.take (j + 1) = a.take j ++ [a.getD j 0] := by
        rw [List.take_succ_eq_append_getElem hlt, List.getD_eq_getElem?_getD, List.getElem?_eq_getElem hlt, Option.getD_some]
      have E := hide e
      clear ha hca e
      have HA : Hid ((a.take (j + 1)).any (fun x => x != 4294967295) = (a.getD j 0 != 4294967295)) := by
        show _ = _
        rw [E.out, List.any_append, HT.out]; simp
      have HB : Hid ((a.take (j + 1)).any (fun x => x != 4294967295) = true → a.any (fun x => x != 4294967295) = true) := fun h => by
        obtain ⟨x, hx, h2⟩ := List.any_eq_true.1 h
        exact List.any_eq_true.2 ⟨x, List.mem_of_mem_take hx, h2⟩
      generalize hx : a.getD j 0 = x at h1
      rw [hx] at HA
      have HX := hide hx
      clear hx
      by_cases he : (x != 4294967295) = true
      · rw [he] at HA
        go_wp2_with (go_at_call 48; refine (odd_is _ _).mono ?_; rw [he]; rintro e w' ⟨rfl, rfl⟩)
        go_ret
        exact ⟨⟨j, rfl, by rw [HB.out HA.out]; simp⟩, rfl⟩
      · have he : (x != 4294967295) = false := by simpa using he
        rw [he] at HA
        go_wp2_with (go_at_call 48; refine (odd_is _ _).mono ?_; rw [he]; rintro e w' ⟨rfl, rfl⟩)
        go_roundw
        case rel => exact ⟨j + 1, by omega, by go_num, rfl, HA.out⟩
        case measure => simp [intOf]; omega
    · obtain rfl : j = a.length := by omega
      have HT2 : Hid (a.any (fun x => x != 4294967295) = false) := by
        have := HT.out
        rwa [List.take_length] at this
      clear ha
      go_wp2
      go_ret
      exact ⟨⟨-1, rfl, by rw [HT2.out]; rfl⟩, rfl⟩
theorem contains_is (a : List Int) (A : Option Addr) (ca : Nat) (w : World) (ha : Rd w A (ints .u32 a)) (hla : (a.length : Int) ≤ 9223372036854775807) :
    Calls Try.prog 49 #[.slice A a.length ca, .func (.func 48) #[] #[]] w fun e w' => e = .returned (.bool (a.any (fun x => x != 4294967295))) ∧ w = w' := by
  have HA := hide (index_is a A ca w ha hla)
  clear ha
  go_enter Try.func49, Try.ntmps49
  go_wp2_with (go_at_call 64; refine HA.out.mono ?_; rintro e w' ⟨⟨r, rfl, hr⟩, rfl⟩; have HR := hide hr; clear hr)
  go_ret
  exact ⟨ret_bool HR.out, rfl⟩
end Go.Proofs.Ytplngfphklpicaa

/-
  The drive: Read at any place; Blank.
-/
namespace Go.Proofs.Ytplngfphklpicaa
open Go.RowKit
theorem NoDrv.frm {w w' : World} {v : Value} (h : NoDrv w v) (hf : Frm NoB w w') : NoDrv w' v := by
  rcases h with rfl | ⟨g, rfl, hc⟩
  · exact .inl rfl
  · exact .inr ⟨g, rfl, (hf.cell (World.block_lt_of_cell? w _ hc) (fun e => e)).trans hc⟩
section
variable {w : World} {g p q c : Nat} {s : NorS} {d : DrvS}
theorem dread_is (a m : Int) (h : DrvAt w g p d) (hn : NorAt w p q c s) (hd : d.Ok s) :
    Calls Try.prog 9 #[.pointer (some ⟨g, 0, none⟩), .int .i64 a, .int .i64 m] w (DrdPost w d s a m) := by
  by_cases he : d.rdE s a m = 0
  · obtain ⟨_, h1, h2, _, _⟩ := DrvS.rdE_zero he
    obtain ⟨A, rfl⟩ := Int.eq_ofNat_of_zero_le h1
    obtain ⟨M, rfl⟩ := Int.eq_ofNat_of_zero_le h2
    exact dread_ok A M h hn hd he
  · exact dread_bad a m h hn hd he
/-- .. of none -/
theorem dread_no (a m : Int) (v : Value) (h : NoDrv w v) :
    Calls Try.prog 9 #[v, .int .i64 a, .int .i64 m] w fun e w' => e = .returned (.tuple #[.slice none 0 0, .int .i64 1]) ∧ Frm NoB w w' := by
  have hv : ∃ X, v = .pointer X := by rcases h with rfl | ⟨g, rfl, _⟩ <;> exact ⟨_, rfl⟩
  obtain ⟨X, rfl⟩ := hv
  have H := hide (h.frm ((((Frm.refl NoB w).alloc (.cells #[.pointer X] 23)).alloc (.cells #[.slice none 0 0] 22)).alloc (.cells #[.int .i64 0] 28)))
  clear h
  refine calls_marks Try.func9 rfl ?_
  simp only [Try.ntmps9, List.size_toArray, List.length_cons, List.length_nil, Nat.reduceAdd, Nat.reduceSub, Array.replicate_succ, Array.replicate_zero, List.push_toArray, List.append_toArray, List.nil_append, List.cons_append]
  go_wp2_with (go_at_call 40; refine (dthere_no _ _ _ H.out).mono ?_; rintro e w' ⟨rfl, rfl⟩)
  refine postM_ret (v := .tuple #[.slice none 0 0, .int .i64 1]) (by simp [results, Try.results9, go_sem]) rfl ⟨rfl, (((Frm.refl NoB w).alloc _).alloc _).alloc _⟩
theorem dblank_is (a m : Int) (h : DrvAt w g p d) (hn : NorAt w p q c s) (hd : d.Ok s) :
    Calls Try.prog 13 #[.pointer (some ⟨g, 0, none⟩), .int .i64 a, .int .i64 m] w fun e w' => e = .returned (.bool (d.blank s a m)) ∧ Frm NoB w w' := by
  have HR := hide (dread_is a m h hn hd)
  have hlen : ((d.rd s a m).length : Int) ≤ 9223372036854775807 := by
    unfold DrvS.rd DrvS.words
    split
    · rename_i he
      obtain ⟨_, h1, h2, h3, h4⟩ := DrvS.rdE_zero he
      have := hd.n; have := hn.ok.n2
      simp; omega
    · simp
  have HL := hide hlen
  clear h hn hd hlen
  by_cases he : d.rdE s a m = 0
  · have E : Hid (d.blank s a m = !((d.rd s a m).any (fun x => x != 4294967295))) := by
      show _ = _
      unfold DrvS.blank
      rw [he, List.not_any_eq_all_not]
      simp [bne]
    obtain ⟨l, hl⟩ : ∃ l, d.rd s a m = l := ⟨_, rfl⟩
    go_enter Try.func13, Try.ntmps13
    go_wp2_with (first
      | (go_at_call 9; refine HR.out.mono ?_; rintro e w' ⟨A, cp, h1, hRd, hA, hcp, hF⟩; rw [he, hl] at h1; rw [hl] at hRd; subst h1; have HRd := hide hRd; have HF := hide hF; clear hRd hA hcp hF)
      | (go_at_call 49; refine (contains_is l _ _ _ (HRd.out) (by rw [← hl]; exact HL.out)).mono ?_; rintro e w' ⟨rfl, rfl⟩))
    go_ret
    exact ⟨ret_bool (by rw [E.out, hl]), HF.out⟩
  · have E : Hid (d.blank s a m = false) := by
      show _ = _
      unfold DrvS.blank
      rw [decide_eq_false he]; rfl
    have hb : (d.rdE s a m == 0) = false := by simpa using he
    obtain ⟨l, hl⟩ : ∃ l, d.rd s a m = l := ⟨_, rfl⟩
    obtain ⟨k, hk⟩ : ∃ k, d.rdE s a m = k := ⟨_, rfl⟩
    rw [hk] at hb
    go_enter Try.func13, Try.ntmps13
    go_wp2_with (first
      | (go_at_call 9; refine HR.out.mono ?_; rintro e w' ⟨A, cp, h1, hRd, hA, hcp, hF⟩; rw [hk, hl] at h1; rw [hl] at hRd; subst h1; have HRd := hide hRd; have HF := hide hF; clear hRd hA hcp hF))
    go_ret
    exact ⟨ret_bool E.out.symm, HF.out⟩
theorem dblank_no (a m : Int) (v : Value) (h : NoDrv w v) :
    Calls Try.prog 13 #[v, .int .i64 a, .int .i64 m] w fun e w' => e = .returned (.bool false) ∧ Frm NoB w w' := by
  have HR := hide (dread_no a m v h)
  clear h
  go_enter Try.func13, Try.ntmps13
  go_wp2_with (go_at_call 9; refine HR.out.mono ?_; rintro e w' ⟨rfl, hF⟩; have HF := hide hF; clear hF)
  go_ret
  exact ⟨rfl, HF.out⟩
end
end Go.Proofs.Ytplngfphklpicaa

/-
  Plain: would a bit have to be set; words that are programmed in pieces.
-/
namespace Go.Proofs.Ytplngfphklpicaa
theorem and_not_zero (a b : Nat) (ha : a < 4294967296) (hb : b < 4294967296) : a &&& (4294967295 - b) = 0 ↔ a &&& b = a := by
  have hc : ∀ i, (4294967295 - b).testBit i = (decide (i < 32) && !b.testBit i) := fun i => by
    have := Nat.testBit_two_pow_sub_succ (n := 32) (x := b) (by simpa using hb) i
    rwa [show 2 ^ 32 - (b + 1) = 4294967295 - b from by omega] at this
  constructor
  · intro h
    apply Nat.eq_of_testBit_eq
    intro i
    have h1 : (a &&& (4294967295 - b)).testBit i = false := by rw [h]; simp
    rw [Nat.testBit_and, hc] at h1
    rw [Nat.testBit_and]
    by_cases hi : i < 32
    · simp [hi] at h1
      cases hx : a.testBit i
      · simp
      · simp [h1 hx]
    · have : a.testBit i = false := Nat.testBit_lt_two_pow (Nat.lt_of_lt_of_le ha (by simpa using Nat.pow_le_pow_right (show 0 < 2 by omega) (show 32 ≤ i by omega)))
      simp [this]
  · intro h
    apply Nat.eq_of_testBit_eq
    intro i
    have h1 : (a &&& b).testBit i = a.testBit i := by rw [h]
    rw [Nat.testBit_and] at h1
    rw [Nat.testBit_and, hc]
    cases hx : a.testBit i
    · simp
    · rw [hx] at h1; simp at h1; simp [h1]
theorem andNot_ne {x y : Int} (h1 : 0 ≤ x) (h2 : x < 4294967296) (h3 : 0 ≤ y) (h4 : y < 4294967296) : (bits .andNot .u32 x y != 0) = !(wand x y == x) := by
  rw [u32_andNot x y h1 h2 h3 h4]
  have h := and_not_zero x.toNat y.toNat (by omega) (by omega)
  unfold wand
  by_cases e : x.toNat &&& y.toNat = x.toNat
  · have e1 := h.2 e
    have e2 : ((x.toNat &&& y.toNat : Nat) : Int) = x := by rw [e]; omega
    rw [e1, e2]; simp
  · have e1 : ¬ x.toNat &&& (4294967295 - y.toNat) = 0 := fun e' => e (h.1 e')
    have e2 : ¬ ((x.toNat &&& y.toNat : Nat) : Int) = x := fun e' => e (by omega)
    have a1 : (((x.toNat &&& (4294967295 - y.toNat) : Nat) : Int) != 0) = true := by simpa using e1
    have a2 : (((x.toNat &&& y.toNat : Nat) : Int) == x) = false := by simpa using e2
    rw [a1, a2]; rfl
namespace NorS
theorem take_more (l : List Int) (k m : Nat) : l.take (k + m) = l.take k ++ (l.drop k).take m := by
  rw [List.take_add]
/-- a piece more -/
theorem prog_piece {s : NorS} {i k m : Nat} {l : List Int} (h : s.progs (l.take k) = true) (hk : k ≤ l.length) : s.prog i (l.take (k + m)) = (s.prog i (l.take k)).prog (i + k) ((l.drop k).take m) ∧ s.progs (l.take (k + m)) = (s.prog i (l.take k)).progs ((l.drop k).take m) := by
  rw [take_more, prog_append, progs_append (l.take k) _ s i, h, if_pos rfl, List.length_take, Nat.min_eq_left hk]
  exact ⟨rfl, by simp⟩
/-- the power fails -/
theorem prog_stop {s : NorS} {i k : Nat} {l : List Int} (h : s.progs (l.take k) = false) : s.prog i l = s.prog i (l.take k) ∧ s.progs l = false := by
  have e : l = l.take k ++ l.drop k := (List.take_append_drop k l).symm
  refine ⟨?_, ?_⟩
  · conv => lhs; rw [e]
    rw [prog_append, h, if_neg (by simp)]
  · rw [e, progs_append (l.take k) _ s i, h]; rfl
end NorS
end Go.Proofs.Ytplngfphklpicaa

/-
  A region that draws its order, within a round: reads in the order of the text, and what stands alone.
-/
namespace Go.Proofs.Ytplngfphklpicaa
open Go.RowKit
variable {P : Program} {n l₀ : Nat} {ops : Array Oper} {md : Region.Mode} {Q : Exit → Act → World → Prop} {S : World → Prop}

/-- it yields, in every world that meets S -/
def Oper.yields (P : Program) (o : Oper) (a : Act) (S : World → Prop) (K : Act → Prop) : Prop := ∃ v, (∀ w, S w → (execOp a.eval o).run P w = .ok (.value v) w) ∧ K (a.put o.dst v)
/-- the marks: true, it only reads; false, it stands alone -/
def lexM (md : Region.Mode) (ops : Array Oper) : List Bool → Nat → Array Bool → Bool
  | [], _, listed => (Region.ready md ops listed).isEmpty
  | true :: r, k, listed => (Region.ready md ops listed).contains k && Region.free md ops listed k && lexM md ops r (k + 1) (listed.setIfInBounds k true)
  | false :: r, k, listed => (Region.ready md ops listed == [k]) && lexM md ops r (k + 1) (listed.setIfInBounds k true)
/-- the walk in the order of the text -/
def wpMix (P : Program) (ops : Array Oper) (Q : Exit → Act → World → Prop) (S : World → Prop) : List Oper → List Bool → Act → World → Prop
  | o :: l, true :: r, a, w => if Region.wanted o (yielded ops a.tmps) = true then Oper.yields P o a S (fun a' => wpMix P ops Q S l r a' w) else wpMix P ops Q S l r (a.put o.dst undef) w
  | o :: l, false :: r, a, w => if Region.wanted o (yielded ops a.tmps) = true then Oper.wp P o a w (fun a' w' => S w' ∧ (S w' → wpMix P ops Q S l r a' w')) Q else S w ∧ wpMix P ops Q S l r (a.put o.dst undef) w
  | [], _, a, w => Q .normal a w
  | _, [], a, w => Q .normal a w
theorem wpMix_nil {r : List Bool} {a : Act} {w : World} (h : Q .normal a w) : wpMix P ops Q S [] r a w := by unfold wpMix; exact h
theorem wpMix_take {o : Oper} {l : List Oper} {r : List Bool} {a : Act} {w : World} (v : Value) (hw : Region.wanted o (yielded ops a.tmps) = true) (hv : ∀ w, S w → (execOp a.eval o).run P w = .ok (.value v) w) (h : wpMix P ops Q S l r (a.put o.dst v) w) :
    wpMix P ops Q S (o :: l) (true :: r) a w := by
  unfold wpMix
  rw [if_pos hw]
  exact ⟨v, hv, h⟩
theorem wpMix_alone {o : Oper} {l : List Oper} {r : List Bool} {a : Act} {w : World} (hw : Region.wanted o (yielded ops a.tmps) = true)
    (h : ∀ K : Act → World → Prop, (∀ a w, S w → (S w → wpMix P ops Q S l r a w) → K a w) → Oper.wp P o a w K Q) : wpMix P ops Q S (o :: l) (false :: r) a w := by
  unfold wpMix
  rw [if_pos hw]
  exact h _ (fun a' w' h1 h2 => ⟨h1, h2⟩)
theorem wpAnyH_mix (hs : Region.noSelect ops = true) (hQ : ∀ c a d v w, Q (.panic c) (a.put d v) w → Q (.panic c) a w) : ∀ (l : List Oper) (r : List Bool) (k : Nat) (listed : Array Bool) (a : Act) (w : World), l.length = r.length → (∀ j, l[j]? = ops[k + j]?) →
    lexM md ops r k listed = true → S w → wpMix P ops Q S l r a w → wpAnyH P md ops Q S l.length listed a w
  | [], [], k, listed, a, w, _, _, hB, _, h => by
    unfold wpMix at h
    exact ⟨by simpa [lexM] using hB, h⟩
  | [], _ :: _, _, _, _, _, hl, _, _, _, _ => by simp at hl
  | _ :: _, [], _, _, _, _, hl, _, _, _, _ => by simp at hl
  | o :: l, true :: r, k, listed, a, w, hl, hj, hB, hS, h => by
    have h0 : ops[k]? = some o := by simpa using (hj 0).symm
    have hj' : ∀ j, l[j]? = ops[k + 1 + j]? := fun j => by have := hj (j + 1); simpa [Nat.add_assoc, Nat.add_comm 1 j] using this
    simp only [lexM, Bool.and_eq_true] at hB
    obtain ⟨⟨hr, hf⟩, hB'⟩ := hB
    unfold wpMix at h
    by_cases hw : Region.wanted o (yielded ops a.tmps) = true
    · rw [if_pos hw] at h
      obtain ⟨v, hv, h⟩ := h
      exact wpAnyH_take h0 hs hf hr (fun c a w => hQ c a _ _ w) (.inl ⟨hw, hv⟩) hS (wpAnyH_mix hs hQ l r (k + 1) _ _ w (by simpa using hl) hj' hB' hS h)
    · rw [if_neg hw] at h
      exact wpAnyH_take h0 hs hf hr (fun c a w => hQ c a _ _ w) (.inr ⟨by simpa using hw, rfl⟩) hS (wpAnyH_mix hs hQ l r (k + 1) _ _ w (by simpa using hl) hj' hB' hS h)
  | o :: l, false :: r, k, listed, a, w, hl, hj, hB, hS, h => by
    have h0 : ops[k]? = some o := by simpa using (hj 0).symm
    have hj' : ∀ j, l[j]? = ops[k + 1 + j]? := fun j => by have := hj (j + 1); simpa [Nat.add_assoc, Nat.add_comm 1 j] using this
    simp only [lexM, Bool.and_eq_true] at hB
    obtain ⟨hr, hB'⟩ := hB
    have hr : Region.ready md ops listed = [k] := by simpa using hr
    refine wpAnyH_all hr (by simp) (fun i hi => ?_)
    obtain rfl : i = k := by simpa using hi
    unfold wpMix at h
    unfold wpOp
    rw [h0]
    simp only
    by_cases hw : Region.wanted o (yielded ops a.tmps) = true
    · rw [if_pos hw] at h ⊢
      exact .inl (Oper.wp_mono (fun a' w' h' => ⟨h'.1, wpAnyH_mix hs hQ l r (i + 1) _ _ w' (by simpa using hl) hj' hB' h'.1 (h'.2 h'.1)⟩) h)
    · rw [if_neg hw] at h ⊢
      exact ⟨h.1, wpAnyH_mix hs hQ l r (i + 1) _ _ w (by simpa using hl) hj' hB' hS h.2⟩
/-- A region that draws its order, within a round. -/
theorem region_mix_round {id : Nat} {a : Act} {w : World} {l : List Oper} (r : List Bool) (hm : P.follows .mixedOrders = true) (hc : l.all (fun o => Oper.calm o) = true) (hs : Region.noSelect l.toArray = true) (hl : l.length = r.length)
    (hB : lexM .any l.toArray r 0 (Array.replicate l.length false) = true) (hO : ¬ LetsOut Q) (hQ : ∀ c a d v w, Q (.panic c) (a.put d v) w → Q (.panic c) a w) (hS : S w.drew)
    (h : S w.drew → wpMix P l.toArray Q S l r a w.drew) : (Code.region id l.toArray true).wpIn (Fence.wide.inRound l₀) n P Q a w := by
  refine wpIn_region_any hm (anyIn_of_any hc hO _ _ _ _ (wpAny_of_held (S := S) _ _ _ _ ?_))
  have := wpAnyH_mix (md := .any) hs hQ l r 0 (Array.replicate l.length false) a w.drew hl (by simp) hB hS (h hS)
  simpa using this
end Go.Proofs.Ytplngfphklpicaa

/-
  The drive: Write.
-/
namespace Go.Proofs.Ytplngfphklpicaa
open Go.RowKit
attribute [local go_sem] Oper.semAt_some
/-- what Write's frame holds, its state s' -/
structure WrInv (w : World) (p q c g : Nat) (d : DrvS) (A : Option Addr) (cp : Nat) (l : List Int) (s' : NorS) (W : World) : Prop where
  n : NorAt W p q c s'
  dr : DrvAt W g p d
  c3 : Blk W w.heap.size 23 #[.pointer (some ⟨g, 0, none⟩)]
  c5 : Blk W (w.heap.size + 1) 22 #[.slice A l.length cp]
  c6 : Blk W (w.heap.size + 2) 28 #[.int .i64 0]
  rl : Rd W A (ints .u32 l)
  f : Frm (Two p q) w W
theorem Rd.frm' {S : Nat → Prop} {w w' : World} {A : Option Addr} {l : List Int} (h : Rd w A (ints .u32 l)) (hf : Frm S w w') (hS : l ≠ [] → ∀ x, A = some x → ¬ S x.block) : Rd w' A (ints .u32 l) := by
  by_cases e : l = []
  · subst e; exact Rd.nil _ _
  · exact Rd.frm h hf (hS e)
theorem WrInv.frm {S : Nat → Prop} {w W W' : World} {p q c g : Nat} {d : DrvS} {A : Option Addr} {cp : Nat} {l : List Int} {s' : NorS} (h : WrInv w p q c g d A cp l s' W) (hp : p < w.heap.size) (hq : q < w.heap.size) (hg : g < w.heap.size)
    (hA : l ≠ [] → ∀ x, A = some x → x.block < w.heap.size) (hf : Frm S W W') (hS : ∀ k, k < w.heap.size + 3 → ¬ S k) : WrInv w p q c g d A cp l s' W' :=
  ⟨h.n.frm hf (hS _ (by omega)) (hS _ (by omega)), h.dr.frm hf (hS _ (by omega)), h.c3.frm hf (hS _ (by omega)), h.c5.frm hf (hS _ (by omega)), h.c6.frm hf (hS _ (by omega)), Rd.frm' h.rl hf (fun e x hx => hS _ (by have := hA e x hx; omega)), h.f.then_ hf (fun k hk e => (hS k (by omega) e).elim)⟩
theorem three_boxes {w : World} {c0 c1 c2 : Array Value} {t0 t1 t2 : TypeId} : Blk (((w.alloc (.cells c0 t0)).alloc (.cells c1 t1)).alloc (.cells c2 t2)) w.heap.size t0 c0 ∧ Blk (((w.alloc (.cells c0 t0)).alloc (.cells c1 t1)).alloc (.cells c2 t2)) (w.heap.size + 1) t1 c1 ∧ Blk (((w.alloc (.cells c0 t0)).alloc (.cells c1 t1)).alloc (.cells c2 t2)) (w.heap.size + 2) t2 c2 := by
  have n1 := Blk.new (w.alloc (.cells c0 t0)) t1 c1
  have n2 := Blk.new ((w.alloc (.cells c0 t0)).alloc (.cells c1 t1)) t2 c2
  simp only [World.size_alloc] at n1 n2
  exact ⟨((Blk.new w t0 c0).alloc _).alloc _, n1.alloc _, n2⟩
theorem four_boxes {w W : World} {c0 c1 c2 c3 : Array Value} {t0 t1 t2 t3 : TypeId} (hW : (((w.alloc (.cells c0 t0)).alloc (.cells c1 t1)).alloc (.cells c2 t2)).alloc (.cells c3 t3) = W) :
    W.heap.size = w.heap.size + 4 ∧ Frm NoB w W ∧ Blk W w.heap.size t0 c0 ∧ Blk W (w.heap.size + 1) t1 c1 ∧ Blk W (w.heap.size + 2) t2 c2 ∧ Blk W (w.heap.size + 3) t3 c3 := by
  subst hW
  have n1 := Blk.new (w.alloc (.cells c0 t0)) t1 c1
  have n2 := Blk.new ((w.alloc (.cells c0 t0)).alloc (.cells c1 t1)) t2 c2
  have n3 := Blk.new (((w.alloc (.cells c0 t0)).alloc (.cells c1 t1)).alloc (.cells c2 t2)) t3 c3
  simp only [World.size_alloc] at n1 n2 n3
  exact ⟨by simp only [World.size_alloc], ((((Frm.refl NoB w).alloc _).alloc _).alloc _).alloc _, (((Blk.new w t0 c0).alloc _).alloc _).alloc _, (n1.alloc _).alloc _, n2.alloc _, n3⟩
theorem Rd.drop {w : World} {A : Addr} {vs : List Value} (h : Rd w (some A) vs) (k : Nat) : Rd w (some ⟨A.block, A.off + k, none⟩) (vs.drop k) := fun hv => by
  have h0 : vs ≠ [] := fun e => hv (by rw [e]; simp)
  obtain ⟨b, o, e, hc⟩ := h h0
  injection e with e
  subst e
  refine ⟨b, o + k, rfl, fun i v hi => ?_⟩
  rw [List.getElem?_drop] at hi
  have := hc (k + i) v hi
  rw [show o + k + i = o + (k + i) from by omega]
  exact this
/-- between two pieces: k words are written -/
structure WrRel (w : World) (p q c g : Nat) (d : DrvS) (A : Option Addr) (cp : Nat) (l : List Int) (s : NorS) (i C k : Nat) (W : World) : Prop where
  inv : WrInv w p q c g d A cp l (s.prog i (l.take k)) W
  ok : s.progs (l.take k) = true
  kb : Blk W C 3 #[.int .i64 k]
theorem WrInv.turn {w W W' : World} {p q c g : Nat} {d : DrvS} {A : Option Addr} {cp : Nat} {l : List Int} {s1 s2 : NorS} {C : Nat} (h : WrInv w p q c g d A cp l s1 W) (hN : NorAt W' p q c s2) (hf : Frm (fun x => Two p q x ∨ x = C) W W') (hC : w.heap.size + 3 ≤ C)
    (hp : p < w.heap.size) (hq : q < w.heap.size) (hg : g < w.heap.size) (hgt : ¬ Two p q g) (hA : l ≠ [] → ∀ x, A = some x → ¬ Two p q x.block ∧ x.block < w.heap.size) : WrInv w p q c g d A cp l s2 W' := by
  have low : ∀ k, w.heap.size ≤ k → k < C → ¬ (Two p q k ∨ k = C) := fun k h1 h2 e => by
    rcases e with (e | e) | e <;> omega
  refine ⟨hN, h.dr.frm hf (fun e => by rcases e with e | e; exact hgt e; omega), h.c3.frm hf (low _ (by omega) (by omega)), h.c5.frm hf (low _ (by omega) (by omega)), h.c6.frm hf (low _ (by omega) (by omega)), Rd.frm' h.rl hf (fun e x hx e2 => ?_), h.f.then_ hf (fun k hk e => ?_)⟩
  · have := hA e x hx
    rcases e2 with e2 | e2
    · exact this.1 e2
    · omega
  · rcases e with e | e
    · exact e
    · omega
/-- the power failed -/
structure WrEnd (w : World) (p q c : Nat) (l : List Int) (s : NorS) (i : Nat) (W : World) : Prop where
  n : NorAt W p q c (s.prog i l)
  no : s.progs l = false
  r : Blk W (w.heap.size + 2) 28 #[.int .i64 40]
  f : Frm (Two p q) w W
theorem WrEnd.frm {S : Nat → Prop} {w W W' : World} {p q c : Nat} {l : List Int} {s : NorS} {i : Nat} (h : WrEnd w p q c l s i W) (hp : p < w.heap.size) (hq : q < w.heap.size) (hf : Frm S W W') (hS : ∀ k, k < w.heap.size + 3 → ¬ S k) : WrEnd w p q c l s i W' :=
  ⟨h.n.frm hf (hS _ (by omega)) (hS _ (by omega)), h.no, h.r.frm hf (hS _ (by omega)), h.f.then_ hf (fun k hk e => (hS k (by omega) e).elim)⟩
/-- the frame of Write's round -/
def wrAct (g a len : Nat) (A : Option Addr) (cp B : Nat) (A1 : Option Addr) (cp1 C bx first j : Nat) (u9 u10 u31 u32 u33 u34 u35 u36 u37 u38 u39 u40 u41 : Value) : Act :=
  { tmps := #[.pointer (some ⟨g, 0, none⟩), .int .i64 a, .slice A len cp, .pointer (some ⟨B, 0, none⟩), undef, .pointer (some ⟨B + 1, 0, none⟩), .pointer (some ⟨B + 1 + 1, 0, none⟩), .slice A1 len cp1, .int .i64 0, u9, u10,
      .pointer (some ⟨C, 0, none⟩), .pointer (some ⟨bx, 0, none⟩), .int .i64 (plen a len j), undef, undef, .tuple #[.slice A1 len cp1, .int .i64 0], .pointer (some ⟨g, 0, none⟩), .int .i64 a, .slice A len cp, .int .i64 len,
      .tuple #[.slice A1 len cp1, .int .i64 0], .slice A1 len cp1, .int .i64 0, .int .i64 0, .bool false, undef, .slice A len cp, .int .i64 len, .int .i64 len, .bool false, u31, u32, u33, u34, u35, u36, u37, u38, u39, u40, u41,
      .pointer (some ⟨g, 0, none⟩), .int .i64 a, .slice A len cp, .int .i64 len,
      .func (.func 61) #[] #[.pointer (some ⟨C + 1 + 2, 0, none⟩), .pointer (some ⟨C + 1 + 1, 0, none⟩), .pointer (some ⟨C + 1, 0, none⟩)],
      .agg #[.int .i64 ((first : Int) + (pcur a len j : Int) / 64), .int .i64 ((pcur a len j : Int) % 64)], .int .i64 (plen a len j), undef, undef, undef, undef, undef, undef, undef, undef, undef, undef, undef, undef, undef, undef, undef, undef, undef, undef, undef, undef, undef, undef, undef, undef, undef, undef, undef, undef, undef, undef, undef, undef, undef, undef, undef, undef, undef, undef], defers := [] }
theorem equal_self (a : List Int) (A B : Option Addr) (ca cb : Nat) (w : World) (ha : Rd w A (ints .u32 a)) (hb : Rd w B (ints .u32 a)) (hla : (a.length : Int) ≤ 9223372036854775807) :
    Calls Try.prog 46 #[.slice A a.length ca, .slice B a.length cb] w fun e w' => e = .returned (.bool true) ∧ ∃ m, w' = w.drewN m :=
  (equal_is a a A B ca cb w ha hb hla).mono (fun e w' h => ⟨h.1.trans (by rw [same_iff.2 rfl]), h.2⟩)
section
variable {w : World} {g p q c : Nat} {s : NorS} {d : DrvS}
set_option maxRecDepth 100000 in
set_option maxHeartbeats 1000000 in
theorem dwrite_ok (a : Nat) (A : Option Addr) (cp : Nat) (l : List Int) (h : DrvAt w g p d) (hn : NorAt w p q c s) (hd : d.Ok s) (hx : Rd w A (ints .u32 l)) (hA : l ≠ [] → ∀ x, A = some x → ¬ Two p q x.block ∧ x.block < w.heap.size) (ul : U32 l) (hcp : l.length ≤ cp) (he : d.rdE s a l.length = 0) :
    Calls Try.prog 11 #[.pointer (some ⟨g, 0, none⟩), .int .i64 a, .slice A l.length cp] w fun e w' => e = .returned (.int .i64 (d.wrE s a l)) ∧ NorAt w' p q c (d.wr s a l) ∧ Frm (Two p q) w w' := by
  have hn2 := hn.ok.n2
  have hdn := hd.n
  obtain ⟨hdown, z0, z1, z2, z3⟩ := DrvS.rdE_zero he
  have hpl := hn.ltp
  have hql := hn.ltq
  have hgl := h.lt
  have hwl := DrvS.words_length hn.ok hd (a := a) (m := l.length) (by omega)
  have E : Hid (d.wr s a l = if d.sets s a l = true then s else s.prog (d.base + a) l) := by show _ = _; unfold DrvS.wr; rw [if_pos he]; rfl
  have E' : Hid (d.wrE s a l = if d.sets s a l = true then 50 else if s.progs l = true then 0 else 40) := by show _ = _; unfold DrvS.wrE; rw [if_pos he]; rfl
  have hrd : d.rd s a l.length = d.words s a l.length := by unfold DrvS.rd; rw [if_pos he]; rfl
  have hu := DrvS.words_u32 (d := d) hn.ok a l.length
  have HE := hide he
  have HD := hide hdown
  have H := hide h
  have HN := hide hn
  have HOK := hide hd
  have HX := hide hx
  have HA := hide hA
  obtain ⟨y1, y2, y3⟩ := three_boxes (w := w) (c0 := #[.pointer (some ⟨g, 0, none⟩)]) (t0 := 23) (c1 := #[.slice A l.length cp]) (t1 := 22) (c2 := #[.int .i64 0]) (t2 := 28)
  have I0 : Hid (WrInv w p q c g d A cp l s _) := WrInv.mk (hn.frm ((((Frm.refl NoB w).alloc _).alloc _).alloc _) (fun e => e) (fun e => e)) (h.frm ((((Frm.refl NoB w).alloc _).alloc _).alloc _) (fun e => e)) y1 y2 y3 (Rd.frm' hx ((((Frm.refl NoB w).alloc _).alloc _).alloc _) (fun _ _ _ e => e)) ((((Frm.refl _ w).alloc _).alloc _).alloc _)
  have HR := hide (dread_is (a := (a : Int)) (m := (l.length : Int)) I0.out.dr I0.out.n hd)
  clear he h hn hd hdown hx hA y1 y2 y3
  refine calls_marks Try.func11 rfl ?_
  simp only [Try.ntmps11, List.size_toArray, List.length_cons, List.length_nil, Nat.reduceAdd, Nat.reduceSub, Array.replicate_succ, Array.replicate_zero, List.push_toArray, List.append_toArray, List.nil_append, List.cons_append]
  go_wp2_with (go_at_call 9; refine HR.out.mono ?_; rintro e w1 ⟨A1, cp1, h1, hRd, hA1, hcp1, hF⟩; rw [HE.out, hrd, hwl] at h1; rw [hrd] at hRd; subst h1; have I1 := hide (WrInv.frm I0.out hpl hql hgl (fun e x hx => (HA.out e x hx).2) hF (fun _ _ e => e)); have HRd := hide hRd; have z5 := I1.out.c5.cell 0; have z3' := I1.out.c3.cell 0; clear hRd hA1 hcp1 hF)
  go_loopw [29] (fun v wr => ∃ j m : Nat, j ≤ l.length ∧ v = .int .i64 j ∧ wr = w1.drewN m ∧ ∀ i, i < j → (wand (l.getD i 0) ((d.words s a l.length).getD i 0) == l.getD i 0) = true) (fun v _ => l.length - (intOf v).toNat)
  case atStart => exact ⟨0, 0, by omega, rfl, rfl, fun i hi => by omega⟩
  case round =>
    obtain ⟨j, m, hj, rfl, rfl, ht⟩ := hrel
    have HT := hide ht
    clear ht
    by_cases hlt : j < l.length
    · obtain ⟨ba, oa, rfl, hca⟩ := I1.out.rl (ints_ne (by intro e; subst e; simp at hlt))
      obtain ⟨bb, ob, rfl, hcb⟩ := HRd.out (ints_ne (by intro e; rw [e] at hwl; simp at hwl; omega))
      have h1 := hca j _ (ints_get hlt)
      have h2 := hcb j _ (ints_get (show j < (d.words s a l.length).length by omega))
      have i0 : (0 : Int) ≤ (j : Int) := by omega
      have i1 : (j : Int) < (l.length : Int) := by omega
      have u1 := ul.get j
      have u2 := hu.get j
      have hne := andNot_ne u1.1 u1.2 u2.1 u2.2
      have hset : Hid ((wand (l.getD j 0) ((d.words s a l.length).getD j 0) == l.getD j 0) = false → d.sets s a l = true) := fun e => by
        unfold DrvS.sets
        refine List.any_eq_true.2 ⟨j, List.mem_range.2 hlt, ?_⟩
        rw [← DrvS.words_get (m := l.length) hlt, e]; rfl
      generalize hX : l.getD j 0 = x at *
      generalize hY : (d.words s a l.length).getD j 0 = y at *
      clear hca hcb
      by_cases hs : (wand x y == x) = true
      · have hf : (bits .andNot .u32 x y != 0) = false := by rw [hne, hs]; rfl
        have HS := hide hs
        clear hne hs hset
        go_wp2
        go_roundw
        case rel =>
          refine ⟨j + 1, _, by omega, by go_num, rfl, fun i hi => ?_⟩
          rcases Nat.lt_or_ge i j with h | h
          · exact HT.out i h
          · obtain rfl : i = j := by omega
            rw [hX, hY]; exact HS.out
        case measure => simp [intOf]; omega
      · have hs : (wand x y == x) = false := by simpa using hs
        have hf : (bits .andNot .u32 x y != 0) = true := by rw [hne, hs]; rfl
        have HS := hide (hset.out hs)
        have z6 := I1.out.c6.cell 0
        have y6 := I1.out.c6.frozen 0
        clear hne hs hset
        go_wp2
        have M6 : Blk ((w1.drewN m).setCell ⟨w.heap.size + 2, 0, none⟩ (.int .i64 50)) (w.heap.size + 2) 28 #[.int .i64 50] := (I1.out.c6.drewN m).set_ 0 _
        have M6' : ((w1.drewN m).setCell ⟨w.heap.size + 1 + 1, 0, none⟩ (.int .i64 50)).cell? ⟨w.heap.size + 1 + 1, 0, none⟩ = some (.int .i64 50) := M6.cell 0
        refine postM_ret (v := .int .i64 50) (by simp [results, Try.results11, go_sem, M6']) rfl ⟨?_, ?_, (I1.out.f.drewN m).setCell (p := ⟨w.heap.size + 2, 0, none⟩) (.inr (by simp)) _⟩
        · rw [E'.out, if_pos HS.out]
        · rw [E.out, if_pos HS.out]; exact (I1.out.n.drewN m).frm ((Frm.refl (One (w.heap.size + 2)) _).set1 0 _) (fun e => by have e : p = w.heap.size + 2 := e; omega) (fun e => by have e : q = w.heap.size + 2 := e; omega)
    · obtain rfl : j = l.length := by omega
      have hset : d.sets s a l = false := by
        unfold DrvS.sets
        rw [List.any_eq_false]
        intro i hi
        have hi := List.mem_range.1 hi
        have := HT.out i hi
        rw [DrvS.words_get hi] at this
        rw [this]; simp
      rw [hset, if_neg (by simp)] at E
      rw [hset, if_neg (by simp)] at E'
      have I2 := hide (WrInv.frm I1.out hpl hql hgl (fun e x hx => (HA.out e x hx).2) ((Frm.refl NoB w1).drewN m) (fun _ _ e => e))
      obtain ⟨W1, hW1⟩ : ∃ W1, w1.drewN m = W1 := ⟨_, rfl⟩
      rw [hW1] at I2 ⊢
      have hsz1 : w.heap.size + 3 ≤ W1.heap.size := by have := I2.out.c6.lt; omega
      have z0c : ∀ X, (W1.alloc X).cell? ⟨w.heap.size, 0, none⟩ = some (.pointer (some ⟨g, 0, none⟩)) := fun X => (I2.out.c3.alloc X).cell 0
      have z5c : ∀ X, (W1.alloc X).cell? ⟨w.heap.size + 1, 0, none⟩ = some (.slice A l.length cp) := fun X => (I2.out.c5.alloc X).cell 0
      clear hW1 I0 I1 HR HRd z5 z3' HT
      go_wp2_with (go_at_call 41; refine (dpieces_is _ _ _).mono ?_; rintro e w' ⟨rfl, rfl⟩)
      rename_i K0 hK0
      obtain ⟨W, hW⟩ : ∃ W, (((W1.alloc (.cells #[.int .i64 0] 3)).alloc (.cells #[.pointer (some ⟨g, 0, none⟩)] 23)).alloc (.cells #[.int .i64 a] 3)).alloc (.cells #[.int .i64 l.length] 3) = W := ⟨_, rfl⟩
      rw [hW]
      obtain ⟨hsz, hF, b0, b1, b2, b3⟩ := four_boxes hW
      have I3 := I2.out.frm hpl hql hgl (fun e x hx => (HA.out e x hx).2) hF (fun _ _ e => e)
      have R0 : WrRel w p q c g d A cp l s (d.base + a) W1.heap.size 0 W := ⟨by rw [List.take_zero]; exact I3, by simp [NorS.progs], b0⟩
      have dc1 := I3.dr.c1
      obtain ⟨C, hC⟩ : ∃ C, W1.heap.size = C := ⟨_, rfl⟩
      rw [hC] at hsz b0 b1 b2 b3 R0 hsz1 ⊢
      clear hW hC z0c z5c I2 hF I3
      refine (wpIn_wide (n := 4)).1 ?_
      refine wpIn_rangeL (F := Fence.wide) (n := 4) rfl (by omega) (gf := 61) (lb := #[.pointer (some ⟨C + 3, 0, none⟩), .pointer (some ⟨C + 2, 0, none⟩), .pointer (some ⟨C + 1, 0, none⟩)]) rfl trivial (enters_of Try.func61 (by kernel_rfl) rfl)
        (encs := pieceV d.first a l.length) (U := Two (C + 3) (C + 2)) (V := Two (C + 1) g) (full := List.range (pnum a l.length))
        (pieces1_in 3 (by omega) (C + 3) (C + 2) (C + 1) g d.first a l.length W (by omega) (by omega) (by omega) (by omega) (by omega) (by omega) (b3.cell 0) (b2.cell 0) (b3.frozen 0) (b2.frozen 0) (b1.cell 0) dc1)
        (fun k hk => by rcases hk with hk | hk <;> omega) (fun x => rfl)
        (fun pre W' => WrRel w p q c g d A cp l s (d.base + a) C (pcur a l.length pre.length - a) W') (fun co _ W' => co = .ret ∧ WrEnd w p q c l s (d.base + a) W')
        (fun pre X Y hi hf => ?hI) (fun co pre X Y hi hf => ?hIx) (by simpa [pcur_zero] using R0)
        (fun j a' W' => ∃ bx, C + 6 ≤ bx ∧ Blk W' bx 55 #[.int .i64 ((d.first : Int) + (pcur a l.length j : Int) / 64), .int .i64 ((pcur a l.length j : Int) % 64)] ∧ a' = wrAct g a l.length A cp w.heap.size A1 cp1 C bx d.first j u9 u10 u31 u32 u33 u34 u35 u36 u37 u38 u39 u40 u41)
        (fun j a' X Y hx hf => ?ax) ?assign ?body (fun k hk => by rcases hk with hk | hk <;> omega) ?done ?stop
      case hI =>
        have hlow : ∀ k, k < C + 2 → ¬ (Two (C + 3) (C + 2) k ∨ LoopB W.heap.size k) := fun k hk e => by rcases e with (e | e) | (e | e) <;> omega
        exact ⟨hi.inv.frm hpl hql hgl (fun e x hx => (HA.out e x hx).2) hf (fun k hk => hlow k (by omega)), hi.ok, hi.kb.frm hf (hlow _ (by omega))⟩
      case hIx =>
        have hlow : ∀ k, k < C + 2 → ¬ (Two (C + 3) (C + 2) k ∨ LoopB W.heap.size k) := fun k hk e => by rcases e with (e | e) | (e | e) <;> omega
        exact ⟨hi.1, hi.2.frm hpl hql hf (fun k hk => hlow k (by omega))⟩
      case ax =>
        obtain ⟨bx, h1, h2, h3⟩ := hx
        exact ⟨bx, h1, h2.frm hf (fun e => by rcases e with (e | e) | (e | e) <;> omega), h3⟩
      case assign =>
        intro l0 pre j W' K hlt hi hK
        have HK := hide hK
        have HI := hide hi
        clear hK hi R0 b0 b1 b2 b3 dc1
        unfold pieceV
        gi_wp2
        have hfr := (Frm.refl NoB W').alloc (.cells #[.int .i64 ((d.first : Int) + (pcur a l.length j : Int) / 64), .int .i64 ((pcur a l.length j : Int) % 64)] 55)
        refine HK.out _ _ (Keep.of_frm hfr (fun _ _ e => e)) ⟨HI.out.inv.frm hpl hql hgl (fun e x hx => (HA.out e x hx).2) hfr (fun _ _ e => e), HI.out.ok, HI.out.kb.frm hfr (fun e => e)⟩ ⟨W'.heap.size, by omega, Blk.new _ _ _, rfl⟩
      case body =>
        rintro l0 pre j a' W' hlt hi ⟨bx, hbx, hB, rfl⟩ hpre
        obtain ⟨rfl, hj⟩ := range_prefix hpre
        rw [List.length_range] at hi
        have hp0 := plen_pos hj
        have hp1 := pnum_lt.1 hj
        have hp2 := plen_le hj
        have hp3 := pcur_next hj
        have hp4 := pcur_ge a l.length j
        have hp5 := pcur_le a l.length (j + 1)
        have hgt := H.out.two HN.out
        obtain ⟨cu, hcu⟩ : ∃ cu, pcur a l.length j = cu := ⟨_, rfl⟩
        obtain ⟨ln, hln⟩ : ∃ ln, plen a l.length j = ln := ⟨_, rfl⟩
        unfold wrAct
        rw [hcu] at hi hB hp1 hp2 hp3 hp4
        rw [hln] at hp0 hp2 hp3
        rw [hcu, hln]
        obtain ⟨T, hT⟩ : ∃ T : Nat → Prop, (fun k => (Two (C + 3) (C + 2) k ∨ Two (C + 1) g k) ∨ LoopB W.heap.size k) = T := ⟨_, rfl⟩
        have hT2 : ∀ k, T k → ¬ (Two p q k ∨ k = C) := fun k hk e => by
          rw [← hT] at hk
          rcases e with e | e
          · rcases hk with (hk | hk) | hk
            · rcases hk with hk | hk <;> rcases e with e | e <;> omega
            · rcases hk with hk | hk
              · rcases e with e | e <;> omega
              · exact hgt (hk ▸ e)
            · rcases hk with hk | hk <;> rcases e with e | e <;> omega
          · rcases hk with (hk | hk) | hk <;> rcases hk with hk | hk <;> omega
        have hL2 : ∀ k, LoopB W.heap.size k → ¬ (Two p q k ∨ k = w.heap.size + 2) := fun k hk e => by
          rcases hk with hk | hk <;> rcases e with (e | e) | e <;> omega
        rw [hT]
        obtain ⟨k, hk⟩ : ∃ k, cu - a = k := ⟨_, rfl⟩
        rw [hk] at hi
        have hkl : k + ln ≤ l.length := by omega
        have hne : l ≠ [] := fun e => by rw [e] at hkl; simp at hkl; omega
        obtain ⟨b, o, rfl, hca⟩ := hi.inv.rl (ints_ne hne)
        have hrx : Rd W' (some ⟨b, o + k, none⟩) (ints .u32 ((l.drop k).take ln)) := by
          rw [ints_take]
          refine Rd.take ?_ ln
          have h := Rd.drop hi.inv.rl k
          have e : ints .u32 (l.drop k) = (ints .u32 l).drop k := by simp [ints]
          rw [e]; exact h
        have hbA := HA.out hne _ rfl
        obtain ⟨s1, hs1⟩ : ∃ s1, s.prog (d.base + a) (l.take k) = s1 := ⟨_, rfl⟩
        have hsame := NorS.prog_same (l.take k) s (d.base + a)
        have hdn1 := NorS.prog_down (l.take k) s (d.base + a)
        have hpp := NorS.prog_piece (i := d.base + a) (m := ln) hi.ok (by omega)
        rw [hs1] at hsame hdn1 hpp
        rw [HD.out, hi.ok] at hdn1
        have hN1 := hi.inv.n
        rw [hs1] at hN1
        have hxl : ((l.drop k).take ln).length = ln := by simp; omega
        have hxu : U32 ((l.drop k).take ln) := (ul.drop k).take ln
        have hup : s1.up ((d.first : Int) + (cu : Int) / 64) ((cu : Int) % 64) ln = 0 := by
          unfold NorS.up
          rw [if_neg (by rw [hdn1]; simp), if_pos]
          unfold NorS.there
          simp only [Bool.and_eq_true, decide_eq_true_eq]
          have := hsame.1
          omega
        have hat : NorS.at_ ((d.first : Int) + (cu : Int) / 64) ((cu : Int) % 64) = d.base + a + k := by
          unfold NorS.at_ DrvS.base; omega
        obtain ⟨xs, hxs⟩ : ∃ xs, (l.drop k).take ln = xs := ⟨_, rfl⟩
        rw [hxs] at hrx hpp hxl hxu
        have PR : Hid (∀ w0, NorAt w0 p q c s1 → Rd w0 (some ⟨b, o + k, none⟩) (ints .u32 xs) → Calls Try.prog 45 #[.pointer (some ⟨p, 0, none⟩), .int .i64 ((d.first : Int) + (cu : Int) / 64), .int .i64 ((cu : Int) % 64), .slice (some ⟨b, o + k, none⟩) ln (cp - k)] w0 fun e w' => e = .returned (.int .i64 (if s1.progs xs = true then 0 else 40)) ∧ NorAt w' p q c (s1.prog (d.base + a + k) xs) ∧ Frm (Two p q) w0 w') := by
          intro w0 h1 h2
          have h := program_at ((d.first : Int) + (cu : Int) / 64) ((cu : Int) % 64) (some ⟨b, o + k, none⟩) (cp - k) ln xs hxl h1 h2 (fun _ x hx => by injection hx with hx; subst hx; exact hbA.1) hxu (by omega)
          have e1 : s1.programE ((d.first : Int) + (cu : Int) / 64) ((cu : Int) % 64) xs = if s1.progs xs = true then 0 else 40 := by unfold NorS.programE; rw [hxl, if_pos hup]
          have e2 : s1.program ((d.first : Int) + (cu : Int) / 64) ((cu : Int) % 64) xs = s1.prog (d.base + a + k) xs := by unfold NorS.program; rw [hxl, if_pos hup, hat]
          rwa [e1, e2] at h
        have hcell : ∀ W2, Frm (Two p q) W' W2 → W2.cell? ⟨w.heap.size, 0, none⟩ = some (.pointer (some ⟨g, 0, none⟩)) ∧ W2.cell? ⟨g, 0, none⟩ = some (.pointer (some ⟨p, 0, none⟩)) ∧ W2.cell? ⟨bx, 0, none⟩ = some (.int .i64 ((d.first : Int) + (cu : Int) / 64)) ∧ W2.cell? ⟨bx, 1, none⟩ = some (.int .i64 ((cu : Int) % 64)) ∧ W2.cell? ⟨w.heap.size + 1, 0, none⟩ = some (.slice (some ⟨b, o, none⟩) l.length cp) ∧ W2.cell? ⟨C, 0, none⟩ = some (.int .i64 k) := fun W2 hf =>
          ⟨(hi.inv.c3.frm hf (fun e => by rcases e with e | e <;> omega)).cell 0, (hi.inv.dr.frm hf hgt).c0, (hB.frm hf (fun e => by rcases e with e | e <;> omega)).cell 0, (hB.frm hf (fun e => by rcases e with e | e <;> omega)).cell 1, (hi.inv.c5.frm hf (fun e => by rcases e with e | e <;> omega)).cell 0, (hi.kb.frm hf (fun e => by rcases e with e | e <;> omega)).cell 0⟩
        have hw1 : IntKind.i64.wrap ((k : Int) + ln) = (k : Int) + ln := IntWalk.i64_in _ (by omega)
        have hck : ¬ cp = k := by omega
        have htn : ((k : Int) + ln).toNat - k = ln := by omega
        have i0 : (0 : Int) ≤ (k : Int) := by omega
        have i1 : (k : Int) ≤ (k : Int) + ln := by omega
        have i2 : (k : Int) + ln ≤ (cp : Int) := by omega
        have HI := hide hi
        have HB := hide hB
        have HRX := hide hrx
        have HN1 := hide hN1
        have HC := hide hcell
        have HPP := hide hpp
        have HS1 := hide hs1
        clear hi hB hrx hN1 hcell hpp hs1 hca hup hat hdn1 hsame hxs R0 b0 b1 b2 b3 dc1 hxu hpre
        gi_wp2
        refine region_mix_round (S := fun W2 => W2.cell? ⟨w.heap.size, 0, none⟩ = some (.pointer (some ⟨g, 0, none⟩)) ∧ W2.cell? ⟨g, 0, none⟩ = some (.pointer (some ⟨p, 0, none⟩)) ∧ W2.cell? ⟨bx, 0, none⟩ = some (.int .i64 ((d.first : Int) + (cu : Int) / 64)) ∧ W2.cell? ⟨bx, 1, none⟩ = some (.int .i64 ((cu : Int) % 64)) ∧ W2.cell? ⟨w.heap.size + 1, 0, none⟩ = some (.slice (some ⟨b, o, none⟩) l.length cp) ∧ W2.cell? ⟨C, 0, none⟩ = some (.int .i64 k))
          [true, true, true, true, true, true, true, true, true, true, true, true, true, true, false, true] (by kernel_rfl) (by kernel_rfl) (by kernel_rfl) rfl (by kernel_rfl) (by rintro ⟨a0, w0, h0⟩; exact h0) (fun c a0 d0 v0 w0 h0 => h0) (HC.out _ ((Frm.refl _ W').drew)) (fun hS0 => ?_)
        iterate 14
          refine wpMix_take ?_ (by rfl) (fun w0 hS => ?_) ?_
          rotate_left
          · obtain ⟨e1, e2, e3, e4, e5, e6⟩ := hS
            go_simp
            try with_reducible rfl
          simp only [Act.put, List.setIfInBounds_toArray, List.set_cons_zero, List.set_cons_succ]
        refine wpMix_alone (by rfl) (fun K hK => ?_)
        go_simp
        have hI0 := HI.out.inv.frm hpl hql hgl (fun e x hx => (HA.out e x hx).2) ((Frm.refl NoB W').drew) (fun _ _ e => e)
        rw [HS1.out] at hI0
        go_at_call 45
        refine (PR.out _ hI0.n HRX.out).mono ?_
        rintro e W3 ⟨rfl, hN3, hF3⟩
        have hF4 : Frm (Two p q) W' W3 := ((Frm.refl _ W').drew).trans hF3
        refine hK _ _ (HC.out _ hF4) (fun hS3 => ?_)
        clear hK K
        try simp only [Act.put, List.setIfInBounds_toArray, List.set_cons_zero, List.set_cons_succ]
        refine wpMix_take ?_ (by rfl) (fun w0 hS => ?_) ?_
        rotate_left
        · go_simp
          try with_reducible rfl
        simp only [Act.put, List.setIfInBounds_toArray, List.set_cons_zero, List.set_cons_succ]
        refine wpMix_nil ?_
        obtain ⟨-, -, -, -, -, k3⟩ := hS3
        have k6 := (HI.out.kb.frm hF4 (fun e => by rcases e with e | e <;> omega)).frozen 0
        have HF4 := hide hF4
        have HN3 := hide hN3
        clear hF3 hF4 hN3 hI0
        by_cases hpr : s1.progs xs = true
        · rw [if_pos hpr]
          gi_wp2
          have hF5 : Frm (fun x => Two p q x ∨ x = C) W' (W3.setCell ⟨C, 0, none⟩ (.int .i64 ((k : Int) + ln))) := (HF4.out.mono (fun _ _ e => .inl e)).setCell (p := ⟨C, 0, none⟩) (.inl (.inr rfl)) _
          have hf1 : Frm (One C) W3 (W3.setCell ⟨C, 0, none⟩ (.int .i64 ((k : Int) + ln))) := (Frm.refl _ W3).set1 0 _
          have hN5 := HN3.out.frm hf1 (fun e => by have e : p = C := e; omega) (fun e => by have e : q = C := e; omega)
          rw [← HPP.out.1] at hN5
          have hkb : Blk (W3.setCell ⟨C, 0, none⟩ (.int .i64 ((k : Int) + ln))) C 3 #[.int .i64 ((k : Int) + ln)] := Blk.set_ (HI.out.kb.frm HF4.out (fun e => by rcases e with e | e <;> omega)) 0 _
          have e : pcur a l.length (List.range j ++ [j]).length - a = k + ln := by simp; omega
          refine ⟨Keep.of_frm hF5 (fun i hi e => hT2 i hi e), ?_⟩
          show WrRel w p q c g d (some ⟨b, o, none⟩) cp l s (d.base + a) C (pcur a l.length (List.range j ++ [j]).length - a) _
          rw [e]
          exact ⟨HI.out.inv.turn hN5 hF5 hsz1 hpl hql hgl hgt HA.out, HPP.out.2.trans hpr, by rw [Int.natCast_add]; exact hkb⟩
        · rw [if_neg hpr]
          have c6 := (HI.out.inv.c6.frm HF4.out (fun e => by rcases e with e | e <;> omega)).cell 0
          have f6 := (HI.out.inv.c6.frm HF4.out (fun e => by rcases e with e | e <;> omega)).frozen 0
          gi_wp2
          have hF5 : Frm (fun x => Two p q x ∨ x = w.heap.size + 2) W' (W3.setCell ⟨w.heap.size + 2, 0, none⟩ (.int .i64 40)) := (HF4.out.mono (fun _ _ e => .inl e)).setCell (p := ⟨w.heap.size + 2, 0, none⟩) (.inl (.inr rfl)) _
          have hf1 : Frm (One (w.heap.size + 2)) W3 (W3.setCell ⟨w.heap.size + 2, 0, none⟩ (.int .i64 40)) := (Frm.refl _ W3).set1 0 _
          have hN5 := HN3.out.frm hf1 (fun e => by have e : p = w.heap.size + 2 := e; omega) (fun e => by have e : q = w.heap.size + 2 := e; omega)
          have hst : s.progs (l.take (k + ln)) = false := by rw [HPP.out.2]; simpa using hpr
          have hst2 := NorS.prog_stop (i := d.base + a) hst
          rw [← HPP.out.1, ← hst2.1] at hN5
          have hkb : Blk (W3.setCell ⟨w.heap.size + 2, 0, none⟩ (.int .i64 40)) (w.heap.size + 2) 28 #[.int .i64 40] := Blk.set_ (HI.out.inv.c6.frm HF4.out (fun e => by rcases e with e | e <;> omega)) 0 _
          exact ⟨Keep.of_frm hF5 (fun i hi e => hL2 i hi e), rfl, hN5, hst2.2, hkb, HI.out.inv.f.then_ hF5 (fun x hx e => by
            rcases e with e | e
            · exact e
            · omega)⟩
      case done =>
        intro W2 hi hD
        rw [List.length_range, pcur_last, Nat.add_sub_cancel_left] at hi
        have hN2 := hi.inv.n
        have hok := hi.ok
        rw [List.take_length] at hN2 hok
        have hd2 : d.Ok (s.prog (d.base + a) l) := ⟨HOK.out.m, by rw [(NorS.prog_same l s _).1]; exact HOK.out.n⟩
        have hdn2 : (s.prog (d.base + a) l).down = false := by rw [NorS.prog_down, HD.out, hok]; rfl
        have he2 : d.rdE (s.prog (d.base + a) l) a l.length = 0 := DrvS.rdE_ok hdn2 ⟨z0, z1, z2, z3⟩
        have hr2 : d.rd (s.prog (d.base + a) l) a l.length = l := by
          unfold DrvS.rd
          rw [if_pos he2]
          exact DrvS.readback (Hid.out HN).ok HOK.out (by omega) hset hok
        have RD2 := hide (dread_is (a := (a : Int)) (m := (l.length : Int)) hi.inv.dr hN2 hd2)
        have HR2 := hide hr2
        have HE2 := hide he2
        have hDl : W.heap.size < W2.heap.size := (Array.getElem?_eq_some_iff.1 hD).1
        have k3 := hi.inv.c3.cell 0
        have k5 := hi.inv.c5.cell 0
        have HI := hide hi
        have HDe := hide hD
        have HN2 := hide hN2
        have HOk := hide hok
        rw [hsz] at hDl HDe ⊢
        clear hi hD hN2 hok hr2 he2 hdn2 hd2 R0 b0 b1 b2 b3 dc1 hu hrd
        refine hK0 _ _ ?_
        go_wp2_with (first
          | (go_at_call 9; refine RD2.out.mono ?_; rintro e w2 ⟨A2, cp2, h1, hRd, hA1, hcp1, hF⟩; rw [HE2.out, HR2.out] at h1; rw [HR2.out] at hRd; subst h1; have HRd := hide hRd; have HF := hide hF; have k5 := (HI.out.inv.c5.frm hF (fun e => e)).cell 0; clear hRd hA1 hcp1 hF)
          | (go_at_call 46; refine (equal_self l _ _ _ _ _ HRd.out (Rd.frm' HI.out.inv.rl HF.out (fun _ _ _ e => e)) (by omega)).mono ?_; rintro e w3 ⟨rfl, m2, rfl⟩; have k6 := ((HI.out.inv.c6.frm HF.out (fun e => e)).drewN m2).cell 0; have f6 := ((HI.out.inv.c6.frm HF.out (fun e => e)).drewN m2).frozen 0))
        have hF3 : Frm (fun x => x = w.heap.size + 2) W2 ((w2.drewN m2).setCell ⟨w.heap.size + 2, 0, none⟩ (.int .i64 0)) := Frm.setCell (S := fun x => x = w.heap.size + 2) ((HF.out.mono (fun _ _ e => e.elim)).drewN m2) (p := ⟨w.heap.size + 2, 0, none⟩) (.inl rfl) _
        have hB6 : Blk ((w2.drewN m2).setCell ⟨w.heap.size + 2, 0, none⟩ (.int .i64 0)) (w.heap.size + 2) 28 #[.int .i64 0] := Blk.set_ ((HI.out.inv.c6.frm HF.out (fun e => e)).drewN m2) 0 _
        have hN3 := HN2.out.frm hF3 (fun e => by omega) (fun e => by omega)
        have hF4 : Frm (Two p q) w ((w2.drewN m2).setCell ⟨w.heap.size + 2, 0, none⟩ (.int .i64 0)) := HI.out.inv.f.then_ hF3 (fun x hx e => by omega)
        obtain ⟨W3, hW3⟩ : ∃ W3, (w2.drewN m2).setCell ⟨w.heap.size + 2, 0, none⟩ (.int .i64 0) = W3 := ⟨_, rfl⟩
        have hW3' : (w2.drewN m2).setCell ⟨w.heap.size + 1 + 1, 0, none⟩ (.int .i64 0) = W3 := hW3
        rw [hW3] at hF3 hB6 hN3 hF4
        rw [hW3']
        have hD3 : W3.heap[C + 4]? = some (.deferred (some [])) := (hF3.block _ hDl (fun e => by omega)).trans HDe.out
        have hfp : Frm (One (C + 4)) W3 (W3.putObj (C + 4) (.deferred none)) := Frm.putObj (Frm.refl _ W3) _ (.inl rfl)
        have r6 : (W3.putObj (C + 4) (.deferred none)).cell? ⟨w.heap.size + 1 + 1, 0, none⟩ = some (.int .i64 0) := (hB6.frm hfp (fun e => by have e : w.heap.size + 2 = C + 4 := e; omega)).cell 0
        refine postM_mark (v := .int .i64 0) (by simp [results, Try.results11, go_sem, r6]) rfl hD3 ⟨?_, ?_, hF4.then_ hfp (fun x hx e => by have e : x = C + 4 := e; omega)⟩
        · rw [E'.out, if_pos HOk.out]
        · rw [E.out]; exact hN3.frm hfp (fun e => by have e : p = C + 4 := e; omega) (fun e => by have e : q = C + 4 := e; omega)
      case stop =>
        intro co pre W2 _ hx hD
        obtain ⟨rfl, hE⟩ := hx
        rw [hsz] at hD ⊢
        have hDl : C + 4 < W2.heap.size := (Array.getElem?_eq_some_iff.1 hD).1
        have hfp : Frm (One (C + 4)) W2 (W2.putObj (C + 4) (.deferred none)) := Frm.putObj (Frm.refl _ W2) _ (.inl rfl)
        have hlow : ∀ k, k < w.heap.size + 3 → ¬ One (C + 4) k := fun k hk e => by have e : k = C + 4 := e; omega
        have hE2 := hE.frm hpl hql hfp hlow
        have r6 : (W2.putObj (C + 4) (.deferred none)).cell? ⟨w.heap.size + 1 + 1, 0, none⟩ = some (.int .i64 40) := hE2.r.cell 0
        have hno := hE.no
        clear R0 b0 b1 b2 b3 dc1 hu hrd
        refine (wpIn_wide (n := 4)).2 ?_
        go_wp2
        refine postM_mark (v := .int .i64 40) (by simp [results, Try.results11, go_sem, r6]) rfl hD ⟨?_, ?_, hE2.f⟩
        · rw [E'.out, if_neg (by rw [hno]; simp)]
        · rw [E.out]; exact hE2.n
end
end Go.Proofs.Ytplngfphklpicaa

/-
  The document's drive: Write, walked by hand.
-/
namespace Go.Proofs.Ytplngfphklpicaa
open Go.RowKit Go.Proofs.YtplngfphklpicaaW.PrintWords Go.Proofs.Ytplngfphklpicaa.PDrivePlays
namespace DrvS
/-- one word of a drive's is programmed -/
theorem program_one {d : DrvS} {s : NorS} (hd : d.Ok s) (hdn : s.down = false) {b : Nat} (h : b < d.many * 64) (x : Int) :
    s.program ((d.first + b / 64 : Nat) : Int) ((b % 64 : Nat) : Int) [x] = s.prog (d.base + b) [x] ∧ s.programE ((d.first + b / 64 : Nat) : Int) ((b % 64 : Nat) : Int) [x] = if s.progs [x] = true then 0 else 40 := by
  have hn := hd.n
  have hu : s.up ((d.first + b / 64 : Nat) : Int) ((b % 64 : Nat) : Int) (([x] : List Int).length : Nat) = 0 := NorS.up_ok (by rw [hdn]; simp) (NorS.there_iff.2 ⟨by omega, by omega, by omega, by simp, by simp; omega⟩)
  have e : NorS.at_ ((d.first + b / 64 : Nat) : Int) ((b % 64 : Nat) : Int) = d.base + b := by unfold NorS.at_ DrvS.base; omega
  unfold NorS.program NorS.programE
  rw [if_pos hu, if_pos hu, e]
  exact ⟨rfl, rfl⟩
/-- the flash behind the first j words -/
def upto (d : DrvS) (s : NorS) (a : Nat) (l : List Int) (j : Nat) : NorS := s.prog (d.base + a) (l.take j)
theorem upto_zero (d : DrvS) (s : NorS) (a : Nat) (l : List Int) : d.upto s a l 0 = s := by unfold upto; rw [List.take_zero]; rfl
theorem drop_one {l : List Int} {j : Nat} (h : j < l.length) : (l.drop j).take 1 = [l.getD j 0] := by
  rw [List.drop_eq_getElem_cons h, List.take_succ_cons, List.take_zero, List.getD_eq_getElem?_getD, List.getElem?_eq_getElem h]; rfl
theorem upto_next {d : DrvS} {s : NorS} {a : Nat} {l : List Int} {j : Nat} (hp : s.progs (l.take j) = true) (h : j < l.length) :
    d.upto s a l (j + 1) = (d.upto s a l j).prog (d.base + (a + j)) [l.getD j 0] ∧ s.progs (l.take (j + 1)) = (d.upto s a l j).progs [l.getD j 0] := by
  have hp' := NorS.prog_piece (i := d.base + a) (m := 1) hp (by omega)
  rw [drop_one h] at hp'
  refine ⟨?_, ?_⟩
  · unfold upto; rw [hp'.1, Nat.add_assoc]
  · rw [hp'.2]
    unfold upto
    -- progs does not look at the place
    rfl
end DrvS
section
variable {w0 w : World} {P : Nat → Prop} {v : Value} {s : NorS} {d : DrvS}
/-- what the flash's words may lie in while Write runs -/
def DwQ (w : World) (P : Nat → Prop) : Nat → Prop := fun k => (P k ∧ k < w.heap.size) ∨ w.heap.size + 3 ≤ k
set_option maxRecDepth 100000 in
set_option maxHeartbeats 2000000 in
theorem ref_dwrite_bad (a : Int) (A : Option Addr) (c : Nat) (l : List Int) (ha : -9223372036854775808 ≤ a ∧ a ≤ 9223372036854775807) (h : Rf w0 w P v s) (hd : d.Ok s) (hB : Below w0.heap.size w0 w) (hx : RowArg w w0.heap.size A c l) (hb : ¬ d.rdE s a l.length = 0) :
    Calls Try.prog 31 #[drvV d, refV v s, .int .i64 a, .slice A l.length c] w (RfPostE w0 w P (d.wr s a l) (d.wrE s a l)) := by
  have E : Hid (d.wr s a l = s) := by show _ = _; unfold DrvS.wr; rw [if_neg hb]
  have E' : Hid (d.wrE s a l = d.rdE s a l.length) := by show _ = _; unfold DrvS.wrE; rw [if_neg hb]
  have hw0 := hB.size
  have H := hide h
  have HB := hide hB
  obtain ⟨A0, c0, rfl⟩ := Kd.R_slice h.r
  have tb : (d.rdE s a l.length != 0) = true := by simpa using hb
  have hlm := hx.len
  have K : Hid (∀ (W : World) (_ : Frm NoB w W), Calls Try.prog 33 #[drvV d, refV (.slice A0 s.l.length c0) s, .int .i64 a, .int .i64 l.length] W fun e w' => ∃ A c, e = .returned (.tuple #[.slice A (d.rd s a l.length).length c, .int .i64 (d.rdE s a l.length)]) ∧ Rd w' A (ints .u32 (d.rd s a l.length)) ∧ (d.rd s a l.length).length ≤ c ∧ Below W.heap.size W w') :=
    fun W hf => ref_dread (w0 := w0) a l.length ha ⟨by omega, by omega⟩ (H.out.frm hf (fun _ _ e => e)) hd
  clear h hB hx hb
  unfold refV drvV
  go_enter Try.func31, Try.ntmps31
  go_wp2_with fail
  have K' := K.out _ (boxes_frm w d (.slice A0 s.l.length c0) s)
  simp only [refV, drvV, rcells, rzero] at K'
  refine K'.mono ?_
  clear K'
  rintro e w2 ⟨A1, c1, rfl, hR1, hl1, hB1⟩
  have hbx := (Boxes.new w d (.slice A0 s.l.length c0) s).frm (Frm.of_below hB1 NoB) (fun k hk => hk.elim)
  have HX := hide hbx
  have HF := hide ((boxes_frm w d (.slice A0 s.l.length c0) s).trans (Frm.of_below hB1 NoB))
  clear hbx hR1 hl1 hB1 K
  go_wp2_with (first
    | (refine wpList_load_row rfl 65 (.tmp 5) rfl (w.heap.size + 1) rfl 65 _ (0, 0) _ (Boxes.n HX.out) Try.underlying65 rfl ref_size ?_)
    | (refine wpList_store_row rfl 65 (.tmp 8) (.tmp 25) rfl (w.heap.size + 1 + 1) _ rfl rfl 65 _ (Boxes.r HX.out) ref_size rfl (rcells_all _ _ _ _) ?_))
  have hff : Frm NoB w (w2.setRow (w.heap.size + 1 + 1) (rcells (.slice A0 s.l.length c0) s)) := (Hid.out HF).setRow (.inr (by omega)) _
  refine bodyPost_ret (results_cell_tmp_row rfl _ _ (w.heap.size + 1 + 1) 65 (rcells (.slice A0 s.l.length c0) s) (0, 0) _ rfl (Blk.setRow (Boxes.r HX.out) _) Try.underlying65 rfl ref_size) rfl ⟨.slice A0 s.l.length c0, ret_agg2 ?_ ?_, ?_, ?_, ?_⟩
  · rw [E.out]; rfl
  · rw [E'.out]; rfl
  · rw [E.out]; exact (H.out.frm hff (fun _ _ e => e)).mono (fun _ hk => .inl hk)
  · exact below_step HB.out (hff.below (fun _ _ e => e))
  · exact hff.mono (fun _ _ e => e.elim)
/-- is word i not written? (it would set a bit) -/
theorem sets_iff {d : DrvS} {s : NorS} {a : Nat} {l : List Int} : d.sets s a l = false ↔ ∀ i, i < l.length → wand (l.getD i 0) (s.wd (d.base + a + i)) = l.getD i 0 := by
  unfold DrvS.sets
  rw [List.any_eq_false]
  constructor
  · intro h i hi
    have := h i (List.mem_range.2 hi)
    simpa using this
  · intro h i hi
    rw [h i (List.mem_range.1 hi)]; simp
theorem and_test {x y : Int} (h1 : 0 ≤ x ∧ x < 4294967296) (h3 : 0 ≤ y ∧ y < 4294967296) : bits .and .u32 x y = wand y x := by
  rw [u32_and _ _ h1.1 h1.2 h3.1 h3.2]
  unfold wand
  rw [Nat.and_comm]
/-- the first word that would set a bit -/
theorem sets_first {d : DrvS} {s : NorS} {a : Nat} {l : List Int} (h : d.sets s a l = true) : ∃ k, k < l.length ∧ ¬ wand (l.getD k 0) (s.wd (d.base + a + k)) = l.getD k 0 ∧ ∀ i, i < k → wand (l.getD i 0) (s.wd (d.base + a + i)) = l.getD i 0 := by
  have key : ∀ m, m ≤ l.length → (∀ i, i < m → wand (l.getD i 0) (s.wd (d.base + a + i)) = l.getD i 0) ∨ ∃ k, k < l.length ∧ ¬ wand (l.getD k 0) (s.wd (d.base + a + k)) = l.getD k 0 ∧ ∀ i, i < k → wand (l.getD i 0) (s.wd (d.base + a + i)) = l.getD i 0 := by
    intro m
    induction m with
    | zero => intro _; exact .inl (fun i hi => by omega)
    | succ m ih =>
      intro hm
      rcases ih (by omega) with h1 | h1
      · by_cases e : wand (l.getD m 0) (s.wd (d.base + a + m)) = l.getD m 0
        · refine .inl (fun i hi => ?_)
          by_cases e2 : i = m
          · subst e2; exact e
          · exact h1 i (by omega)
        · exact .inr ⟨m, by omega, e, h1⟩
      · exact .inr h1
  rcases key l.length (Nat.le_refl _) with h1 | h1
  · rw [sets_iff.2 h1] at h; cases h
  · exact h1
def DwRel1 (w2 : World) (K : Nat) (i : Value) (wr : World) : Prop := ∃ j : Nat, j ≤ K ∧ i = .int .i64 j ∧ Frm NoB w2 wr
set_option maxRecDepth 100000 in
set_option maxHeartbeats 4000000 in
theorem ref_dwrite_set (a : Nat) (A : Option Addr) (c : Nat) (l : List Int) (h : Rf w0 w P v s) (hd : d.Ok s) (hB : Below w0.heap.size w0 w) (hx : RowArg w w0.heap.size A c l) (hdn : s.down = false) (hal : a + l.length ≤ d.many * 64) (hset : d.sets s a l = true) :
    Calls Try.prog 31 #[drvV d, refV v s, .int .i64 a, .slice A l.length c] w (RfPostE w0 w P (d.wr s a l) (d.wrE s a l)) := by
  have h0 : d.rdE s a l.length = 0 := DrvS.rdE_ok hdn ⟨by omega, by omega, by omega, by omega⟩
  have E : Hid (d.wr s a l = s) := by show _ = _; unfold DrvS.wr; rw [if_pos h0]; show (if d.sets s a l = true then s else _) = s; rw [if_pos hset]
  have E' : Hid (d.wrE s a l = 50) := by show _ = _; unfold DrvS.wrE; rw [if_pos h0]; show (if d.sets s a l = true then (50 : Int) else _) = 50; rw [if_pos hset]
  have e6 : d.rd s a l.length = d.words s a l.length := by unfold DrvS.rd; rw [h0, if_pos rfl, Int.toNat_natCast, Int.toNat_natCast]
  have hlw := DrvS.words_length h.ok hd (a := a) (m := l.length) hal
  have hw0 := hB.size
  have H := hide h
  have HB := hide hB
  have HX0 := hide hx
  obtain ⟨A0, c0, rfl⟩ := Kd.R_slice h.r
  obtain ⟨kf, hk1, hk2, hk3⟩ := sets_first hset
  have hk2 := hide hk2
  have hk3 := hide hk3
  have hlm := hx.len
  have hn := hd.n
  have hn2 := h.ok.n2
  have K : Hid (∀ (W : World) (_ : Frm NoB w W), Calls Try.prog 33 #[drvV d, refV (.slice A0 s.l.length c0) s, .int .i64 a, .int .i64 l.length] W fun e w' => ∃ A c, e = .returned (.tuple #[.slice A l.length c, .int .i64 0]) ∧ Rd w' A (ints .u32 (d.words s a l.length)) ∧ l.length ≤ c ∧ Below W.heap.size W w') :=
    fun W hf => by
      have := ref_dread (w0 := w0) a l.length ⟨by omega, by omega⟩ ⟨by omega, by omega⟩ (H.out.frm hf (fun _ _ e => e)) hd
      rw [e6, h0, hlw] at this
      exact this
  have HU := hide (h.ok.u)
  have HW := hide (DrvS.words_u32 (d := d) h.ok a l.length)
  have HG := hide (fun i (hi : i < l.length) => DrvS.words_get (d := d) (s := s) (a := a) hi)
  have HL := hide hlw
  clear h hB hx h0 hset hal hdn e6 hn hn2 hd hlw
  unfold refV drvV
  go_enter Try.func31, Try.ntmps31
  go_wp2_with fail
  have K' := K.out _ (boxes_frm w d (.slice A0 s.l.length c0) s)
  simp only [refV, drvV, rcells, rzero] at K'
  refine K'.mono ?_
  clear K'
  rintro e w2 ⟨A1, c1, rfl, hR1, hl1, hB1⟩
  have hbx := (Boxes.new w d (.slice A0 s.l.length c0) s).frm (Frm.of_below hB1 NoB) (fun k hk => hk.elim)
  have HX := hide hbx
  have HF := hide ((boxes_frm w d (.slice A0 s.l.length c0) s).trans (Frm.of_below hB1 NoB))
  have HR1 := hide hR1
  clear hbx hR1 hB1 K
  go_wp2_with fail
  go_loopw [12] (fun i wr => DwRel1 w2 kf i wr) (fun i _ => l.length - (intOf i).toNat)
  case atStart => exact ⟨0, by omega, rfl, Frm.refl _ _⟩
  case round =>
    obtain ⟨j, hj, rfl, hfr⟩ := hrel
    have HFR := hide hfr
    have hlt : j < l.length := by omega
    obtain ⟨b1, o1, rfl, hc1⟩ := (Rd.frm' HR1.out hfr (fun _ _ _ e => e)) (by intro e; have := congrArg List.length e; rw [ints_length, HL.out] at this; simp only [List.length_nil] at this; omega)
    obtain ⟨b2, o2, rfl, hc2⟩ := (HX0.out.frm ((Hid.out HF).trans hfr) (fun _ _ e => e)).r (by intro e; have := congrArg List.length e; rw [ints_length] at this; simp only [List.length_nil] at this; omega)
    have g1 := hc1 j _ (ints_get (by rw [HL.out]; exact hlt))
    have g2 := hc2 j _ (ints_get hlt)
    rw [HG.out j hlt] at g1
    have u1 : 0 ≤ s.wd (d.base + a + j) ∧ s.wd (d.base + a + j) < 4294967296 := HU.out.get _
    have u2 := HX0.out.u.get j
    clear hc1 hc2 hfr
    by_cases hjk : j = kf
    · have ht : (bits .and .u32 (s.wd (d.base + a + j)) (l.getD j 0) != l.getD j 0) = true := by rw [and_test u1 u2, hjk]; simpa using hk2.out
      clear hjk
      generalize l.getD j 0 = y at g2 u2 ht
      generalize s.wd (d.base + a + j) = x at g1 u1 ht
      go_wp2_with fail
      go_quiet (fail)
      have hbx := (HX.out.frm HFR.out (fun k hk => hk.elim)).frm ((Frm.refl NoB wr).drewN nq) (fun k hk => hk.elim)
      have HXr := hide hbx
      clear hbx
      go_wp2_with (first
        | (refine wpList_load_row rfl 65 (.tmp 5) rfl (w.heap.size + 1) rfl 65 _ (0, 0) _ (Boxes.n HXr.out) Try.underlying65 rfl ref_size ?_)
        | (refine wpList_store_row rfl 65 (.tmp 8) (.tmp 47) rfl (w.heap.size + 1 + 1) _ rfl rfl 65 _ (Boxes.r HXr.out) ref_size rfl (rcells_all _ _ _ _) ?_))
      have hff : Frm NoB w ((wr.drewN nq).setRow (w.heap.size + 1 + 1) (rcells (.slice A0 s.l.length c0) s)) := (((Hid.out HF).trans HFR.out).drewN nq).setRow (.inr (by omega)) _
      refine bodyPost_ret (results_cell_tmp_row rfl _ _ (w.heap.size + 1 + 1) 65 (rcells (.slice A0 s.l.length c0) s) (0, 0) _ rfl (Blk.setRow (Boxes.r HXr.out) _) Try.underlying65 rfl ref_size) rfl ⟨.slice A0 s.l.length c0, ret_agg2 ?_ ?_, ?_, ?_, ?_⟩
      · rw [E.out]; rfl
      · rw [E'.out]; rfl
      · rw [E.out]; exact (H.out.frm hff (fun _ _ e => e)).mono (fun _ hk => .inl hk)
      · exact below_step HB.out (hff.below (fun _ _ e => e))
      · exact hff.mono (fun _ _ e => e.elim)
    · have ht : (bits .and .u32 (s.wd (d.base + a + j)) (l.getD j 0) != l.getD j 0) = false := by rw [and_test u1 u2]; simpa using hk3.out j (by omega)
      have hjlt : j < kf := by omega
      clear hjk
      generalize l.getD j 0 = y at g2 u2 ht
      generalize s.wd (d.base + a + j) = x at g1 u1 ht
      go_wp2_with fail
      go_quiet (fail)
      go_wp2
      go_roundw
      case rel => exact ⟨j + 1, by omega, by go_num, (Hid.out HFR).drewN _⟩
      case measure => simp [intOf]; omega
end
end Go.Proofs.Ytplngfphklpicaa

/-
  The document's drive: Write, where no bit would have to be set.
-/
namespace Go.Proofs.Ytplngfphklpicaa
open Go.RowKit Go.Proofs.YtplngfphklpicaaW.PrintWords Go.Proofs.Ytplngfphklpicaa.PDrivePlays
section
variable {w0 w : World} {P : Nat → Prop} {v : Value} {s : NorS} {d : DrvS}
/-- while the words are programmed -/
structure DwInv (w0 w : World) (P : Nat → Prop) (d : DrvS) (s : NorS) (a : Nat) (l : List Int) (j : Nat) (v' : Value) (wr : World) : Prop where
  b : Boxes w wr d v' (d.upto s a l j) rzero
  r : Rf w0 wr (DwQ w P) v' (d.upto s a l j)
  bw : Below w0.heap.size w0 wr
  f : Frm P w wr
  p : s.progs (l.take j) = true
/-- five cells are stored one by one -/
def set5 (w : World) (b : Nat) (a0 a1 a2 a3 a4 : Value) : World := ((((w.setCell ⟨b, 0, none⟩ a0).setCell ⟨b, 1, none⟩ a1).setCell ⟨b, 2, none⟩ a2).setCell ⟨b, 3, none⟩ a3).setCell ⟨b, 4, none⟩ a4
theorem set5_blk {W : World} {b : Nat} {T : TypeId} {a0 a1 a2 a3 a4 b0 b1 b2 b3 b4 : Value} (h : Blk W b T #[b0, b1, b2, b3, b4]) : Blk (set5 W b a0 a1 a2 a3 a4) b T #[a0, a1, a2, a3, a4] := by
  have := ((((h.set_ 0 a0).set_ 1 a1).set_ 2 a2).set_ 3 a3).set_ 4 a4
  unfold set5
  simpa using this
theorem set5_frm {S : Nat → Prop} {W W' : World} {b : Nat} {a0 a1 a2 a3 a4 : Value} (h : Frm S W W') (hb : S b ∨ W.heap.size ≤ b) : Frm S W (set5 W' b a0 a1 a2 a3 a4) :=
  ((((h.setCell (p := ⟨b, 0, none⟩) hb a0).setCell (p := ⟨b, 1, none⟩) hb a1).setCell (p := ⟨b, 2, none⟩) hb a2).setCell (p := ⟨b, 3, none⟩) hb a3).setCell (p := ⟨b, 4, none⟩) hb a4
theorem dw_store {w0 w w3 : World} {P : Nat → Prop} {d : DrvS} {s1 s2 : NorS} {A2 A3 : Option Addr} {c2 c3 : Nat} (hw : w0.heap.size ≤ w.heap.size) (hX : Boxes w w3 d (.slice A2 s1.l.length c2) s1 rzero) (hR : Rf w0 w3 (DwQ w P) (.slice A3 s2.l.length c3) s2) (hB : Below w0.heap.size w0 w3) (hF : Frm P w w3) :
    Boxes w (set5 w3 (w.heap.size + 1) (.slice A3 s2.l.length c3) (.int .i64 s2.guard) (.int .i64 s2.arm) (.bool s2.down) (.int .i64 s2.half)) d (.slice A3 s2.l.length c3) s2 rzero ∧
    Rf w0 (set5 w3 (w.heap.size + 1) (.slice A3 s2.l.length c3) (.int .i64 s2.guard) (.int .i64 s2.arm) (.bool s2.down) (.int .i64 s2.half)) (DwQ w P) (.slice A3 s2.l.length c3) s2 ∧
    Below w0.heap.size w0 (set5 w3 (w.heap.size + 1) (.slice A3 s2.l.length c3) (.int .i64 s2.guard) (.int .i64 s2.arm) (.bool s2.down) (.int .i64 s2.half)) ∧
    Frm P w (set5 w3 (w.heap.size + 1) (.slice A3 s2.l.length c3) (.int .i64 s2.guard) (.int .i64 s2.arm) (.bool s2.down) (.int .i64 s2.half)) := by
  have hff : Frm (fun k => k = w.heap.size + 1) w3 (set5 w3 (w.heap.size + 1) (.slice A3 s2.l.length c3) (.int .i64 s2.guard) (.int .i64 s2.arm) (.bool s2.down) (.int .i64 s2.half)) := set5_frm (S := fun k => k = w.heap.size + 1) (Frm.refl _ w3) (.inl rfl)
  refine ⟨⟨hX.d.frm hff (by omega), set5_blk hX.n, hX.r.frm hff (by omega)⟩, hR.frm hff (fun k hk e => by rcases hk with hk | hk <;> omega), ?_, set5_frm hF (.inr (by omega))⟩
  have hsz := hB.size
  exact ⟨hff.os.trans hB.os, hff.tape.trans hB.tape, hff.output.trans hB.output, Nat.le_trans hB.size hff.size, fun k hk => (hff.block k (by omega) (by omega)).trans (hB.block k hk)⟩
def DwRel2 (w0 w : World) (P : Nat → Prop) (d : DrvS) (s : NorS) (a : Nat) (l : List Int) (e i : Value) (wr : World) : Prop := ∃ (j : Nat) (v' : Value), j ≤ l.length ∧ i = .int .i64 j ∧ e = .int .i64 0 ∧ DwInv w0 w P d s a l j v' wr
set_option maxRecDepth 100000 in
set_option maxHeartbeats 8000000 in
theorem ref_dwrite_go (a : Nat) (A : Option Addr) (c : Nat) (l : List Int) (h : Rf w0 w P v s) (hP : ∀ k, P k → w0.heap.size ≤ k) (hd : d.Ok s) (hB : Below w0.heap.size w0 w) (hx : RowArg w w0.heap.size A c l) (hdn : s.down = false) (hal : a + l.length ≤ d.many * 64) (hset : d.sets s a l = false) :
    Calls Try.prog 31 #[drvV d, refV v s, .int .i64 a, .slice A l.length c] w (RfPostE w0 w P (d.wr s a l) (d.wrE s a l)) := by
  have h0 : d.rdE s a l.length = 0 := DrvS.rdE_ok hdn ⟨by omega, by omega, by omega, by omega⟩
  have E : Hid (d.wr s a l = s.prog (d.base + a) l) := by show _ = _; unfold DrvS.wr; rw [if_pos h0]; show (if d.sets s a l = true then s else _) = _; rw [hset, if_neg (by simp)]; rfl
  have E' : Hid (d.wrE s a l = if s.progs l = true then 0 else 40) := by show _ = _; unfold DrvS.wrE; rw [if_pos h0]; show (if d.sets s a l = true then (50 : Int) else _) = _; rw [hset, if_neg (by simp)]
  have e6 : d.rd s a l.length = d.words s a l.length := by unfold DrvS.rd; rw [h0, if_pos rfl, Int.toNat_natCast, Int.toNat_natCast]
  have hlw := DrvS.words_length h.ok hd (a := a) (m := l.length) hal
  have hw0 := hB.size
  have H := hide h
  have HB := hide hB
  have HX0 := hide hx
  obtain ⟨A0, c0, rfl⟩ := Kd.R_slice h.r
  have hk3 := hide (sets_iff.1 hset)
  have hlm := hx.len
  have hn := hd.n
  have hn2 := h.ok.n2
  have HD := hide hd
  have HDN := hide hdn
  have K : Hid (∀ (W : World) (_ : Frm NoB w W), Calls Try.prog 33 #[drvV d, refV (.slice A0 s.l.length c0) s, .int .i64 a, .int .i64 l.length] W fun e w' => ∃ A c, e = .returned (.tuple #[.slice A l.length c, .int .i64 0]) ∧ Rd w' A (ints .u32 (d.words s a l.length)) ∧ l.length ≤ c ∧ Below W.heap.size W w') :=
    fun W hf => by
      have := ref_dread (w0 := w0) a l.length ⟨by omega, by omega⟩ ⟨by omega, by omega⟩ (H.out.frm hf (fun _ _ e => e)) hd
      rw [e6, h0, hlw] at this
      exact this
  have HU := hide (h.ok.u)
  have HG := hide (fun i (hi : i < l.length) => DrvS.words_get (d := d) (s := s) (a := a) hi)
  have HL := hide hlw
  clear h hB hx h0 hset hdn e6 hd hlw
  unfold refV drvV
  go_enter Try.func31, Try.ntmps31
  go_wp2_with fail
  have K' := K.out _ (boxes_frm w d (.slice A0 s.l.length c0) s)
  simp only [refV, drvV, rcells, rzero] at K'
  refine K'.mono ?_
  clear K'
  rintro e w2 ⟨A1, c1, rfl, hR1, hl1, hB1⟩
  have hbx := (Boxes.new w d (.slice A0 s.l.length c0) s).frm (Frm.of_below hB1 NoB) (fun k hk => hk.elim)
  have HX := hide hbx
  have HF := hide ((boxes_frm w d (.slice A0 s.l.length c0) s).trans (Frm.of_below hB1 NoB))
  have HR1 := hide hR1
  clear hbx hR1 hB1 K
  go_wp2_with fail
  go_loopw [12] (fun i wr => DwRel1 w2 l.length i wr) (fun i _ => l.length - (intOf i).toNat)
  case atStart => exact ⟨0, by omega, rfl, Frm.refl _ _⟩
  case round =>
    obtain ⟨j, hj, rfl, hfr⟩ := hrel
    have HFR := hide hfr
    by_cases hlt : j < l.length
    · obtain ⟨b1, o1, rfl, hc1⟩ := (Rd.frm' HR1.out hfr (fun _ _ _ e => e)) (by intro e; have := congrArg List.length e; rw [ints_length, HL.out] at this; simp only [List.length_nil] at this; omega)
      obtain ⟨b2, o2, rfl, hc2⟩ := (HX0.out.frm ((Hid.out HF).trans hfr) (fun _ _ e => e)).r (by intro e; have := congrArg List.length e; rw [ints_length] at this; simp only [List.length_nil] at this; omega)
      have g1 := hc1 j _ (ints_get (by rw [HL.out]; exact hlt))
      have g2 := hc2 j _ (ints_get hlt)
      rw [HG.out j hlt] at g1
      have u1 : 0 ≤ s.wd (d.base + a + j) ∧ s.wd (d.base + a + j) < 4294967296 := HU.out.get _
      have u2 := HX0.out.u.get j
      clear hc1 hc2 hfr
      have ht : (bits .and .u32 (s.wd (d.base + a + j)) (l.getD j 0) != l.getD j 0) = false := by rw [and_test u1 u2]; simpa using hk3.out j hlt
      generalize l.getD j 0 = y at g2 u2 ht
      generalize s.wd (d.base + a + j) = x at g1 u1 ht
      go_wp2_with fail
      go_quiet (fail)
      go_wp2
      go_roundw
      case rel => exact ⟨j + 1, by omega, by go_num, (Hid.out HFR).drewN _⟩
      case measure => simp [intOf]; omega
    · obtain rfl : j = l.length := by omega
      have HI : Hid (DwInv w0 w P d s a l 0 (.slice A0 s.l.length c0) wr) := by
        have hff := (Hid.out HF).trans hfr
        refine ⟨?_, ?_, below_step HB.out (hff.below (fun _ _ e => e)), hff.mono (fun _ _ e => e.elim), by rw [List.take_zero]; rfl⟩
        · rw [DrvS.upto_zero]; exact HX.out.frm hfr (fun k hk => hk.elim)
        · rw [DrvS.upto_zero]; exact (H.out.small.frm hff (fun _ _ e => e)).mono (fun k hk => .inl hk)
      clear hfr HFR HX HF HR1
      go_wp2_with fail
      obtain ⟨wq, rfl⟩ : ∃ wq : World, wq = wr := ⟨_, rfl⟩
      go_loopw [11, 13] (fun e i wr => DwRel2 w0 w P d s a l e i wr) (fun _ i _ => l.length - (intOf i).toNat)
      case atStart => exact ⟨0, _, by omega, rfl, rfl, HI.out⟩
      case round =>
        clear HI
        obtain ⟨j, v', hj, rfl, rfl, hI⟩ := hrel
        have HI := hide hI
        clear hI
        by_cases hlt : j < l.length
        · obtain ⟨b2, o2, rfl, hc2⟩ := (HX0.out.frm (HI.out.f) (fun k hk e => absurd (hP k e) (by omega))).r (by intro e; have := congrArg List.length e; rw [ints_length] at this; simp only [List.length_nil] at this; omega)
          obtain ⟨A2, c2, rfl⟩ := Kd.R_slice HI.out.r.r
          have hdnj : (d.upto s a l j).down = false := by unfold DrvS.upto; rw [NorS.prog_down, HDN.out, HI.out.p]; rfl
          have hnj : (d.upto s a l j).n = s.n := (NorS.prog_same _ s _).1
          have hdj : d.Ok (d.upto s a l j) := ⟨HD.out.m, by rw [hnj]; exact HD.out.n⟩
          obtain ⟨hpr, hpe⟩ := DrvS.program_one hdj hdnj (b := a + j) (by omega) (l.getD j 0)
          obtain ⟨hun, hup⟩ := DrvS.upto_next (d := d) (a := a) HI.out.p hlt
          have hokj : (d.upto s a l (j + 1)).Ok := NorS.Ok.prog' _ s _ H.out.ok
          obtain ⟨B, eB⟩ : ∃ B : Nat, a + j = B := ⟨_, rfl⟩
          obtain ⟨Q, eQ⟩ : ∃ Q : Nat, B / 64 = Q := ⟨_, rfl⟩
          obtain ⟨R, eR⟩ : ∃ R : Nat, B % 64 = R := ⟨_, rfl⟩
          obtain ⟨F1, eF⟩ : ∃ F1 : Nat, d.first + Q = F1 := ⟨_, rfl⟩
          rw [eB, eQ, eR, eF] at hpr hpe
          rw [eB] at hun
          have q0 : Q ≤ 1024 := by omega
          have q1 : Int.tdiv (B : Int) 64 = (Q : Int) := by rw [Int.tdiv_eq_ediv_of_nonneg (by omega)]; omega
          have q2 : Int.tmod (B : Int) 64 = (R : Int) := by rw [Int.tmod_eq_emod_of_nonneg (by omega)]; omega
          have q3 : IntKind.i64.wrap ((a : Int) + (j : Int)) = (B : Int) := by rw [IntWalk.i64_in _ (by omega)]; omega
          have q4 : IntKind.i64.wrap ((d.first : Int) + (Q : Int)) = (F1 : Int) := by rw [IntWalk.i64_in _ (by omega)]; omega
          have q5 : IntKind.i64.wrap ((j : Int) + 1) = (j : Int) + 1 := IntWalk.i64_in _ (by omega)
          have q6 : IntKind.i64.wrap (Q : Int) = (Q : Int) := IntWalk.i64_in _ (by omega)
          have z1 : (0 : Int) ≤ (j : Int) := by omega
          have z2 : (j : Int) ≤ (j : Int) + 1 := by omega
          have hlc := HX0.out.l
          have z3 : (j : Int) + 1 ≤ (c : Int) := by omega
          have z4 : ((j : Int) + 1 - (j : Int)).toNat = 1 := by omega
          have g2 := hc2 j _ (ints_get hlt)
          have u2 := HX0.out.u.get j
          have hb2 := HX0.out.b (by intro e; rw [e] at hlt; simp at hlt) _ rfl
          have HPR := hide hpr; have HPE := hide hpe; have HUN := hide hun; have HUP := hide hup; have HOKJ := hide hokj
          have hcm := HX0.out.m
          have RA : Hid (∀ (W : World) (_ : Frm NoB wr W) (cc : Nat), 1 ≤ cc → cc ≤ c → RowArg W w0.heap.size (some ⟨b2, o2 + j, none⟩) cc [l.getD j 0]) := fun W hf cc h1 h2 => by
            refine ⟨fun _ => ⟨b2, o2 + j, rfl, fun i v hi => ?_⟩, fun _ x hx => by injection hx with hx; subst hx; exact hb2, fun x hx => by simp only [List.mem_singleton] at hx; rw [hx]; exact u2, h1, by omega⟩
            have e : i = 0 := by
              have := (List.getElem?_eq_some_iff.1 hi).1
              simp [ints] at this; exact this
            subst e
            simp only [ints, List.map_cons, List.map_nil, List.getElem?_cons_zero, Option.some.injEq] at hi
            rw [← hi, Nat.add_zero, hf.cell (p := ⟨b2, o2 + j, none⟩) (by have := World.block_lt_of_cell? wr _ g2; exact this) (fun e => e)]
            exact g2
          have hbx := HI.out.b
          have HXr := hide hbx
          obtain ⟨m0, m1, m2, m3, m4⟩ := rc_cells hbx.n
          have y0 := hbx.d.cell 0
          clear hc2 hdnj hnj hdj hpr hpe hun hup hokj eB eQ eR eF hbx g2 u2
          have hcj : 1 ≤ c - j := by omega
          have PC : Hid (∀ cc, 1 ≤ cc → cc ≤ c → Calls Try.prog 54 #[refV (.slice A2 (d.upto s a l j).l.length c2) (d.upto s a l j), .int .i64 F1, .int .i64 R, .slice (some ⟨b2, o2 + j, none⟩) 1 cc] wr.drew fun e w' => ∃ A3 c3, e = .returned (.tuple #[refV (.slice A3 (d.upto s a l (j + 1)).l.length c3) (d.upto s a l (j + 1)), .int .i64 (if s.progs (l.take (j + 1)) = true then 0 else 40)]) ∧ Rf w0 w' (DwQ w P) (.slice A3 (d.upto s a l (j + 1)).l.length c3) (d.upto s a l (j + 1)) ∧ Below w0.heap.size w0 w' ∧ Frm P w w' ∧ Boxes w w' d (.slice A2 (d.upto s a l j).l.length c2) (d.upto s a l j) rzero) := fun cc h1 h2 => by
            have hfd : Frm NoB wr wr.drew := (Frm.refl NoB wr).drew
            have hr := HI.out.r.small.frm hfd (fun _ _ e => e)
            have hq : (d.upto s a l j).program (F1 : Int) (R : Int) [l.getD j 0] = d.upto s a l (j + 1) := by rw [HPR.out, HUN.out]
            have hpe : (d.upto s a l j).programE (F1 : Int) (R : Int) [l.getD j 0] = if s.progs (l.take (j + 1)) = true then 0 else 40 := by rw [HPE.out, HUP.out]
            have hszw := HI.out.f.size
            refine (ref_program (w0 := w0) (w := wr.drew) (F1 : Int) (R : Int) (some ⟨b2, o2 + j, none⟩) cc 1 [l.getD j 0] rfl hr (below_step HI.out.bw (hfd.below (fun _ _ e => e))) (RA.out _ hfd cc h1 h2) (fun k hk => by rcases hk.1 with e | e; exact hP k e.1; omega) (by rw [hq]; exact HOKJ.out)).mono ?_
            rintro e w3 ⟨v3, rfl, hR3, hB3, hF3⟩
            rw [hq] at hR3
            obtain ⟨A3, c3, rfl⟩ := Kd.R_slice hR3.r
            have hsd : wr.drew.heap.size = wr.heap.size := rfl
            refine ⟨A3, c3, by rw [hq, hpe], hR3.mono (fun k hk => by rcases hk with hk | hk; exact hk.1; exact .inr (by have := HI.out.b.r.lt; omega)), hB3, ?_, ?_⟩
            · refine (HI.out.f.trans (hfd.mono (fun _ _ e => e.elim))).then_ hF3 (fun i hi e => ?_)
              rcases e.1 with e | e
              · exact e.1
              · omega
            · exact (HXr.out.frm hfd (fun _ e => e.elim)).frm hF3 (fun k e => by rcases e.1 with e | e; exact .inl e.2; exact .inr e)
          simp only [refV] at PC
          clear HPR HPE HUP RA hb2
          by_cases hp : s.progs (l.take (j + 1)) = true
          · rw [if_pos hp] at PC
            have HP1 := hide hp
            clear hp
            go_wp2_with fail
            go_region_with ((go_at_call 54; ((with_reducible refine (PC.out _ hcj (by omega)).mono ?_); rintro e w3 ⟨A3, c3, rfl, hR3, hB3, hF3, hX3⟩; have HR3 := hide hR3; have HB3 := hide hB3; have HF3 := hide hF3; have HX3 := hide hX3; obtain ⟨n0, n1, n2, n3, n4⟩ := rc_cells hX3.n; have f0 := hX3.n.frozen 0; have f1 := hX3.n.frozen 1; have f2 := hX3.n.frozen 2; have f3 := hX3.n.frozen 3; have f4 := hX3.n.frozen 4; clear hR3 hB3 hF3 hX3)))
            all_goals
              have HSt := hide (dw_store hw0 HX3.out HR3.out HB3.out HF3.out)
              clear n0 n1 n2 n3 n4 f0 f1 f2 f3 f4 m0 m1 m2 m3 m4 y0 PC HR3 HB3 HF3 HX3 HXr
              go_wp2
              go_roundw
              case rel => exact ⟨j + 1, _, by omega, by go_num, rfl, HSt.out.1, HSt.out.2.1, HSt.out.2.2.1, HSt.out.2.2.2, HP1.out⟩
              case measure => simp [intOf]; omega
          · rw [if_neg hp] at PC
            have HP1 : Hid (s.progs (l.take (j + 1)) = false) := by show _ = _; simpa using hp
            clear hp
            go_wp2_with fail
            go_region_with ((go_at_call 54; ((with_reducible refine (PC.out _ hcj (by omega)).mono ?_); rintro e w3 ⟨A3, c3, rfl, hR3, hB3, hF3, hX3⟩; have HR3 := hide hR3; have HB3 := hide hB3; have HF3 := hide hF3; have HX3 := hide hX3; obtain ⟨n0, n1, n2, n3, n4⟩ := rc_cells hX3.n; have f0 := hX3.n.frozen 0; have f1 := hX3.n.frozen 1; have f2 := hX3.n.frozen 2; have f3 := hX3.n.frozen 3; have f4 := hX3.n.frozen 4; clear hR3 hB3 hF3 hX3)))
            all_goals
              have HSt := hide (dw_store hw0 HX3.out HR3.out HB3.out HF3.out)
              have hbx := HSt.out.1
              have HX4 := hide hbx
              clear n0 n1 n2 n3 n4 f0 f1 f2 f3 f4 m0 m1 m2 m3 m4 y0 PC HR3 HB3 HF3 HX3 HXr hbx
              obtain ⟨w4, hw4⟩ : ∃ w4, set5 w3 (w.heap.size + 1) (.slice A3 (d.upto s a l (j + 1)).l.length c3) (.int .i64 (d.upto s a l (j + 1)).guard) (.int .i64 (d.upto s a l (j + 1)).arm) (.bool (d.upto s a l (j + 1)).down) (.int .i64 (d.upto s a l (j + 1)).half) = w4 := ⟨_, rfl⟩
              have hw4' := hw4
              unfold set5 at hw4'
              rw [hw4] at HSt HX4
              rw [hw4']
              clear hw4 hw4'
              go_wp2_with (first
                | (refine wpList_load_row rfl 65 (.tmp 5) rfl (w.heap.size + 1) rfl 65 _ (0, 0) _ (Boxes.n HX4.out) Try.underlying65 rfl ref_size ?_)
                | (refine wpList_store_row rfl 65 (.tmp 8) (.tmp 77) rfl (w.heap.size + 1 + 1) _ rfl rfl 65 _ (Boxes.r HX4.out) ref_size rfl (rcells_all _ _ _ _) ?_))
              have hstop := NorS.prog_stop (s := s) (i := d.base + a) HP1.out
              have hff : Frm (fun k => k = w.heap.size + 1 + 1) w4 (w4.setRow (w.heap.size + 1 + 1) (rcells (.slice A3 (d.upto s a l (j + 1)).l.length c3) (d.upto s a l (j + 1)))) := Frm.setRow (S := fun k => k = w.heap.size + 1 + 1) (Frm.refl _ w4) (g := w.heap.size + 1 + 1) (.inl rfl) _
              have hr := HSt.out.2.1.frm hff (fun k hk e => by rcases hk with hk | hk <;> omega)
              refine bodyPost_ret (results_cell_tmp_row rfl _ _ (w.heap.size + 1 + 1) 65 (rcells (.slice A3 (d.upto s a l (j + 1)).l.length c3) (d.upto s a l (j + 1))) (0, 0) _ rfl (Blk.setRow (Boxes.r HX4.out) _) Try.underlying65 rfl ref_size) rfl ⟨.slice A3 (d.upto s a l (j + 1)).l.length c3, ret_agg2 ?_ ?_, ?_, ?_, ?_⟩
              · rw [E.out, hstop.1]; rfl
              · rw [E'.out, hstop.2]; rfl
              · rw [E.out, hstop.1]; exact hr.mono (fun k hk => by rcases hk with hk | hk; exact .inl hk.1; exact .inr (by omega))
              · exact below_setRow HSt.out.2.2.1 (by omega) _
              · exact HSt.out.2.2.2.setRow (.inr (by omega)) _
        · obtain rfl : j = l.length := by omega
          obtain ⟨A2, c2, rfl⟩ := Kd.R_slice HI.out.r.r
          have hbx := HI.out.b
          have HXr := hide hbx
          clear hbx
          have hp := HI.out.p
          rw [List.take_length] at hp
          have hu : d.upto s a l l.length = s.prog (d.base + a) l := by unfold DrvS.upto; rw [List.take_length]
          have HP := hide hp
          have HUU := hide hu
          clear hp hu
          go_wp2_with (first
            | (refine wpList_load_row rfl 65 (.tmp 5) rfl (w.heap.size + 1) rfl 65 _ (0, 0) _ (Boxes.n HXr.out) Try.underlying65 rfl ref_size ?_)
            | (refine wpList_store_row rfl 65 (.tmp 8) (.tmp 79) rfl (w.heap.size + 1 + 1) _ rfl rfl 65 _ (Boxes.r HXr.out) ref_size rfl (rcells_all _ _ _ _) ?_))
          have hff : Frm (fun k => k = w.heap.size + 1 + 1) wr (wr.setRow (w.heap.size + 1 + 1) (rcells (.slice A2 (d.upto s a l l.length).l.length c2) (d.upto s a l l.length))) := Frm.setRow (S := fun k => k = w.heap.size + 1 + 1) (Frm.refl _ wr) (g := w.heap.size + 1 + 1) (.inl rfl) _
          have hr := HI.out.r.frm hff (fun k hk e => by rcases hk with hk | hk <;> omega)
          refine bodyPost_ret (results_cell_tmp_row rfl _ _ (w.heap.size + 1 + 1) 65 (rcells (.slice A2 (d.upto s a l l.length).l.length c2) (d.upto s a l l.length)) (0, 0) _ rfl (Blk.setRow (Boxes.r HXr.out) _) Try.underlying65 rfl ref_size) rfl ⟨.slice A2 (d.upto s a l l.length).l.length c2, ret_agg2 ?_ ?_, ?_, ?_, ?_⟩
          · rw [E.out, HUU.out]; rfl
          · rw [E'.out, if_pos HP.out]; rfl
          · rw [E.out, ← HUU.out]; exact hr.mono (fun k hk => by rcases hk with hk | hk; exact .inl hk.1; exact .inr (by omega))
          · exact below_setRow HI.out.bw (by omega) _
          · exact HI.out.f.setRow (.inr (by omega)) _
theorem ref_dwrite (a : Int) (A : Option Addr) (c n : Nat) (l : List Int) (hn : l.length = n) (ha : -9223372036854775808 ≤ a ∧ a ≤ 9223372036854775807) (h : Rf w0 w P v s) (hP : ∀ k, P k → w0.heap.size ≤ k) (hd : d.Ok s) (hB : Below w0.heap.size w0 w) (hx : RowArg w w0.heap.size A c l) :
    Calls Try.prog 31 #[drvV d, refV v s, .int .i64 a, .slice A n c] w (RfPostE w0 w P (d.wr s a l) (d.wrE s a l)) := by
  subst hn
  by_cases h0 : d.rdE s a l.length = 0
  · obtain ⟨hdn, h1, h2, h3, h4⟩ := DrvS.rdE_zero h0
    obtain ⟨A', rfl⟩ := Int.eq_ofNat_of_zero_le h1
    cases hset : d.sets s A' l with
    | true => exact ref_dwrite_set A' A c l h hd hB hx hdn (by omega) hset
    | false => exact ref_dwrite_go A' A c l h hP hd hB hx hdn (by omega) hset
  · exact ref_dwrite_bad a A c l ha h hd hB hx h0
end
end Go.Proofs.Ytplngfphklpicaa

/-
  The drive: Write, at any place; of none.
-/
namespace Go.Proofs.Ytplngfphklpicaa
open Go.RowKit
section
variable {w : World} {g p q c : Nat} {s : NorS} {d : DrvS}
theorem dwrite_bad (a : Int) (A : Option Addr) (cp : Nat) (l : List Int) (h : DrvAt w g p d) (hn : NorAt w p q c s) (hd : d.Ok s) (he : ¬ d.rdE s a l.length = 0) (hll : (l.length : Int) ≤ 9223372036854775807) :
    Calls Try.prog 11 #[.pointer (some ⟨g, 0, none⟩), .int .i64 a, .slice A l.length cp] w fun e w' => e = .returned (.int .i64 (d.wrE s a l)) ∧ NorAt w' p q c (d.wr s a l) ∧ Frm (Two p q) w w' := by
  have hpl := hn.ltp
  have hql := hn.ltq
  have E : Hid (d.wr s a l = s) := by show _ = _; unfold DrvS.wr; rw [if_neg he]
  have E' : Hid (d.wrE s a l = d.rdE s a l.length) := by show _ = _; unfold DrvS.wrE; rw [if_neg he]
  obtain ⟨k, hk⟩ : ∃ k, d.rdE s a l.length = k := ⟨_, rfl⟩
  have hb : (k != 0) = true := by rw [← hk]; simpa using he
  have HN := hide hn
  have F0 : Hid (∀ X Y Z : Obj, Frm NoB w (((w.alloc X).alloc Y).alloc Z)) := fun X Y Z => (((Frm.refl NoB w).alloc X).alloc Y).alloc Z
  obtain ⟨y1, y2, y3⟩ := three_boxes (w := w) (c0 := #[.pointer (some ⟨g, 0, none⟩)]) (t0 := 23) (c1 := #[.slice A l.length cp]) (t1 := 22) (c2 := #[.int .i64 0]) (t2 := 28)
  have HR := hide (dread_is (a := a) (m := (l.length : Int)) (h.frm (F0.out (.cells #[.pointer (some ⟨g, 0, none⟩)] 23) (.cells #[.slice A l.length cp] 22) (.cells #[.int .i64 0] 28)) (fun e => e)) (hn.frm (F0.out _ _ _) (fun e => e) (fun e => e)) hd)
  have Y3 := hide y3
  have HK := hide hk
  clear he h hn hd y1 y2 y3 hk
  refine calls_marks Try.func11 rfl ?_
  simp only [Try.ntmps11, List.size_toArray, List.length_cons, List.length_nil, Nat.reduceAdd, Nat.reduceSub, Array.replicate_succ, Array.replicate_zero, List.push_toArray, List.append_toArray, List.nil_append, List.cons_append]
  go_wp2_with (go_at_call 9; refine HR.out.mono ?_; rintro e w1 ⟨A1, cp1, h1, hRd, hA1, hcp1, hF⟩; rw [HK.out] at h1; subst h1; have HF := hide hF; have y6 := (Y3.out.frm hF (fun e => e)).cell 0; have f6 := (Y3.out.frm hF (fun e => e)).frozen 0; clear hRd hA1 hcp1 hF)
  have hB6 : Blk (w1.setCell ⟨w.heap.size + 2, 0, none⟩ (.int .i64 k)) (w.heap.size + 2) 28 #[.int .i64 k] := Blk.set_ (Y3.out.frm HF.out (fun e => e)) 0 _
  have r6 : (w1.setCell ⟨w.heap.size + 1 + 1, 0, none⟩ (.int .i64 k)).cell? ⟨w.heap.size + 1 + 1, 0, none⟩ = some (.int .i64 k) := hB6.cell 0
  have hF1 : Frm NoB w (w1.setCell ⟨w.heap.size + 2, 0, none⟩ (.int .i64 k)) := ((F0.out _ _ _).trans HF.out).setCell (p := ⟨w.heap.size + 2, 0, none⟩) (.inr (by simp)) _
  refine postM_ret (v := .int .i64 k) (by simp [results, Try.results11, go_sem, r6]) rfl ⟨?_, ?_, hF1.mono (fun _ _ e => e.elim)⟩
  · rw [E'.out, HK.out]
  · rw [E.out]; exact HN.out.frm hF1 (fun e => e) (fun e => e)
theorem dwrite_is (a : Int) (A : Option Addr) (cp : Nat) (l : List Int) (h : DrvAt w g p d) (hn : NorAt w p q c s) (hd : d.Ok s) (hx : Rd w A (ints .u32 l)) (hA : l ≠ [] → ∀ x, A = some x → ¬ Two p q x.block ∧ x.block < w.heap.size) (ul : U32 l) (hcp : l.length ≤ cp) (hll : (l.length : Int) ≤ 9223372036854775807) :
    Calls Try.prog 11 #[.pointer (some ⟨g, 0, none⟩), .int .i64 a, .slice A l.length cp] w fun e w' => e = .returned (.int .i64 (d.wrE s a l)) ∧ NorAt w' p q c (d.wr s a l) ∧ Frm (Two p q) w w' := by
  by_cases he : d.rdE s a l.length = 0
  · obtain ⟨_, h1, _, _, _⟩ := DrvS.rdE_zero he
    obtain ⟨a', rfl⟩ := Int.eq_ofNat_of_zero_le h1
    exact dwrite_ok a' A cp l h hn hd hx hA ul hcp he
  · exact dwrite_bad a A cp l h hn hd he hll
theorem dwrite_at (a : Int) (A : Option Addr) (cp n : Nat) (l : List Int) (hl : l.length = n) (h : DrvAt w g p d) (hn : NorAt w p q c s) (hd : d.Ok s) (hx : Rd w A (ints .u32 l)) (hA : l ≠ [] → ∀ x, A = some x → ¬ Two p q x.block ∧ x.block < w.heap.size) (ul : U32 l) (hcp : l.length ≤ cp) (hll : (l.length : Int) ≤ 9223372036854775807) :
    Calls Try.prog 11 #[.pointer (some ⟨g, 0, none⟩), .int .i64 a, .slice A n cp] w fun e w' => e = .returned (.int .i64 (d.wrE s a l)) ∧ NorAt w' p q c (d.wr s a l) ∧ Frm (Two p q) w w' := by
  subst hl; exact dwrite_is a A cp l h hn hd hx hA ul hcp hll
theorem dwrite_no (a : Int) (v : Value) (A : Option Addr) (n cp : Nat) (h : NoDrv w v) (hll : (n : Int) ≤ 9223372036854775807) :
    Calls Try.prog 11 #[v, .int .i64 a, .slice A n cp] w fun e w' => e = .returned (.int .i64 1) ∧ Frm NoB w w' := by
  have hv : ∃ X, v = .pointer X := by rcases h with rfl | ⟨g, rfl, _⟩ <;> exact ⟨_, rfl⟩
  obtain ⟨X, rfl⟩ := hv
  have F0 : Hid (∀ X Y Z : Obj, Frm NoB w (((w.alloc X).alloc Y).alloc Z)) := fun X Y Z => (((Frm.refl NoB w).alloc X).alloc Y).alloc Z
  obtain ⟨y1, y2, y3⟩ := three_boxes (w := w) (c0 := #[.pointer X]) (t0 := 23) (c1 := #[.slice A n cp]) (t1 := 22) (c2 := #[.int .i64 0]) (t2 := 28)
  have HR := hide (dread_no a n _ (h.frm (F0.out (.cells #[.pointer X] 23) (.cells #[.slice A n cp] 22) (.cells #[.int .i64 0] 28))))
  have Y3 := hide y3
  clear h y1 y2 y3
  refine calls_marks Try.func11 rfl ?_
  simp only [Try.ntmps11, List.size_toArray, List.length_cons, List.length_nil, Nat.reduceAdd, Nat.reduceSub, Array.replicate_succ, Array.replicate_zero, List.push_toArray, List.append_toArray, List.nil_append, List.cons_append]
  go_wp2_with (go_at_call 9; refine HR.out.mono ?_; rintro e w1 ⟨rfl, hF⟩; have HF := hide hF; have y6 := (Y3.out.frm hF (fun e => e)).cell 0; have f6 := (Y3.out.frm hF (fun e => e)).frozen 0; clear hF)
  have hB6 : Blk (w1.setCell ⟨w.heap.size + 2, 0, none⟩ (.int .i64 1)) (w.heap.size + 2) 28 #[.int .i64 1] := Blk.set_ (Y3.out.frm HF.out (fun e => e)) 0 _
  have r6 : (w1.setCell ⟨w.heap.size + 1 + 1, 0, none⟩ (.int .i64 1)).cell? ⟨w.heap.size + 1 + 1, 0, none⟩ = some (.int .i64 1) := hB6.cell 0
  exact postM_ret (v := .int .i64 1) (by simp [results, Try.results11, go_sem, r6]) rfl ⟨rfl, ((F0.out _ _ _).trans HF.out).setCell (p := ⟨w.heap.size + 2, 0, none⟩) (.inr (by simp)) _⟩
end
end Go.Proofs.Ytplngfphklpicaa

/-
  The flash of a call's own: its contracts at literals.
-/
namespace Go.Proofs.Ytplngfphklpicaa
open Go.RowKit

/-- A flash that was made since the world w0. -/
structure Own (w0 w : World) (p q c : Nat) (s : NorS) : Prop where
  n : NorAt w p q c s
  f : Frm NoB w0 w
  p0 : w0.heap.size ≤ p
  q0 : w0.heap.size ≤ q
section
variable {w0 w w' : World} {p q c : Nat} {s : NorS}
theorem Frm.own (h : Frm NoB w0 w) (hp : w0.heap.size ≤ p) (hq : w0.heap.size ≤ q) (k : Frm (Two p q) w w') : Frm NoB w0 w' :=
  h.then_ k (fun i hi he => by rcases he with he | he <;> omega)
theorem Own.alloc (h : Own w0 w p q c s) (o : Obj) : Own w0 (w.alloc o) p q c s := ⟨h.n.alloc o, h.f.alloc o, h.p0, h.q0⟩
theorem Own.drewN (h : Own w0 w p q c s) (k : Nat) : Own w0 (w.drewN k) p q c s := ⟨h.n.drewN k, h.f.drewN k, h.p0, h.q0⟩
theorem Own.drew (h : Own w0 w p q c s) : Own w0 w.drew p q c s := ⟨h.n.drew, h.f.drew, h.p0, h.q0⟩
theorem Own.frm (h : Own w0 w p q c s) (k : Frm NoB w w') : Own w0 w' p q c s := ⟨h.n.frm k (fun e => e) (fun e => e), h.f.trans k, h.p0, h.q0⟩
theorem Own.step {s' : NorS} (h : Own w0 w p q c s) (hn : NorAt w' p q c s') (k : Frm (Two p q) w w') : Own w0 w' p q c s' := ⟨hn, h.f.own h.p0 h.q0 k, h.p0, h.q0⟩
/-- another flash's doing -/
theorem Own.other {p' q' : Nat} (h : Own w0 w p q c s) (k : Frm (Two p' q') w w') (hp : w0.heap.size ≤ p') (hq : w0.heap.size ≤ q') (h1 : p ≠ p') (h2 : p ≠ q') (h3 : q ≠ p') (h4 : q ≠ q') : Own w0 w' p q c s :=
  ⟨h.n.frm k (fun e => e.elim h1 h2) (fun e => e.elim h3 h4), h.f.own hp hq k, h.p0, h.q0⟩
theorem rd_lit (w : World) (cs : List Value) (t : TypeId) : Rd (w.alloc (.cells cs.toArray t)) (some ⟨w.heap.size, 0, none⟩) cs := fun _ => ⟨w.heap.size, 0, rfl, fun i v hv => by
  rw [Nat.zero_add, (Blk.new w t cs.toArray).cell i]; simpa using hv⟩

/-- words that are written out are programmed -/
theorem own_program (sec k : Int) (xs : List Int) (h : Own w0 w p q c s) (ux : U32 xs) (hm : (xs.length : Int) ≤ 9223372036854775807) (n : Nat) (hn : xs.length = n) (cs : Array Value) (hcs : cs = (ints .u32 xs).toArray) :
    Calls Try.prog 45 #[.pointer (some ⟨p, 0, none⟩), .int .i64 sec, .int .i64 k, .slice (some ⟨w.heap.size, 0, none⟩) n n] (w.alloc (.cells cs 48)) fun e w' => e = .returned (.int .i64 (s.programE sec k xs)) ∧ Own w0 w' p q c (s.program sec k xs) := by
  subst hcs
  have hA := h.alloc (.cells (ints .u32 xs).toArray 48)
  refine (program_at sec k _ n n xs hn hA.n (rd_lit w _ _) (fun _ a ha e => ?_) ux hm).mono ?_
  · injection ha with ha
    subst ha
    have h1 := h.n.ltp; have h2 := h.n.ltq
    rcases e with e | e
    · exact absurd e (by show ¬ w.heap.size = p; omega)
    · exact absurd e (by show ¬ w.heap.size = q; omega)
  · rintro e w' ⟨rfl, hn, hf⟩
    exact ⟨rfl, hA.step hn hf⟩
theorem own_program_nil (sec k : Int) (h : Own w0 w p q c s) :
    Calls Try.prog 45 #[.pointer (some ⟨p, 0, none⟩), .int .i64 sec, .int .i64 k, .slice none 0 0] w fun e w' => e = .returned (.int .i64 (s.programE sec k [])) ∧ Own w0 w' p q c (s.program sec k []) := by
  refine (program_at sec k _ 0 0 [] rfl h.n (Rd.nil _ _) (fun _ a ha => by cases ha) (fun x hx => by cases hx) (by simp)).mono ?_
  rintro e w' ⟨rfl, hn, hf⟩
  exact ⟨rfl, h.step hn hf⟩
theorem own_rewrite (sec k : Int) (xs : List Int) (h : Own w0 w p q c s) (ux : U32 xs) (hm : (xs.length : Int) ≤ 9223372036854775807) (n : Nat) (hn : xs.length = n) (cs : Array Value) (hcs : cs = (ints .u32 xs).toArray) :
    Calls Try.prog 36 #[.pointer (some ⟨p, 0, none⟩), .int .i64 sec, .int .i64 k, .slice (some ⟨w.heap.size, 0, none⟩) n n] (w.alloc (.cells cs 48)) fun e w' => e = .returned (.int .i64 (s.rewriteE sec k xs)) ∧ Own w0 w' p q c (s.rewrite sec k xs) := by
  subst hcs
  have hA := h.alloc (.cells (ints .u32 xs).toArray 48)
  refine (rewrite_at sec k _ n n xs hn hA.n (rd_lit w _ _) ux hm).mono ?_
  rintro e w' ⟨rfl, hn, hf⟩
  exact ⟨rfl, hA.step hn hf⟩
theorem own_rewrite_nil (sec k : Int) (h : Own w0 w p q c s) :
    Calls Try.prog 36 #[.pointer (some ⟨p, 0, none⟩), .int .i64 sec, .int .i64 k, .slice none 0 0] w fun e w' => e = .returned (.int .i64 (s.rewriteE sec k [])) ∧ Own w0 w' p q c (s.rewrite sec k []) := by
  refine (rewrite_at sec k _ 0 0 [] rfl h.n (Rd.nil _ _) (fun x hx => by cases hx) (by simp)).mono ?_
  rintro e w' ⟨rfl, hn, hf⟩
  exact ⟨rfl, h.step hn hf⟩
theorem own_crash (ks : List Bool) (h : Own w0 w p q c s) (hm : (ks.length : Int) ≤ 9223372036854775807) (n : Nat) (hn : ks.length = n) (cs : Array Value) (hcs : cs = (bools ks).toArray) :
    Calls Try.prog 23 #[.pointer (some ⟨p, 0, none⟩), .slice (some ⟨w.heap.size, 0, none⟩) n n] (w.alloc (.cells cs 4)) fun e w' => e = .returned (.tuple #[]) ∧ Own w0 w' p q c (s.crash ks) := by
  subst hcs
  have hA := h.alloc (.cells (bools ks).toArray 4)
  subst hn
  refine (crash_is _ _ ks hA.n (rd_lit w _ _) (fun _ a ha e => ?_) hm).mono ?_
  · injection ha with ha
    subst ha
    have h1 := h.n.ltp; have h2 := h.n.ltq
    rcases e with e | e
    · exact absurd e (by show ¬ w.heap.size = p; omega)
    · exact absurd e (by show ¬ w.heap.size = q; omega)
  · rintro e w' ⟨rfl, hn, hf⟩
    exact ⟨rfl, hA.step hn hf⟩
theorem own_crash_nil (h : Own w0 w p q c s) :
    Calls Try.prog 23 #[.pointer (some ⟨p, 0, none⟩), .slice none 0 0] w fun e w' => e = .returned (.tuple #[]) ∧ Own w0 w' p q c (s.crash []) := by
  refine (crash_is none 0 [] h.n (Rd.nil _ _) (fun _ a ha => by cases ha) (by simp)).mono ?_
  rintro e w' ⟨rfl, hn, hf⟩
  exact ⟨rfl, h.step hn hf⟩
theorem own_erase (sec : Int) (h : Own w0 w p q c s) :
    Calls Try.prog 47 #[.pointer (some ⟨p, 0, none⟩), .int .i64 sec] w fun e w' => e = .returned (.int .i64 (s.eraseE sec)) ∧ Own w0 w' p q c (s.erase sec) := by
  refine (erase_is sec h.n).mono ?_
  rintro e w' ⟨rfl, hn, hf⟩
  exact ⟨rfl, h.step hn hf⟩
theorem own_arm (k : Int) (h : Own w0 w p q c s) (hk : k ≤ 9223372036854775807) :
    Calls Try.prog 21 #[.pointer (some ⟨p, 0, none⟩), .int .i64 k] w fun e w' => e = .returned (.tuple #[]) ∧ Own w0 w' p q c (s.arms k) := by
  refine (arm_is k h.n hk).mono ?_
  rintro e w' ⟨rfl, hn, hf⟩
  exact ⟨rfl, h.step hn hf⟩
theorem own_new (n g : Nat) (h : Frm NoB w0 w) (h1 : 1 ≤ n) (h2 : n ≤ 1024) (hg : g ≤ n) :
    Calls Try.prog 25 #[.int .i64 n, .int .i64 g] w fun e w' => ∃ p q c, e = .returned (.tuple #[.pointer (some ⟨p, 0, none⟩), .int .i64 0]) ∧ Own w0 w' p q c (NorS.new n g) ∧ w.heap.size ≤ p ∧ w.heap.size ≤ q ∧ Frm NoB w w' := by
  refine (new_is n g w h1 h2 hg).mono ?_
  rintro e w' ⟨p, q, c, rfl, hn, hp, hq, hf⟩
  have := h.size
  exact ⟨p, q, c, rfl, ⟨hn, h.trans hf, by omega, by omega⟩, hp, hq, hf⟩
end
end Go.Proofs.Ytplngfphklpicaa

/-
  A flash of a call's own, and drives of it: contracts at literals.
-/
namespace Go.Proofs.Ytplngfphklpicaa
open Go.RowKit
theorem DrvS.ok_dec {d : DrvS} {s : NorS} (h : decide (1 ≤ d.many ∧ d.first + d.many ≤ s.n) = true) : d.Ok s := by
  have h := of_decide_eq_true h
  exact ⟨h.1, h.2⟩
section
variable {w0 w w' : World} {g p q c : Nat} {s : NorS} {d : DrvS}
theorem dreads_is (a : Int) (l : List Int) (B : Option Addr) (cp : Nat) (h : DrvAt w g p d) (hn : NorAt w p q c s) (hd : d.Ok s) (hx : l ≠ [] → ∀ x, B = some x → x.block < w.heap.size) (hr : Rd w B (ints .u32 l)) (hl : (l.length : Int) ≤ 9223372036854775807) :
    Calls Try.prog 26 #[.pointer (some ⟨g, 0, none⟩), .int .i64 a, .slice B l.length cp] w fun e w' => e = .returned (.bool (decide (d.rdE s a l.length = 0 ∧ d.rd s a l.length = l))) ∧ Frm NoB w w' := by
  have HR := hide (dread_is (a := a) (m := (l.length : Int)) h hn hd)
  have HX := hide hr
  have HB := hide hx
  have hlen : ((d.rd s a l.length).length : Int) ≤ 9223372036854775807 := by
    unfold DrvS.rd DrvS.words
    split
    · simp; omega
    · simp
  have HL := hide hlen
  clear h hn hd hx hr hlen
  obtain ⟨k, hk⟩ : ∃ k, d.rdE s a l.length = k := ⟨_, rfl⟩
  obtain ⟨m, hm⟩ : ∃ m, d.rd s a l.length = m := ⟨_, rfl⟩
  have HK := hide hk
  have HM := hide hm
  rw [hm] at HL
  clear hk hm
  by_cases he : k = 0
  · have hb : (k == 0) = true := by simpa using he
    have HE := hide he
    clear he
    go_enter Try.func26, Try.ntmps26
    go_wp2_with (first
      | (go_at_call 9; refine HR.out.mono ?_; rintro e w1 ⟨A1, cp1, h1, hRd, hA1, hcp1, hF⟩; rw [HK.out, HM.out] at h1; rw [HM.out] at hRd; subst h1; have HRd := hide hRd; have HF := hide hF; clear hRd hA1 hcp1 hF)
      | (go_at_call 24; refine (sameWords_is m l _ _ _ _ _ HRd.out (Rd.frm' HX.out HF.out (fun _ _ _ e => e)) HL.out).mono ?_; rintro e w2 ⟨rfl, m2, rfl⟩))
    go_ret
    refine ⟨ret_bool ?_, HF.out.drewN m2⟩
    rw [HK.out, HM.out]
    simp [HE.out, same]
  · have hb : (k == 0) = false := by simpa using he
    have HE := hide he
    clear he
    go_enter Try.func26, Try.ntmps26
    go_wp2_with (first
      | (go_at_call 9; refine HR.out.mono ?_; rintro e w1 ⟨A1, cp1, h1, hRd, hA1, hcp1, hF⟩; rw [HK.out, HM.out] at h1; rw [HM.out] at hRd; subst h1; have HRd := hide hRd; have HF := hide hF; clear hRd hA1 hcp1 hF))
    go_ret
    refine ⟨ret_bool ?_, HF.out⟩
    rw [HK.out]
    simp [HE.out]
theorem ownd_open (a m : Nat) (h : Own w0 w p q c s) (hm : 1 ≤ m) (hs : a + m ≤ s.n) :
    Calls Try.prog 16 #[.pointer (some ⟨p, 0, none⟩), .int .i64 a, .int .i64 m] w fun e w' => ∃ g, e = .returned (.tuple #[.pointer (some ⟨g, 0, none⟩), .int .i64 0]) ∧ DrvAt w' g p ⟨a, m⟩ ∧ Own w0 w' p q c s ∧ w.heap.size ≤ g ∧ Frm NoB w w' := by
  refine (dopen_is a m h.n hm hs).mono ?_
  rintro e w' ⟨rfl, rfl⟩
  have hf : Frm NoB w (w.alloc (.cells (drvCells p ⟨a, m⟩) 26)) := (Frm.refl NoB w).alloc _
  exact ⟨w.heap.size, rfl, ⟨Blk.new _ _ _⟩, h.frm hf, Nat.le_refl _, hf⟩
theorem DrvAt.own {w2 : World} (h : DrvAt w g p d) (ho : Own w0 w p q c s) (hf : Frm (Two p q) w w2) : DrvAt w2 g p d := h.frm hf (h.two ho.n)
theorem ownd_write (a : Int) (xs : List Int) (h : Own w0 w p q c s) (hg : DrvAt w g p d) (hd : d.Ok s) (ux : U32 xs) (hm : (xs.length : Int) ≤ 9223372036854775807) (n : Nat) (hn : xs.length = n) (cs : Array Value) (hcs : cs = (ints .u32 xs).toArray) :
    Calls Try.prog 11 #[.pointer (some ⟨g, 0, none⟩), .int .i64 a, .slice (some ⟨w.heap.size, 0, none⟩) n n] (w.alloc (.cells cs 48)) fun e w' => e = .returned (.int .i64 (d.wrE s a xs)) ∧ Own w0 w' p q c (d.wr s a xs) ∧ Frm (Two p q) w w' := by
  subst hcs
  have hA := h.alloc (.cells (ints .u32 xs).toArray 48)
  have hf0 : Frm NoB w (w.alloc (.cells (ints .u32 xs).toArray 48)) := (Frm.refl NoB w).alloc _
  refine (dwrite_at a _ n n xs hn (hg.frm hf0 (fun e => e)) hA.n hd (rd_lit w _ _) (fun _ x hx => ?_) ux (by omega) hm).mono ?_
  · injection hx with hx
    subst hx
    have h1 := h.n.ltp; have h2 := h.n.ltq
    refine ⟨fun e => ?_, by simp⟩
    rcases e with e | e
    · exact absurd e (by show ¬ w.heap.size = p; omega)
    · exact absurd e (by show ¬ w.heap.size = q; omega)
  · rintro e w' ⟨rfl, hn, hf⟩
    exact ⟨rfl, hA.step hn hf, (hf0.mono (fun _ _ e => e.elim)).trans hf⟩
theorem ownd_write_nil (a : Int) (h : Own w0 w p q c s) (hg : DrvAt w g p d) (hd : d.Ok s) :
    Calls Try.prog 11 #[.pointer (some ⟨g, 0, none⟩), .int .i64 a, .slice none 0 0] w fun e w' => e = .returned (.int .i64 (d.wrE s a [])) ∧ Own w0 w' p q c (d.wr s a []) ∧ Frm (Two p q) w w' := by
  refine (dwrite_at a none 0 0 [] rfl hg h.n hd (Rd.nil _ _) (fun e => (e rfl).elim) (fun x hx => by cases hx) (by simp) (by simp)).mono ?_
  rintro e w' ⟨rfl, hn, hf⟩
  exact ⟨rfl, h.step hn hf, hf⟩
theorem ownd_reads (a : Int) (xs : List Int) (h : Own w0 w p q c s) (hg : DrvAt w g p d) (hd : d.Ok s) (hm : (xs.length : Int) ≤ 9223372036854775807) (n : Nat) (hn : xs.length = n) (cs : Array Value) (hcs : cs = (ints .u32 xs).toArray) (b : Bool) (hb : decide (d.rdE s a xs.length = 0 ∧ d.rd s a xs.length = xs) = b) :
    Calls Try.prog 26 #[.pointer (some ⟨g, 0, none⟩), .int .i64 a, .slice (some ⟨w.heap.size, 0, none⟩) n n] (w.alloc (.cells cs 48)) fun e w' => e = .returned (.bool b) ∧ Own w0 w' p q c s ∧ Frm NoB w w' := by
  subst hcs hn hb
  have hA := h.alloc (.cells (ints .u32 xs).toArray 48)
  have hf0 : Frm NoB w (w.alloc (.cells (ints .u32 xs).toArray 48)) := (Frm.refl NoB w).alloc _
  refine (dreads_is a xs _ _ (hg.frm hf0 (fun e => e)) hA.n hd (fun _ x hx => ?_) (rd_lit w _ _) hm).mono ?_
  · injection hx with hx
    subst hx
    simp
  · rintro e w' ⟨rfl, hf⟩
    exact ⟨rfl, hA.frm hf, hf0.trans hf⟩
theorem ownd_erase (sec : Int) (h : Own w0 w p q c s) (hg : DrvAt w g p d) (hd : d.Ok s) (hs : -9223372036854775808 ≤ sec) :
    Calls Try.prog 12 #[.pointer (some ⟨g, 0, none⟩), .int .i64 sec] w fun e w' => e = .returned (.int .i64 (d.erE s sec)) ∧ Own w0 w' p q c (d.er s sec) ∧ Frm (Two p q) w w' := by
  refine (derase_is sec hg h.n (by have := hd.n; have := h.n.ok.n2; omega) hs).mono ?_
  rintro e w' ⟨rfl, hn, hf⟩
  exact ⟨rfl, h.step hn hf, hf⟩
theorem ownd_part (a m : Nat) (h : Own w0 w p q c s) (hg : DrvAt w g p d) (hd : d.Ok s) (hm : 1 ≤ m) (ham : a + m ≤ d.many) :
    Calls Try.prog 10 #[.pointer (some ⟨g, 0, none⟩), .int .i64 a, .int .i64 m] w fun e w' => ∃ g', e = .returned (.tuple #[.pointer (some ⟨g', 0, none⟩), .int .i64 0]) ∧ DrvAt w' g' p ⟨d.first + a, m⟩ ∧ Own w0 w' p q c s ∧ w.heap.size ≤ g' ∧ Frm NoB w w' := by
  refine (dpart_is a m hg (by have := hd.n; have := h.n.ok.n2; omega) hm ham).mono ?_
  rintro e w' ⟨g', rfl, h1, h2, hf⟩
  exact ⟨g', rfl, h1, h.frm hf, h2, hf⟩
theorem ownd_arm (k : Int) (h : Own w0 w p q c s) (hk : k ≤ 9223372036854775807) :
    Calls Try.prog 21 #[.pointer (some ⟨p, 0, none⟩), .int .i64 k] w fun e w' => e = .returned (.tuple #[]) ∧ Own w0 w' p q c (s.arms k) ∧ Frm (Two p q) w w' := by
  refine (arm_is k h.n hk).mono ?_
  rintro e w' ⟨rfl, hn, hf⟩
  exact ⟨rfl, h.step hn hf, hf⟩
theorem ownd_read (a m : Int) (h : Own w0 w p q c s) (hg : DrvAt w g p d) (hd : d.Ok s) (k : Int) (hk : d.rdE s a m = k) (n : Nat) (hn : (d.rd s a m).length = n) :
    Calls Try.prog 9 #[.pointer (some ⟨g, 0, none⟩), .int .i64 a, .int .i64 m] w fun e w' => ∃ A cp, e = .returned (.tuple #[.slice A n cp, .int .i64 k]) ∧ Own w0 w' p q c s ∧ Frm NoB w w' := by
  subst hk hn
  refine (dread_is a m hg h.n hd).mono ?_
  rintro e w' ⟨A, cp, rfl, _, _, _, hf⟩
  exact ⟨A, cp, rfl, h.frm hf, hf⟩
theorem ownd_blank (a m : Int) (h : Own w0 w p q c s) (hg : DrvAt w g p d) (hd : d.Ok s) (b : Bool) (hb : d.blank s a m = b) :
    Calls Try.prog 13 #[.pointer (some ⟨g, 0, none⟩), .int .i64 a, .int .i64 m] w fun e w' => e = .returned (.bool b) ∧ Own w0 w' p q c s ∧ Frm NoB w w' := by
  subst hb
  refine (dblank_is a m hg h.n hd).mono ?_
  rintro e w' ⟨rfl, hf⟩
  exact ⟨rfl, h.frm hf, hf⟩
end
end Go.Proofs.Ytplngfphklpicaa
