/-
  Texts of this claim, joined: Drv5, Drv6, Cel2.
-/
import Derived.IntWalk
import Derived.Test.YtiapoalkkhpmlaaCelJ5
/-
  The drive: Write.
-/
namespace Go.Proofs.Ytiapoalkkhpmlaa
open Go.RowKit
attribute [local go_sem] Oper.semAt_some
/-- what Write's frame holds, its state s' -/
structure WrInv (w : World) (p q c g : Nat) (d : DrvS) (A : Option Addr) (cp : Nat) (l : List Int) (s' : NorS) (W : World) : Prop where
  n : NorAt W p q c s'
  dr : DrvAt W g p d
  c3 : Blk W w.heap.size 24 #[.pointer (some ⟨g, 0, none⟩)]
  c5 : Blk W (w.heap.size + 1) 34 #[.slice A l.length cp]
  c6 : Blk W (w.heap.size + 2) 30 #[.int .i64 0]
  rl : Rd W A (ints .u32 l)
  f : Frm (Two p q) w W
theorem Rd.frm' {S : Nat → Prop} {w w' : World} {A : Option Addr} {l : List Int} (h : Rd w A (ints .u32 l)) (hf : Frm S w w') (hS : l ≠ [] → ∀ x, A = some x → ¬ S x.block) : Rd w' A (ints .u32 l) := by
  by_cases e : l = []
  · subst e; exact Rd.nil _ _
  · exact Rd.frm h hf (hS e)
theorem WrInv.frm {S : Nat → Prop} {w W W' : World} {p q c g : Nat} {d : DrvS} {A : Option Addr} {cp : Nat} {l : List Int} {s' : NorS} (h : WrInv w p q c g d A cp l s' W) (hp : p < w.heap.size) (hq : q < w.heap.size) (hg : g < w.heap.size)
    (hA : l ≠ [] → ∀ x, A = some x → x.block < w.heap.size) (hf : Frm S W W') (hS : ∀ k, k < w.heap.size + 3 → ¬ S k) : WrInv w p q c g d A cp l s' W' :=
  ⟨h.n.frm hf (hS _ (by omega)) (hS _ (by omega)), h.dr.frm hf (hS _ (by omega)), h.c3.frm hf (hS _ (by omega)), h.c5.frm hf (hS _ (by omega)), h.c6.frm hf (hS _ (by omega)), Rd.frm' h.rl hf (fun e x hx => hS _ (by have := hA e x hx; omega)), h.f.then_ hf (fun k hk e => (hS k (by omega) e).elim)⟩
theorem three_boxes {w : World} {c0 c1 c2 : Array Value} {t0 t1 t2 : TypeId} : Blk (((w.alloc (.cells c0 t0)).alloc (.cells c1 t1)).alloc (.cells c2 t2)) w.heap.size t0 c0 ∧ Blk (((w.alloc (.cells c0 t0)).alloc (.cells c1 t1)).alloc (.cells c2 t2)) (w.heap.size + 1) t1 c1 ∧ Blk (((w.alloc (.cells c0 t0)).alloc (.cells c1 t1)).alloc (.cells c2 t2)) (w.heap.size + 2) t2 c2 := by
  have n1 := Blk.new (w.alloc (.cells c0 t0)) t1 c1
  have n2 := Blk.new ((w.alloc (.cells c0 t0)).alloc (.cells c1 t1)) t2 c2
  simp only [World.size_alloc] at n1 n2
  exact ⟨((Blk.new w t0 c0).alloc _).alloc _, n1.alloc _, n2⟩
theorem four_boxes {w W : World} {c0 c1 c2 c3 : Array Value} {t0 t1 t2 t3 : TypeId} (hW : (((w.alloc (.cells c0 t0)).alloc (.cells c1 t1)).alloc (.cells c2 t2)).alloc (.cells c3 t3) = W) :
    W.heap.size = w.heap.size + 4 ∧ Frm NoB w W ∧ Blk W w.heap.size t0 c0 ∧ Blk W (w.heap.size + 1) t1 c1 ∧ Blk W (w.heap.size + 2) t2 c2 ∧ Blk W (w.heap.size + 3) t3 c3 := by
  subst hW
  have n1 := Blk.new (w.alloc (.cells c0 t0)) t1 c1
  have n2 := Blk.new ((w.alloc (.cells c0 t0)).alloc (.cells c1 t1)) t2 c2
  have n3 := Blk.new (((w.alloc (.cells c0 t0)).alloc (.cells c1 t1)).alloc (.cells c2 t2)) t3 c3
  simp only [World.size_alloc] at n1 n2 n3
  exact ⟨by simp only [World.size_alloc], ((((Frm.refl NoB w).alloc _).alloc _).alloc _).alloc _, (((Blk.new w t0 c0).alloc _).alloc _).alloc _, (n1.alloc _).alloc _, n2.alloc _, n3⟩
theorem Rd.drop {w : World} {A : Addr} {vs : List Value} (h : Rd w (some A) vs) (k : Nat) : Rd w (some ⟨A.block, A.off + k, none⟩) (vs.drop k) := fun hv => by
  have h0 : vs ≠ [] := fun e => hv (by rw [e]; simp)
  obtain ⟨b, o, e, hc⟩ := h h0
  injection e with e
  subst e
  refine ⟨b, o + k, rfl, fun i v hi => ?_⟩
  rw [List.getElem?_drop] at hi
  have := hc (k + i) v hi
  rw [show o + k + i = o + (k + i) from by omega]
  exact this
/-- between two pieces: k words are written -/
structure WrRel (w : World) (p q c g : Nat) (d : DrvS) (A : Option Addr) (cp : Nat) (l : List Int) (s : NorS) (i C k : Nat) (W : World) : Prop where
  inv : WrInv w p q c g d A cp l (s.prog i (l.take k)) W
  ok : s.progs (l.take k) = true
  kb : Blk W C 3 #[.int .i64 k]
theorem WrInv.turn {w W W' : World} {p q c g : Nat} {d : DrvS} {A : Option Addr} {cp : Nat} {l : List Int} {s1 s2 : NorS} {C : Nat} (h : WrInv w p q c g d A cp l s1 W) (hN : NorAt W' p q c s2) (hf : Frm (fun x => Two p q x ∨ x = C) W W') (hC : w.heap.size + 3 ≤ C)
    (hp : p < w.heap.size) (hq : q < w.heap.size) (hg : g < w.heap.size) (hgt : ¬ Two p q g) (hA : l ≠ [] → ∀ x, A = some x → ¬ Two p q x.block ∧ x.block < w.heap.size) : WrInv w p q c g d A cp l s2 W' := by
  have low : ∀ k, w.heap.size ≤ k → k < C → ¬ (Two p q k ∨ k = C) := fun k h1 h2 e => by
    rcases e with (e | e) | e <;> omega
  refine ⟨hN, h.dr.frm hf (fun e => by rcases e with e | e; exact hgt e; omega), h.c3.frm hf (low _ (by omega) (by omega)), h.c5.frm hf (low _ (by omega) (by omega)), h.c6.frm hf (low _ (by omega) (by omega)), Rd.frm' h.rl hf (fun e x hx e2 => ?_), h.f.then_ hf (fun k hk e => ?_)⟩
  · have := hA e x hx
    rcases e2 with e2 | e2
    · exact this.1 e2
    · omega
  · rcases e with e | e
    · exact e
    · omega
/-- the power failed -/
structure WrEnd (w : World) (p q c : Nat) (l : List Int) (s : NorS) (i : Nat) (W : World) : Prop where
  n : NorAt W p q c (s.prog i l)
  no : s.progs l = false
  r : Blk W (w.heap.size + 2) 30 #[.int .i64 40]
  f : Frm (Two p q) w W
theorem WrEnd.frm {S : Nat → Prop} {w W W' : World} {p q c : Nat} {l : List Int} {s : NorS} {i : Nat} (h : WrEnd w p q c l s i W) (hp : p < w.heap.size) (hq : q < w.heap.size) (hf : Frm S W W') (hS : ∀ k, k < w.heap.size + 3 → ¬ S k) : WrEnd w p q c l s i W' :=
  ⟨h.n.frm hf (hS _ (by omega)) (hS _ (by omega)), h.no, h.r.frm hf (hS _ (by omega)), h.f.then_ hf (fun k hk e => (hS k (by omega) e).elim)⟩
/-- the frame of Write's round -/
def wrAct (g a len : Nat) (A : Option Addr) (cp B : Nat) (A1 : Option Addr) (cp1 C bx first j : Nat) (u9 u10 u31 u32 u33 u34 u35 u36 u37 u38 u39 u40 u41 : Value) : Act :=
  { tmps := #[.pointer (some ⟨g, 0, none⟩), .int .i64 a, .slice A len cp, .pointer (some ⟨B, 0, none⟩), undef, .pointer (some ⟨B + 1, 0, none⟩), .pointer (some ⟨B + 1 + 1, 0, none⟩), .slice A1 len cp1, .int .i64 0, u9, u10,
      .pointer (some ⟨C, 0, none⟩), .pointer (some ⟨bx, 0, none⟩), .int .i64 (plen a len j), undef, undef, .tuple #[.slice A1 len cp1, .int .i64 0], .pointer (some ⟨g, 0, none⟩), .int .i64 a, .slice A len cp, .int .i64 len,
      .tuple #[.slice A1 len cp1, .int .i64 0], .slice A1 len cp1, .int .i64 0, .int .i64 0, .bool false, undef, .slice A len cp, .int .i64 len, .int .i64 len, .bool false, u31, u32, u33, u34, u35, u36, u37, u38, u39, u40, u41,
      .pointer (some ⟨g, 0, none⟩), .int .i64 a, .slice A len cp, .int .i64 len,
      .func (.func 76) #[] #[.pointer (some ⟨C + 1 + 2, 0, none⟩), .pointer (some ⟨C + 1 + 1, 0, none⟩), .pointer (some ⟨C + 1, 0, none⟩)],
      .agg #[.int .i64 ((first : Int) + (pcur a len j : Int) / 64), .int .i64 ((pcur a len j : Int) % 64)], .int .i64 (plen a len j), undef, undef, undef, undef, undef, undef, undef, undef, undef, undef, undef, undef, undef, undef, undef, undef, undef, undef, undef, undef, undef, undef, undef, undef, undef, undef, undef, undef, undef, undef, undef, undef, undef, undef, undef, undef, undef, undef], defers := [] }
theorem equal_self (a : List Int) (A B : Option Addr) (ca cb : Nat) (w : World) (ha : Rd w A (ints .u32 a)) (hb : Rd w B (ints .u32 a)) (hla : (a.length : Int) ≤ 9223372036854775807) :
    Calls Try.prog 75 #[.slice A a.length ca, .slice B a.length cb] w fun e w' => e = .returned (.bool true) ∧ ∃ m, w' = w.drewN m :=
  (equal_is a a A B ca cb w ha hb hla).mono (fun e w' h => ⟨h.1.trans (by rw [same_iff.2 rfl]), h.2⟩)
section
variable {w : World} {g p q c : Nat} {s : NorS} {d : DrvS}
set_option maxRecDepth 100000 in
set_option maxHeartbeats 1000000 in
theorem dwrite_ok (a : Nat) (A : Option Addr) (cp : Nat) (l : List Int) (h : DrvAt w g p d) (hn : NorAt w p q c s) (hd : d.Ok s) (hx : Rd w A (ints .u32 l)) (hA : l ≠ [] → ∀ x, A = some x → ¬ Two p q x.block ∧ x.block < w.heap.size) (ul : U32 l) (hcp : l.length ≤ cp) (he : d.rdE s a l.length = 0) :
    Calls Try.prog 43 #[.pointer (some ⟨g, 0, none⟩), .int .i64 a, .slice A l.length cp] w fun e w' => e = .returned (.int .i64 (d.wrE s a l)) ∧ NorAt w' p q c (d.wr s a l) ∧ Frm (Two p q) w w' := by
  have hn2 := hn.ok.n2
  have hdn := hd.n
  obtain ⟨hdown, z0, z1, z2, z3⟩ := DrvS.rdE_zero he
  have hpl := hn.ltp
  have hql := hn.ltq
  have hgl := h.lt
  have hwl := DrvS.words_length hn.ok hd (a := a) (m := l.length) (by omega)
  have E : Hid (d.wr s a l = if d.sets s a l = true then s else s.prog (d.base + a) l) := by show _ = _; unfold DrvS.wr; rw [if_pos he]; rfl
  have E' : Hid (d.wrE s a l = if d.sets s a l = true then 50 else if s.progs l = true then 0 else 40) := by show _ = _; unfold DrvS.wrE; rw [if_pos he]; rfl
  have hrd : d.rd s a l.length = d.words s a l.length := by unfold DrvS.rd; rw [if_pos he]; rfl
  have hu := DrvS.words_u32 (d := d) hn.ok a l.length
  have HE := hide he
  have HD := hide hdown
  have H := hide h
  have HN := hide hn
  have HOK := hide hd
  have HX := hide hx
  have HA := hide hA
  obtain ⟨y1, y2, y3⟩ := three_boxes (w := w) (c0 := #[.pointer (some ⟨g, 0, none⟩)]) (t0 := 24) (c1 := #[.slice A l.length cp]) (t1 := 34) (c2 := #[.int .i64 0]) (t2 := 30)
  have I0 : Hid (WrInv w p q c g d A cp l s _) := WrInv.mk (hn.frm ((((Frm.refl NoB w).alloc _).alloc _).alloc _) (fun e => e) (fun e => e)) (h.frm ((((Frm.refl NoB w).alloc _).alloc _).alloc _) (fun e => e)) y1 y2 y3 (Rd.frm' hx ((((Frm.refl NoB w).alloc _).alloc _).alloc _) (fun _ _ _ e => e)) ((((Frm.refl _ w).alloc _).alloc _).alloc _)
  have HR := hide (dread_is (a := (a : Int)) (m := (l.length : Int)) I0.out.dr I0.out.n hd)
  clear he h hn hd hdown hx hA y1 y2 y3
  refine calls_marks Try.func43 rfl ?_
  simp only [Try.ntmps43, List.size_toArray, List.length_cons, List.length_nil, Nat.reduceAdd, Nat.reduceSub, Array.replicate_succ, Array.replicate_zero, List.push_toArray, List.append_toArray, List.nil_append, List.cons_append]
  go_wp2_with (go_at_call 13; refine HR.out.mono ?_; rintro e w1 ⟨A1, cp1, h1, hRd, hA1, hcp1, hF⟩; rw [HE.out, hrd, hwl] at h1; rw [hrd] at hRd; subst h1; have I1 := hide (WrInv.frm I0.out hpl hql hgl (fun e x hx => (HA.out e x hx).2) hF (fun _ _ e => e)); have HRd := hide hRd; have z5 := I1.out.c5.cell 0; have z3' := I1.out.c3.cell 0; clear hRd hA1 hcp1 hF)
  go_loopw [29] (fun v wr => ∃ j m : Nat, j ≤ l.length ∧ v = .int .i64 j ∧ wr = w1.drewN m ∧ ∀ i, i < j → (wand (l.getD i 0) ((d.words s a l.length).getD i 0) == l.getD i 0) = true) (fun v _ => l.length - (intOf v).toNat)
  case atStart => exact ⟨0, 0, by omega, rfl, rfl, fun i hi => by omega⟩
  case round =>
    obtain ⟨j, m, hj, rfl, rfl, ht⟩ := hrel
    have HT := hide ht
    clear ht
    by_cases hlt : j < l.length
    · obtain ⟨ba, oa, rfl, hca⟩ := I1.out.rl (ints_ne (by intro e; subst e; simp at hlt))
      obtain ⟨bb, ob, rfl, hcb⟩ := HRd.out (ints_ne (by intro e; rw [e] at hwl; simp at hwl; omega))
      have h1 := hca j _ (ints_get hlt)
      have h2 := hcb j _ (ints_get (show j < (d.words s a l.length).length by omega))
      have i0 : (0 : Int) ≤ (j : Int) := by omega
      have i1 : (j : Int) < (l.length : Int) := by omega
      have u1 := ul.get j
      have u2 := hu.get j
      have hne := andNot_ne u1.1 u1.2 u2.1 u2.2
      have hset : Hid ((wand (l.getD j 0) ((d.words s a l.length).getD j 0) == l.getD j 0) = false → d.sets s a l = true) := fun e => by
        unfold DrvS.sets
        refine List.any_eq_true.2 ⟨j, List.mem_range.2 hlt, ?_⟩
        rw [← DrvS.words_get (m := l.length) hlt, e]; rfl
      generalize hX : l.getD j 0 = x at *
      generalize hY : (d.words s a l.length).getD j 0 = y at *
      clear hca hcb
      by_cases hs : (wand x y == x) = true
      · have hf : (bits .andNot .u32 x y != 0) = false := by rw [hne, hs]; rfl
        have HS := hide hs
        clear hne hs hset
        go_wp2
        go_roundw
        case rel =>
          refine ⟨j + 1, _, by omega, by go_num, rfl, fun i hi => ?_⟩
          rcases Nat.lt_or_ge i j with h | h
          · exact HT.out i h
          · obtain rfl : i = j := by omega
            rw [hX, hY]; exact HS.out
        case measure => simp [intOf]; omega
      · have hs : (wand x y == x) = false := by simpa using hs
        have hf : (bits .andNot .u32 x y != 0) = true := by rw [hne, hs]; rfl
        have HS := hide (hset.out hs)
        have z6 := I1.out.c6.cell 0
        have y6 := I1.out.c6.frozen 0
        clear hne hs hset
        go_wp2
        have M6 : Blk ((w1.drewN m).setCell ⟨w.heap.size + 2, 0, none⟩ (.int .i64 50)) (w.heap.size + 2) 30 #[.int .i64 50] := (I1.out.c6.drewN m).set_ 0 _
        have M6' : ((w1.drewN m).setCell ⟨w.heap.size + 1 + 1, 0, none⟩ (.int .i64 50)).cell? ⟨w.heap.size + 1 + 1, 0, none⟩ = some (.int .i64 50) := M6.cell 0
        refine postM_ret (v := .int .i64 50) (by simp [results, Try.results43, go_sem, M6']) rfl ⟨?_, ?_, (I1.out.f.drewN m).setCell (p := ⟨w.heap.size + 2, 0, none⟩) (.inr (by simp)) _⟩
        · rw [E'.out, if_pos HS.out]
        · rw [E.out, if_pos HS.out]; exact (I1.out.n.drewN m).frm ((Frm.refl (One (w.heap.size + 2)) _).set1 0 _) (fun e => by have e : p = w.heap.size + 2 := e; omega) (fun e => by have e : q = w.heap.size + 2 := e; omega)
    · obtain rfl : j = l.length := by omega
      have hset : d.sets s a l = false := by
        unfold DrvS.sets
        rw [List.any_eq_false]
        intro i hi
        have hi := List.mem_range.1 hi
        have := HT.out i hi
        rw [DrvS.words_get hi] at this
        rw [this]; simp
      rw [hset, if_neg (by simp)] at E
      rw [hset, if_neg (by simp)] at E'
      have I2 := hide (WrInv.frm I1.out hpl hql hgl (fun e x hx => (HA.out e x hx).2) ((Frm.refl NoB w1).drewN m) (fun _ _ e => e))
      obtain ⟨W1, hW1⟩ : ∃ W1, w1.drewN m = W1 := ⟨_, rfl⟩
      rw [hW1] at I2 ⊢
      have hsz1 : w.heap.size + 3 ≤ W1.heap.size := by have := I2.out.c6.lt; omega
      have z0c : ∀ X, (W1.alloc X).cell? ⟨w.heap.size, 0, none⟩ = some (.pointer (some ⟨g, 0, none⟩)) := fun X => (I2.out.c3.alloc X).cell 0
      have z5c : ∀ X, (W1.alloc X).cell? ⟨w.heap.size + 1, 0, none⟩ = some (.slice A l.length cp) := fun X => (I2.out.c5.alloc X).cell 0
      clear hW1 I0 I1 HR HRd z5 z3' HT
      go_wp2_with (go_at_call 48; refine (dpieces_is _ _ _).mono ?_; rintro e w' ⟨rfl, rfl⟩)
      rename_i K0 hK0
      obtain ⟨W, hW⟩ : ∃ W, (((W1.alloc (.cells #[.int .i64 0] 3)).alloc (.cells #[.pointer (some ⟨g, 0, none⟩)] 24)).alloc (.cells #[.int .i64 a] 3)).alloc (.cells #[.int .i64 l.length] 3) = W := ⟨_, rfl⟩
      rw [hW]
      obtain ⟨hsz, hF, b0, b1, b2, b3⟩ := four_boxes hW
      have I3 := I2.out.frm hpl hql hgl (fun e x hx => (HA.out e x hx).2) hF (fun _ _ e => e)
      have R0 : WrRel w p q c g d A cp l s (d.base + a) W1.heap.size 0 W := ⟨by rw [List.take_zero]; exact I3, by simp [NorS.progs], b0⟩
      have dc1 := I3.dr.c1
      obtain ⟨C, hC⟩ : ∃ C, W1.heap.size = C := ⟨_, rfl⟩
      rw [hC] at hsz b0 b1 b2 b3 R0 hsz1 ⊢
      clear hW hC z0c z5c I2 hF I3
      refine (wpIn_wide (n := 4)).1 ?_
      refine wpIn_rangeL (F := Fence.wide) (n := 4) rfl (by omega) (gf := 76) (lb := #[.pointer (some ⟨C + 3, 0, none⟩), .pointer (some ⟨C + 2, 0, none⟩), .pointer (some ⟨C + 1, 0, none⟩)]) rfl trivial (enters_of Try.func76 (by kernel_rfl) rfl)
        (encs := pieceV d.first a l.length) (U := Two (C + 3) (C + 2)) (V := Two (C + 1) g) (full := List.range (pnum a l.length))
        (pieces1_in 3 (by omega) (C + 3) (C + 2) (C + 1) g d.first a l.length W (by omega) (by omega) (by omega) (by omega) (by omega) (by omega) (b3.cell 0) (b2.cell 0) (b3.frozen 0) (b2.frozen 0) (b1.cell 0) dc1)
        (fun k hk => by rcases hk with hk | hk <;> omega) (fun x => rfl)
        (fun pre W' => WrRel w p q c g d A cp l s (d.base + a) C (pcur a l.length pre.length - a) W') (fun co _ W' => co = .ret ∧ WrEnd w p q c l s (d.base + a) W')
        (fun pre X Y hi hf => ?hI) (fun co pre X Y hi hf => ?hIx) (by simpa [pcur_zero] using R0)
        (fun j a' W' => ∃ bx, C + 6 ≤ bx ∧ Blk W' bx 96 #[.int .i64 ((d.first : Int) + (pcur a l.length j : Int) / 64), .int .i64 ((pcur a l.length j : Int) % 64)] ∧ a' = wrAct g a l.length A cp w.heap.size A1 cp1 C bx d.first j u9 u10 u31 u32 u33 u34 u35 u36 u37 u38 u39 u40 u41)
        (fun j a' X Y hx hf => ?ax) ?assign ?body (fun k hk => by rcases hk with hk | hk <;> omega) ?done ?stop
      case hI =>
        have hlow : ∀ k, k < C + 2 → ¬ (Two (C + 3) (C + 2) k ∨ LoopB W.heap.size k) := fun k hk e => by rcases e with (e | e) | (e | e) <;> omega
        exact ⟨hi.inv.frm hpl hql hgl (fun e x hx => (HA.out e x hx).2) hf (fun k hk => hlow k (by omega)), hi.ok, hi.kb.frm hf (hlow _ (by omega))⟩
      case hIx =>
        have hlow : ∀ k, k < C + 2 → ¬ (Two (C + 3) (C + 2) k ∨ LoopB W.heap.size k) := fun k hk e => by rcases e with (e | e) | (e | e) <;> omega
        exact ⟨hi.1, hi.2.frm hpl hql hf (fun k hk => hlow k (by omega))⟩
      case ax =>
        obtain ⟨bx, h1, h2, h3⟩ := hx
        exact ⟨bx, h1, h2.frm hf (fun e => by rcases e with (e | e) | (e | e) <;> omega), h3⟩
      case assign =>
        intro l0 pre j W' K hlt hi hK
        have HK := hide hK
        have HI := hide hi
        clear hK hi R0 b0 b1 b2 b3 dc1
        unfold pieceV
        gi_wp2
        have hfr := (Frm.refl NoB W').alloc (.cells #[.int .i64 ((d.first : Int) + (pcur a l.length j : Int) / 64), .int .i64 ((pcur a l.length j : Int) % 64)] 96)
        refine HK.out _ _ (Keep.of_frm hfr (fun _ _ e => e)) ⟨HI.out.inv.frm hpl hql hgl (fun e x hx => (HA.out e x hx).2) hfr (fun _ _ e => e), HI.out.ok, HI.out.kb.frm hfr (fun e => e)⟩ ⟨W'.heap.size, by omega, Blk.new _ _ _, rfl⟩
      case body =>
        rintro l0 pre j a' W' hlt hi ⟨bx, hbx, hB, rfl⟩ hpre
        obtain ⟨rfl, hj⟩ := range_prefix hpre
        rw [List.length_range] at hi
        have hp0 := plen_pos hj
        have hp1 := pnum_lt.1 hj
        have hp2 := plen_le hj
        have hp3 := pcur_next hj
        have hp4 := pcur_ge a l.length j
        have hp5 := pcur_le a l.length (j + 1)
        have hgt := H.out.two HN.out
        obtain ⟨cu, hcu⟩ : ∃ cu, pcur a l.length j = cu := ⟨_, rfl⟩
        obtain ⟨ln, hln⟩ : ∃ ln, plen a l.length j = ln := ⟨_, rfl⟩
        unfold wrAct
        rw [hcu] at hi hB hp1 hp2 hp3 hp4
        rw [hln] at hp0 hp2 hp3
        rw [hcu, hln]
        obtain ⟨T, hT⟩ : ∃ T : Nat → Prop, (fun k => (Two (C + 3) (C + 2) k ∨ Two (C + 1) g k) ∨ LoopB W.heap.size k) = T := ⟨_, rfl⟩
        have hT2 : ∀ k, T k → ¬ (Two p q k ∨ k = C) := fun k hk e => by
          rw [← hT] at hk
          rcases e with e | e
          · rcases hk with (hk | hk) | hk
            · rcases hk with hk | hk <;> rcases e with e | e <;> omega
            · rcases hk with hk | hk
              · rcases e with e | e <;> omega
              · exact hgt (hk ▸ e)
            · rcases hk with hk | hk <;> rcases e with e | e <;> omega
          · rcases hk with (hk | hk) | hk <;> rcases hk with hk | hk <;> omega
        have hL2 : ∀ k, LoopB W.heap.size k → ¬ (Two p q k ∨ k = w.heap.size + 2) := fun k hk e => by
          rcases hk with hk | hk <;> rcases e with (e | e) | e <;> omega
        rw [hT]
        obtain ⟨k, hk⟩ : ∃ k, cu - a = k := ⟨_, rfl⟩
        rw [hk] at hi
        have hkl : k + ln ≤ l.length := by omega
        have hne : l ≠ [] := fun e => by rw [e] at hkl; simp at hkl; omega
        obtain ⟨b, o, rfl, hca⟩ := hi.inv.rl (ints_ne hne)
        have hrx : Rd W' (some ⟨b, o + k, none⟩) (ints .u32 ((l.drop k).take ln)) := by
          rw [ints_take]
          refine Rd.take ?_ ln
          have h := Rd.drop hi.inv.rl k
          have e : ints .u32 (l.drop k) = (ints .u32 l).drop k := by simp [ints]
          rw [e]; exact h
        have hbA := HA.out hne _ rfl
        obtain ⟨s1, hs1⟩ : ∃ s1, s.prog (d.base + a) (l.take k) = s1 := ⟨_, rfl⟩
        have hsame := NorS.prog_same (l.take k) s (d.base + a)
        have hdn1 := NorS.prog_down (l.take k) s (d.base + a)
        have hpp := NorS.prog_piece (i := d.base + a) (m := ln) hi.ok (by omega)
        rw [hs1] at hsame hdn1 hpp
        rw [HD.out, hi.ok] at hdn1
        have hN1 := hi.inv.n
        rw [hs1] at hN1
        have hxl : ((l.drop k).take ln).length = ln := by simp; omega
        have hxu : U32 ((l.drop k).take ln) := (ul.drop k).take ln
        have hup : s1.up ((d.first : Int) + (cu : Int) / 64) ((cu : Int) % 64) ln = 0 := by
          unfold NorS.up
          rw [if_neg (by rw [hdn1]; simp), if_pos]
          unfold NorS.there
          simp only [Bool.and_eq_true, decide_eq_true_eq]
          have := hsame.1
          omega
        have hat : NorS.at_ ((d.first : Int) + (cu : Int) / 64) ((cu : Int) % 64) = d.base + a + k := by
          unfold NorS.at_ DrvS.base; omega
        obtain ⟨xs, hxs⟩ : ∃ xs, (l.drop k).take ln = xs := ⟨_, rfl⟩
        rw [hxs] at hrx hpp hxl hxu
        have PR : Hid (∀ w0, NorAt w0 p q c s1 → Rd w0 (some ⟨b, o + k, none⟩) (ints .u32 xs) → Calls Try.prog 74 #[.pointer (some ⟨p, 0, none⟩), .int .i64 ((d.first : Int) + (cu : Int) / 64), .int .i64 ((cu : Int) % 64), .slice (some ⟨b, o + k, none⟩) ln (cp - k)] w0 fun e w' => e = .returned (.int .i64 (if s1.progs xs = true then 0 else 40)) ∧ NorAt w' p q c (s1.prog (d.base + a + k) xs) ∧ Frm (Two p q) w0 w') := by
          intro w0 h1 h2
          have h := program_at ((d.first : Int) + (cu : Int) / 64) ((cu : Int) % 64) (some ⟨b, o + k, none⟩) (cp - k) ln xs hxl h1 h2 (fun _ x hx => by injection hx with hx; subst hx; exact hbA.1) hxu (by omega)
          have e1 : s1.programE ((d.first : Int) + (cu : Int) / 64) ((cu : Int) % 64) xs = if s1.progs xs = true then 0 else 40 := by unfold NorS.programE; rw [hxl, if_pos hup]
          have e2 : s1.program ((d.first : Int) + (cu : Int) / 64) ((cu : Int) % 64) xs = s1.prog (d.base + a + k) xs := by unfold NorS.program; rw [hxl, if_pos hup, hat]
          rwa [e1, e2] at h
        have hcell : ∀ W2, Frm (Two p q) W' W2 → W2.cell? ⟨w.heap.size, 0, none⟩ = some (.pointer (some ⟨g, 0, none⟩)) ∧ W2.cell? ⟨g, 0, none⟩ = some (.pointer (some ⟨p, 0, none⟩)) ∧ W2.cell? ⟨bx, 0, none⟩ = some (.int .i64 ((d.first : Int) + (cu : Int) / 64)) ∧ W2.cell? ⟨bx, 1, none⟩ = some (.int .i64 ((cu : Int) % 64)) ∧ W2.cell? ⟨w.heap.size + 1, 0, none⟩ = some (.slice (some ⟨b, o, none⟩) l.length cp) ∧ W2.cell? ⟨C, 0, none⟩ = some (.int .i64 k) := fun W2 hf =>
          ⟨(hi.inv.c3.frm hf (fun e => by rcases e with e | e <;> omega)).cell 0, (hi.inv.dr.frm hf hgt).c0, (hB.frm hf (fun e => by rcases e with e | e <;> omega)).cell 0, (hB.frm hf (fun e => by rcases e with e | e <;> omega)).cell 1, (hi.inv.c5.frm hf (fun e => by rcases e with e | e <;> omega)).cell 0, (hi.kb.frm hf (fun e => by rcases e with e | e <;> omega)).cell 0⟩
        have hw1 : IntKind.i64.wrap ((k : Int) + ln) = (k : Int) + ln := IntWalk.i64_in _ (by omega)
        have hck : ¬ cp = k := by omega
        have htn : ((k : Int) + ln).toNat - k = ln := by omega
        have i0 : (0 : Int) ≤ (k : Int) := by omega
        have i1 : (k : Int) ≤ (k : Int) + ln := by omega
        have i2 : (k : Int) + ln ≤ (cp : Int) := by omega
        have HI := hide hi
        have HB := hide hB
        have HRX := hide hrx
        have HN1 := hide hN1
        have HC := hide hcell
        have HPP := hide hpp
        have HS1 := hide hs1
        clear hi hB hrx hN1 hcell hpp hs1 hca hup hat hdn1 hsame hxs R0 b0 b1 b2 b3 dc1 hxu hpre
        gi_wp2
        refine region_mix_round (S := fun W2 => W2.cell? ⟨w.heap.size, 0, none⟩ = some (.pointer (some ⟨g, 0, none⟩)) ∧ W2.cell? ⟨g, 0, none⟩ = some (.pointer (some ⟨p, 0, none⟩)) ∧ W2.cell? ⟨bx, 0, none⟩ = some (.int .i64 ((d.first : Int) + (cu : Int) / 64)) ∧ W2.cell? ⟨bx, 1, none⟩ = some (.int .i64 ((cu : Int) % 64)) ∧ W2.cell? ⟨w.heap.size + 1, 0, none⟩ = some (.slice (some ⟨b, o, none⟩) l.length cp) ∧ W2.cell? ⟨C, 0, none⟩ = some (.int .i64 k))
          [true, true, true, true, true, true, true, true, true, true, true, true, true, true, false, true] (by kernel_rfl) (by kernel_rfl) (by kernel_rfl) rfl (by kernel_rfl) (by rintro ⟨a0, w0, h0⟩; exact h0) (fun c a0 d0 v0 w0 h0 => h0) (HC.out _ ((Frm.refl _ W').drew)) (fun hS0 => ?_)
        iterate 14
          refine wpMix_take ?_ (by rfl) (fun w0 hS => ?_) ?_
          rotate_left
          · obtain ⟨e1, e2, e3, e4, e5, e6⟩ := hS
            go_simp
            try with_reducible rfl
          simp only [Act.put, List.setIfInBounds_toArray, List.set_cons_zero, List.set_cons_succ]
        refine wpMix_alone (by rfl) (fun K hK => ?_)
        go_simp
        have hI0 := HI.out.inv.frm hpl hql hgl (fun e x hx => (HA.out e x hx).2) ((Frm.refl NoB W').drew) (fun _ _ e => e)
        rw [HS1.out] at hI0
        go_at_call 74
        refine (PR.out _ hI0.n HRX.out).mono ?_
        rintro e W3 ⟨rfl, hN3, hF3⟩
        have hF4 : Frm (Two p q) W' W3 := ((Frm.refl _ W').drew).trans hF3
        refine hK _ _ (HC.out _ hF4) (fun hS3 => ?_)
        clear hK K
        try simp only [Act.put, List.setIfInBounds_toArray, List.set_cons_zero, List.set_cons_succ]
        refine wpMix_take ?_ (by rfl) (fun w0 hS => ?_) ?_
        rotate_left
        · go_simp
          try with_reducible rfl
        simp only [Act.put, List.setIfInBounds_toArray, List.set_cons_zero, List.set_cons_succ]
        refine wpMix_nil ?_
        obtain ⟨-, -, -, -, -, k3⟩ := hS3
        have k6 := (HI.out.kb.frm hF4 (fun e => by rcases e with e | e <;> omega)).frozen 0
        have HF4 := hide hF4
        have HN3 := hide hN3
        clear hF3 hF4 hN3 hI0
        by_cases hpr : s1.progs xs = true
        · rw [if_pos hpr]
          gi_wp2
          have hF5 : Frm (fun x => Two p q x ∨ x = C) W' (W3.setCell ⟨C, 0, none⟩ (.int .i64 ((k : Int) + ln))) := (HF4.out.mono (fun _ _ e => .inl e)).setCell (p := ⟨C, 0, none⟩) (.inl (.inr rfl)) _
          have hf1 : Frm (One C) W3 (W3.setCell ⟨C, 0, none⟩ (.int .i64 ((k : Int) + ln))) := (Frm.refl _ W3).set1 0 _
          have hN5 := HN3.out.frm hf1 (fun e => by have e : p = C := e; omega) (fun e => by have e : q = C := e; omega)
          rw [← HPP.out.1] at hN5
          have hkb : Blk (W3.setCell ⟨C, 0, none⟩ (.int .i64 ((k : Int) + ln))) C 3 #[.int .i64 ((k : Int) + ln)] := Blk.set_ (HI.out.kb.frm HF4.out (fun e => by rcases e with e | e <;> omega)) 0 _
          have e : pcur a l.length (List.range j ++ [j]).length - a = k + ln := by simp; omega
          refine ⟨Keep.of_frm hF5 (fun i hi e => hT2 i hi e), ?_⟩
          show WrRel w p q c g d (some ⟨b, o, none⟩) cp l s (d.base + a) C (pcur a l.length (List.range j ++ [j]).length - a) _
          rw [e]
          exact ⟨HI.out.inv.turn hN5 hF5 hsz1 hpl hql hgl hgt HA.out, HPP.out.2.trans hpr, by rw [Int.natCast_add]; exact hkb⟩
        · rw [if_neg hpr]
          have c6 := (HI.out.inv.c6.frm HF4.out (fun e => by rcases e with e | e <;> omega)).cell 0
          have f6 := (HI.out.inv.c6.frm HF4.out (fun e => by rcases e with e | e <;> omega)).frozen 0
          gi_wp2
          have hF5 : Frm (fun x => Two p q x ∨ x = w.heap.size + 2) W' (W3.setCell ⟨w.heap.size + 2, 0, none⟩ (.int .i64 40)) := (HF4.out.mono (fun _ _ e => .inl e)).setCell (p := ⟨w.heap.size + 2, 0, none⟩) (.inl (.inr rfl)) _
          have hf1 : Frm (One (w.heap.size + 2)) W3 (W3.setCell ⟨w.heap.size + 2, 0, none⟩ (.int .i64 40)) := (Frm.refl _ W3).set1 0 _
          have hN5 := HN3.out.frm hf1 (fun e => by have e : p = w.heap.size + 2 := e; omega) (fun e => by have e : q = w.heap.size + 2 := e; omega)
          have hst : s.progs (l.take (k + ln)) = false := by rw [HPP.out.2]; simpa using hpr
          have hst2 := NorS.prog_stop (i := d.base + a) hst
          rw [← HPP.out.1, ← hst2.1] at hN5
          have hkb : Blk (W3.setCell ⟨w.heap.size + 2, 0, none⟩ (.int .i64 40)) (w.heap.size + 2) 30 #[.int .i64 40] := Blk.set_ (HI.out.inv.c6.frm HF4.out (fun e => by rcases e with e | e <;> omega)) 0 _
          exact ⟨Keep.of_frm hF5 (fun i hi e => hL2 i hi e), rfl, hN5, hst2.2, hkb, HI.out.inv.f.then_ hF5 (fun x hx e => by
            rcases e with e | e
            · exact e
            · omega)⟩
      case done =>
        intro W2 hi hD
        rw [List.length_range, pcur_last, Nat.add_sub_cancel_left] at hi
        have hN2 := hi.inv.n
        have hok := hi.ok
        rw [List.take_length] at hN2 hok
        have hd2 : d.Ok (s.prog (d.base + a) l) := ⟨HOK.out.m, by rw [(NorS.prog_same l s _).1]; exact HOK.out.n⟩
        have hdn2 : (s.prog (d.base + a) l).down = false := by rw [NorS.prog_down, HD.out, hok]; rfl
        have he2 : d.rdE (s.prog (d.base + a) l) a l.length = 0 := DrvS.rdE_ok hdn2 ⟨z0, z1, z2, z3⟩
        have hr2 : d.rd (s.prog (d.base + a) l) a l.length = l := by
          unfold DrvS.rd
          rw [if_pos he2]
          exact DrvS.readback (Hid.out HN).ok HOK.out (by omega) hset hok
        have RD2 := hide (dread_is (a := (a : Int)) (m := (l.length : Int)) hi.inv.dr hN2 hd2)
        have HR2 := hide hr2
        have HE2 := hide he2
        have hDl : W.heap.size < W2.heap.size := (Array.getElem?_eq_some_iff.1 hD).1
        have k3 := hi.inv.c3.cell 0
        have k5 := hi.inv.c5.cell 0
        have HI := hide hi
        have HDe := hide hD
        have HN2 := hide hN2
        have HOk := hide hok
        rw [hsz] at hDl HDe ⊢
        clear hi hD hN2 hok hr2 he2 hdn2 hd2 R0 b0 b1 b2 b3 dc1 hu hrd
        refine hK0 _ _ ?_
        go_wp2_with (first
          | (go_at_call 13; refine RD2.out.mono ?_; rintro e w2 ⟨A2, cp2, h1, hRd, hA1, hcp1, hF⟩; rw [HE2.out, HR2.out] at h1; rw [HR2.out] at hRd; subst h1; have HRd := hide hRd; have HF := hide hF; have k5 := (HI.out.inv.c5.frm hF (fun e => e)).cell 0; clear hRd hA1 hcp1 hF)
          | (go_at_call 75; refine (equal_self l _ _ _ _ _ HRd.out (Rd.frm' HI.out.inv.rl HF.out (fun _ _ _ e => e)) (by omega)).mono ?_; rintro e w3 ⟨rfl, m2, rfl⟩; have k6 := ((HI.out.inv.c6.frm HF.out (fun e => e)).drewN m2).cell 0; have f6 := ((HI.out.inv.c6.frm HF.out (fun e => e)).drewN m2).frozen 0))
        have hF3 : Frm (fun x => x = w.heap.size + 2) W2 ((w2.drewN m2).setCell ⟨w.heap.size + 2, 0, none⟩ (.int .i64 0)) := Frm.setCell (S := fun x => x = w.heap.size + 2) ((HF.out.mono (fun _ _ e => e.elim)).drewN m2) (p := ⟨w.heap.size + 2, 0, none⟩) (.inl rfl) _
        have hB6 : Blk ((w2.drewN m2).setCell ⟨w.heap.size + 2, 0, none⟩ (.int .i64 0)) (w.heap.size + 2) 30 #[.int .i64 0] := Blk.set_ ((HI.out.inv.c6.frm HF.out (fun e => e)).drewN m2) 0 _
        have hN3 := HN2.out.frm hF3 (fun e => by omega) (fun e => by omega)
        have hF4 : Frm (Two p q) w ((w2.drewN m2).setCell ⟨w.heap.size + 2, 0, none⟩ (.int .i64 0)) := HI.out.inv.f.then_ hF3 (fun x hx e => by omega)
        obtain ⟨W3, hW3⟩ : ∃ W3, (w2.drewN m2).setCell ⟨w.heap.size + 2, 0, none⟩ (.int .i64 0) = W3 := ⟨_, rfl⟩
        have hW3' : (w2.drewN m2).setCell ⟨w.heap.size + 1 + 1, 0, none⟩ (.int .i64 0) = W3 := hW3
        rw [hW3] at hF3 hB6 hN3 hF4
        rw [hW3']
        have hD3 : W3.heap[C + 4]? = some (.deferred (some [])) := (hF3.block _ hDl (fun e => by omega)).trans HDe.out
        have hfp : Frm (One (C + 4)) W3 (W3.putObj (C + 4) (.deferred none)) := Frm.putObj (Frm.refl _ W3) _ (.inl rfl)
        have r6 : (W3.putObj (C + 4) (.deferred none)).cell? ⟨w.heap.size + 1 + 1, 0, none⟩ = some (.int .i64 0) := (hB6.frm hfp (fun e => by have e : w.heap.size + 2 = C + 4 := e; omega)).cell 0
        refine postM_mark (v := .int .i64 0) (by simp [results, Try.results43, go_sem, r6]) rfl hD3 ⟨?_, ?_, hF4.then_ hfp (fun x hx e => by have e : x = C + 4 := e; omega)⟩
        · rw [E'.out, if_pos HOk.out]
        · rw [E.out]; exact hN3.frm hfp (fun e => by have e : p = C + 4 := e; omega) (fun e => by have e : q = C + 4 := e; omega)
      case stop =>
        intro co pre W2 _ hx hD
        obtain ⟨rfl, hE⟩ := hx
        rw [hsz] at hD ⊢
        have hDl : C + 4 < W2.heap.size := (Array.getElem?_eq_some_iff.1 hD).1
        have hfp : Frm (One (C + 4)) W2 (W2.putObj (C + 4) (.deferred none)) := Frm.putObj (Frm.refl _ W2) _ (.inl rfl)
        have hlow : ∀ k, k < w.heap.size + 3 → ¬ One (C + 4) k := fun k hk e => by have e : k = C + 4 := e; omega
        have hE2 := hE.frm hpl hql hfp hlow
        have r6 : (W2.putObj (C + 4) (.deferred none)).cell? ⟨w.heap.size + 1 + 1, 0, none⟩ = some (.int .i64 40) := hE2.r.cell 0
        have hno := hE.no
        clear R0 b0 b1 b2 b3 dc1 hu hrd
        refine (wpIn_wide (n := 4)).2 ?_
        go_wp2
        refine postM_mark (v := .int .i64 40) (by simp [results, Try.results43, go_sem, r6]) rfl hD ⟨?_, ?_, hE2.f⟩
        · rw [E'.out, if_neg (by rw [hno]; simp)]
        · rw [E.out]; exact hE2.n
end
end Go.Proofs.Ytiapoalkkhpmlaa

/-
  The drive: Write, at any place; of none.
-/
namespace Go.Proofs.Ytiapoalkkhpmlaa
open Go.RowKit
section
variable {w : World} {g p q c : Nat} {s : NorS} {d : DrvS}
theorem dwrite_bad (a : Int) (A : Option Addr) (cp : Nat) (l : List Int) (h : DrvAt w g p d) (hn : NorAt w p q c s) (hd : d.Ok s) (he : ¬ d.rdE s a l.length = 0) (_ : (l.length : Int) ≤ 9223372036854775807) :
    Calls Try.prog 43 #[.pointer (some ⟨g, 0, none⟩), .int .i64 a, .slice A l.length cp] w fun e w' => e = .returned (.int .i64 (d.wrE s a l)) ∧ NorAt w' p q c (d.wr s a l) ∧ Frm (Two p q) w w' := by
  have hpl := hn.ltp
  have hql := hn.ltq
  have E : Hid (d.wr s a l = s) := by show _ = _; unfold DrvS.wr; rw [if_neg he]
  have E' : Hid (d.wrE s a l = d.rdE s a l.length) := by show _ = _; unfold DrvS.wrE; rw [if_neg he]
  obtain ⟨k, hk⟩ : ∃ k, d.rdE s a l.length = k := ⟨_, rfl⟩
  have hb : (k != 0) = true := by rw [← hk]; simpa using he
  have HN := hide hn
  have F0 : Hid (∀ X Y Z : Obj, Frm NoB w (((w.alloc X).alloc Y).alloc Z)) := fun X Y Z => (((Frm.refl NoB w).alloc X).alloc Y).alloc Z
  obtain ⟨y1, y2, y3⟩ := three_boxes (w := w) (c0 := #[.pointer (some ⟨g, 0, none⟩)]) (t0 := 24) (c1 := #[.slice A l.length cp]) (t1 := 34) (c2 := #[.int .i64 0]) (t2 := 30)
  have HR := hide (dread_is (a := a) (m := (l.length : Int)) (h.frm (F0.out (.cells #[.pointer (some ⟨g, 0, none⟩)] 24) (.cells #[.slice A l.length cp] 34) (.cells #[.int .i64 0] 30)) (fun e => e)) (hn.frm (F0.out _ _ _) (fun e => e) (fun e => e)) hd)
  have Y3 := hide y3
  have HK := hide hk
  clear he h hn hd y1 y2 y3 hk
  refine calls_marks Try.func43 rfl ?_
  simp only [Try.ntmps43, List.size_toArray, List.length_cons, List.length_nil, Nat.reduceAdd, Nat.reduceSub, Array.replicate_succ, Array.replicate_zero, List.push_toArray, List.append_toArray, List.nil_append, List.cons_append]
  go_wp2_with (go_at_call 13; refine HR.out.mono ?_; rintro e w1 ⟨A1, cp1, h1, hRd, hA1, hcp1, hF⟩; rw [HK.out] at h1; subst h1; have HF := hide hF; have y6 := (Y3.out.frm hF (fun e => e)).cell 0; have f6 := (Y3.out.frm hF (fun e => e)).frozen 0; clear hRd hA1 hcp1 hF)
  have hB6 : Blk (w1.setCell ⟨w.heap.size + 2, 0, none⟩ (.int .i64 k)) (w.heap.size + 2) 30 #[.int .i64 k] := Blk.set_ (Y3.out.frm HF.out (fun e => e)) 0 _
  have r6 : (w1.setCell ⟨w.heap.size + 1 + 1, 0, none⟩ (.int .i64 k)).cell? ⟨w.heap.size + 1 + 1, 0, none⟩ = some (.int .i64 k) := hB6.cell 0
  have hF1 : Frm NoB w (w1.setCell ⟨w.heap.size + 2, 0, none⟩ (.int .i64 k)) := ((F0.out _ _ _).trans HF.out).setCell (p := ⟨w.heap.size + 2, 0, none⟩) (.inr (by simp)) _
  refine postM_ret (v := .int .i64 k) (by simp [results, Try.results43, go_sem, r6]) rfl ⟨?_, ?_, hF1.mono (fun _ _ e => e.elim)⟩
  · rw [E'.out, HK.out]
  · rw [E.out]; exact HN.out.frm hF1 (fun e => e) (fun e => e)
theorem dwrite_is (a : Int) (A : Option Addr) (cp : Nat) (l : List Int) (h : DrvAt w g p d) (hn : NorAt w p q c s) (hd : d.Ok s) (hx : Rd w A (ints .u32 l)) (hA : l ≠ [] → ∀ x, A = some x → ¬ Two p q x.block ∧ x.block < w.heap.size) (ul : U32 l) (hcp : l.length ≤ cp) (hll : (l.length : Int) ≤ 9223372036854775807) :
    Calls Try.prog 43 #[.pointer (some ⟨g, 0, none⟩), .int .i64 a, .slice A l.length cp] w fun e w' => e = .returned (.int .i64 (d.wrE s a l)) ∧ NorAt w' p q c (d.wr s a l) ∧ Frm (Two p q) w w' := by
  by_cases he : d.rdE s a l.length = 0
  · obtain ⟨_, h1, _, _, _⟩ := DrvS.rdE_zero he
    obtain ⟨a', rfl⟩ := Int.eq_ofNat_of_zero_le h1
    exact dwrite_ok a' A cp l h hn hd hx hA ul hcp he
  · exact dwrite_bad a A cp l h hn hd he hll
theorem dwrite_at (a : Int) (A : Option Addr) (cp n : Nat) (l : List Int) (hl : l.length = n) (h : DrvAt w g p d) (hn : NorAt w p q c s) (hd : d.Ok s) (hx : Rd w A (ints .u32 l)) (hA : l ≠ [] → ∀ x, A = some x → ¬ Two p q x.block ∧ x.block < w.heap.size) (ul : U32 l) (hcp : l.length ≤ cp) (hll : (l.length : Int) ≤ 9223372036854775807) :
    Calls Try.prog 43 #[.pointer (some ⟨g, 0, none⟩), .int .i64 a, .slice A n cp] w fun e w' => e = .returned (.int .i64 (d.wrE s a l)) ∧ NorAt w' p q c (d.wr s a l) ∧ Frm (Two p q) w w' := by
  subst hl; exact dwrite_is a A cp l h hn hd hx hA ul hcp hll
theorem dwrite_no (a : Int) (v : Value) (A : Option Addr) (n cp : Nat) (h : NoDrv w v) (_ : (n : Int) ≤ 9223372036854775807) :
    Calls Try.prog 43 #[v, .int .i64 a, .slice A n cp] w fun e w' => e = .returned (.int .i64 1) ∧ Frm NoB w w' := by
  have hv : ∃ X, v = .pointer X := by rcases h with rfl | ⟨g, rfl, _⟩ <;> exact ⟨_, rfl⟩
  obtain ⟨X, rfl⟩ := hv
  have F0 : Hid (∀ X Y Z : Obj, Frm NoB w (((w.alloc X).alloc Y).alloc Z)) := fun X Y Z => (((Frm.refl NoB w).alloc X).alloc Y).alloc Z
  obtain ⟨y1, y2, y3⟩ := three_boxes (w := w) (c0 := #[.pointer X]) (t0 := 24) (c1 := #[.slice A n cp]) (t1 := 34) (c2 := #[.int .i64 0]) (t2 := 30)
  have HR := hide (dread_no a n _ (h.frm (F0.out (.cells #[.pointer X] 24) (.cells #[.slice A n cp] 34) (.cells #[.int .i64 0] 30))))
  have Y3 := hide y3
  clear h y1 y2 y3
  refine calls_marks Try.func43 rfl ?_
  simp only [Try.ntmps43, List.size_toArray, List.length_cons, List.length_nil, Nat.reduceAdd, Nat.reduceSub, Array.replicate_succ, Array.replicate_zero, List.push_toArray, List.append_toArray, List.nil_append, List.cons_append]
  go_wp2_with (go_at_call 13; refine HR.out.mono ?_; rintro e w1 ⟨rfl, hF⟩; have HF := hide hF; have y6 := (Y3.out.frm hF (fun e => e)).cell 0; have f6 := (Y3.out.frm hF (fun e => e)).frozen 0; clear hF)
  have hB6 : Blk (w1.setCell ⟨w.heap.size + 2, 0, none⟩ (.int .i64 1)) (w.heap.size + 2) 30 #[.int .i64 1] := Blk.set_ (Y3.out.frm HF.out (fun e => e)) 0 _
  have r6 : (w1.setCell ⟨w.heap.size + 1 + 1, 0, none⟩ (.int .i64 1)).cell? ⟨w.heap.size + 1 + 1, 0, none⟩ = some (.int .i64 1) := hB6.cell 0
  exact postM_ret (v := .int .i64 1) (by simp [results, Try.results43, go_sem, r6]) rfl ⟨rfl, ((F0.out _ _ _).trans HF.out).setCell (p := ⟨w.heap.size + 2, 0, none⟩) (.inr (by simp)) _⟩
end
end Go.Proofs.Ytiapoalkkhpmlaa

/-
  The cell: how it lies in memory; none, Turn, Over, Get; Open.
-/
namespace Go.Proofs.Ytiapoalkkhpmlaa
open Go.RowKit
/-- A cell in memory: block g. -/
structure CelAt (w : World) (g gd : Nat) (c : CelS) (v : Value) (over : Bool) : Prop where
  b : Blk w g 45 #[.pointer (some ⟨gd, 0, none⟩), .int .i64 c.on, .int .i64 c.turn, v, .bool over]
  y : By w v c.b
  ng : ∀ k, RowB v k → k ≠ g
namespace CelAt
variable {w w' : World} {g gd : Nat} {c : CelS} {v : Value} {over : Bool}
theorem lt (h : CelAt w g gd c v over) : g < w.heap.size := h.b.lt
theorem c0 (h : CelAt w g gd c v over) : w.cell? ⟨g, 0, none⟩ = some (.pointer (some ⟨gd, 0, none⟩)) := h.b.cell 0
theorem c1 (h : CelAt w g gd c v over) : w.cell? ⟨g, 1, none⟩ = some (.int .i64 c.on) := h.b.cell 1
theorem c2 (h : CelAt w g gd c v over) : w.cell? ⟨g, 2, none⟩ = some (.int .i64 c.turn) := h.b.cell 2
theorem c3 (h : CelAt w g gd c v over) : w.cell? ⟨g, 3, none⟩ = some v := h.b.cell 3
theorem c4 (h : CelAt w g gd c v over) : w.cell? ⟨g, 4, none⟩ = some (.bool over) := h.b.cell 4
theorem fz (h : CelAt w g gd c v over) (i : Nat) : w.frozen? ⟨g, i, none⟩ = false := h.b.frozen i
theorem frm {S : Nat → Prop} (h : CelAt w g gd c v over) (hf : Frm S w w') (hg : ¬ S g) (hv : c.b ≠ [] → ∀ k, RowB v k → ¬ S k) : CelAt w' g gd c v over := ⟨h.b.frm hf hg, h.y.frm1 hf hv, h.ng⟩
theorem frm0 (h : CelAt w g gd c v over) (hf : Frm NoB w w') : CelAt w' g gd c v over := h.frm hf (fun e => e) (fun _ _ _ e => e)
/-- other bytes are the cell's -/
theorem set3 (h : CelAt w g gd c v over) {on turn : Int} {b : List Int} {v' : Value} (hy : By w v' b) (hn : ∀ k, RowB v' k → k ≠ g) :
    CelAt (((w.setCell ⟨g, 1, none⟩ (.int .i64 on)).setCell ⟨g, 2, none⟩ (.int .i64 turn)).setCell ⟨g, 3, none⟩ v') g gd ⟨on, turn, b⟩ v' over := by
  refine ⟨?_, ?_, hn⟩
  · have := ((h.b.set_ 1 (.int .i64 on)).set_ 2 (.int .i64 turn)).set_ 3 v'
    simpa using this
  · have hf : Frm (One g) w (((w.setCell ⟨g, 1, none⟩ (.int .i64 on)).setCell ⟨g, 2, none⟩ (.int .i64 turn)).setCell ⟨g, 3, none⟩ v') := (((Frm.refl _ w).set1 _ _).set1 _ _).set1 _ _
    exact hy.frm hf (fun k hk e => hn k hk e)
theorem set_over (h : CelAt w g gd c v over) (x : Bool) : CelAt (w.setCell ⟨g, 4, none⟩ (.bool x)) g gd c v x := by
  refine ⟨?_, ?_, h.ng⟩
  · have := h.b.set_ 4 (.bool x)
    simpa using this
  · have hf : Frm (One g) w (w.setCell ⟨g, 4, none⟩ (.bool x)) := (Frm.refl _ w).set1 _ _
    exact h.y.frm hf (fun k hk e => h.ng k hk e)
end CelAt
/-- No cell: nil, or one that Open did not make. -/
def NoCel (w : World) (v : Value) : Prop := v = .pointer none ∨ ∃ g, v = .pointer (some ⟨g, 0, none⟩) ∧ w.cell? ⟨g, 0, none⟩ = some (.pointer none)
section
variable {w : World} {g gd : Nat} {c : CelS} {v : Value} {over : Bool}
theorem cnone_no (v : Value) (h : NoCel w v) : Calls Try.prog 37 #[v] w fun e w' => e = .returned (.bool true) ∧ w = w' := by
  rcases h with rfl | ⟨g, rfl, hc⟩
  all_goals
    go_enter Try.func37, Try.ntmps37
    go_wp2
    go_ret
    exact ⟨rfl, rfl⟩
theorem cnone_is (h : CelAt w g gd c v over) : Calls Try.prog 37 #[.pointer (some ⟨g, 0, none⟩)] w fun e w' => e = .returned (.bool false) ∧ w = w' := by
  have m0 := h.c0
  clear h
  go_enter Try.func37, Try.ntmps37
  go_wp2
  go_ret
  exact ⟨rfl, rfl⟩
theorem cturn_is (h : CelAt w g gd c v over) : Calls Try.prog 17 #[.pointer (some ⟨g, 0, none⟩)] w fun e w' => e = .returned (.int .i64 c.turn) ∧ w = w' := by
  have K := hide (cnone_is h)
  have m2 := h.c2
  clear h
  go_enter Try.func17, Try.ntmps17
  go_wp2_with fail
  refine K.out.mono ?_
  rintro e w' ⟨rfl, rfl⟩
  go_wp2
  go_ret
  exact ⟨rfl, rfl⟩
theorem cturn_no (v : Value) (h : NoCel w v) : Calls Try.prog 17 #[v] w fun e w' => e = .returned (.int .i64 0) ∧ w = w' := by
  have K := hide (cnone_no v h)
  clear h
  go_enter Try.func17, Try.ntmps17
  go_wp2_with fail
  refine K.out.mono ?_
  rintro e w' ⟨rfl, rfl⟩
  go_wp2
  go_ret
  exact ⟨rfl, rfl⟩
theorem cover_is (h : CelAt w g gd c v over) : Calls Try.prog 19 #[.pointer (some ⟨g, 0, none⟩)] w fun e w' => e = .returned (.bool over) ∧ w = w' := by
  have K := hide (cnone_is h)
  have m4 := h.c4
  clear h
  go_enter Try.func19, Try.ntmps19
  go_wp2_with fail
  refine K.out.mono ?_
  rintro e w' ⟨rfl, rfl⟩
  go_wp2
  go_ret
  exact ⟨rfl, rfl⟩
theorem cover_no (v : Value) (h : NoCel w v) : Calls Try.prog 19 #[v] w fun e w' => e = .returned (.bool false) ∧ w = w' := by
  have K := hide (cnone_no v h)
  clear h
  go_enter Try.func19, Try.ntmps19
  go_wp2_with fail
  refine K.out.mono ?_
  rintro e w' ⟨rfl, rfl⟩
  go_wp2
  go_ret
  exact ⟨rfl, rfl⟩
theorem cget_no (v : Value) (h : NoCel w v) : Calls Try.prog 12 #[v] w fun e w' => e = .returned (.tuple #[.slice none 0 0, .bool false]) ∧ w = w' := by
  have K := hide (cnone_no v h)
  clear h
  go_enter Try.func12, Try.ntmps12
  go_wp2_with fail
  refine K.out.mono ?_
  rintro e w' ⟨rfl, rfl⟩
  go_wp2
  go_ret2
  exact ⟨rfl, rfl⟩
/-- what Get tells -/
def CGetPost (w : World) (c : CelS) (e : Ending) (w' : World) : Prop := ∃ v', e = .returned (.tuple #[v', .bool (decide (0 ≤ c.on))]) ∧ By w' v' (if 0 ≤ c.on then c.b else []) ∧ (∀ k, RowB v' k → w.heap.size ≤ k) ∧ Frm NoB w w'
theorem cget_is (h : CelAt w g gd c v over) (hl : c.b.length ≤ 16777216) : Calls Try.prog 12 #[.pointer (some ⟨g, 0, none⟩)] w (CGetPost w c) := by
  have K := hide (cnone_is h)
  have m1 := h.c1
  have m3 := h.c3
  have KC := hide (clone_is h.y hl)
  clear h hl
  by_cases hon : 0 ≤ c.on
  · have P : Hid (∀ v' w', By w' v' c.b → (∀ k, RowB v' k → w.heap.size ≤ k) → Frm NoB w w' → CGetPost w c (.returned (.tuple #[v', .bool true])) w') := fun v' w' a b cc => ⟨v', by rw [decide_eq_true hon], by rw [if_pos hon]; exact a, b, cc⟩
    have t1 : decide (c.on < 0) = false := decide_eq_false (by omega)
    clear hon
    go_enter Try.func12, Try.ntmps12
    go_wp2_with fail
    refine K.out.mono ?_
    rintro e w' ⟨rfl, rfl⟩
    go_wp2_with fail
    refine KC.out.mono ?_
    rintro e w' ⟨v', rfl, h1, h2, h3⟩
    have H := hide (P.out _ _ h1 h2 h3)
    clear h1 h2 h3 P
    go_wp2
    go_ret2
    exact H.out
  · have P : Hid (CGetPost w c (.returned (.tuple #[.slice none 0 0, .bool false])) w) := ⟨_, by rw [decide_eq_false hon], by rw [if_neg hon]; exact By.nil _, fun k hk => by simp [RowB, Value.ownBlock] at hk, Frm.refl _ _⟩
    have t1 : decide (c.on < 0) = true := decide_eq_true (by omega)
    clear hon
    go_enter Try.func12, Try.ntmps12
    go_wp2_with fail
    refine K.out.mono ?_
    rintro e w' ⟨rfl, rfl⟩
    go_wp2
    go_ret2
    exact P.out
end
/-- what is looked at behind j sectors -/
def lookTo (f : Nat → Int) : Nat → CelS
  | 0 => ⟨-1, 0, []⟩
  | 1 => if whl f 0 = true then ⟨0, f 0, secB f 0⟩ else ⟨-1, 0, []⟩
  | _ => clook f
theorem whl_then {w w' : World} {f : Nat → Int} {o : Nat} {e : Ending} (h : whl f o = true) (hp : WhlPost w f o e w') : ∃ v, e = .returned (.tuple #[.int .i64 (f o), v, .bool true]) ∧ Grew w w.heap.size (.slice none 0 0) v (secB f o) w' := by
  unfold WhlPost at hp; rwa [if_pos h] at hp
theorem whl_else {w w' : World} {f : Nat → Int} {o : Nat} {e : Ending} (h : ¬ whl f o = true) (hp : WhlPost w f o e w') : e = .returned (.tuple #[.int .i64 0, .slice none 0 0, .bool false]) ∧ w = w' := by
  unfold WhlPost at hp; rwa [if_neg h] at hp
def COpenRel (w2 : World) (b o g gd : Nat) (l : List Int) (f : Nat → Int) (i : Value) (wr : World) : Prop :=
  ∃ (j : Nat) (v : Value), j ≤ 2 ∧ i = .int .i64 j ∧ CelAt wr g gd (lookTo f j) v false ∧ (∀ k, RowB v k → g < k) ∧ Rd wr (some ⟨b, o, none⟩) (ints .u32 l) ∧ Frm (One g) w2 wr
def COpenPost (w : World) (gd : Nat) (d : DrvS) (s : NorS) (e : Ending) (w' : World) : Prop :=
  ∃ g v, e = .returned (.tuple #[.pointer (some ⟨g, 0, none⟩), .int .i64 0]) ∧ CelAt w' g gd (clook (d.fn s)) v false ∧ (∀ k, RowB v k → w.heap.size ≤ k) ∧ w.heap.size ≤ g ∧ Frm NoB w w'
section
variable {w : World} {g gd p q c : Nat} {s : NorS} {d : DrvS}
theorem copen_down (hg : DrvAt w gd p d) (hn : NorAt w p q c s) (hd : d.Ok s) (hmany : d.many = 2) (hdn : s.down = true) :
    Calls Try.prog 14 #[.pointer (some ⟨gd, 0, none⟩)] w fun e w' => e = .returned (.tuple #[.pointer none, .int .i64 40]) ∧ Frm NoB w w' := by
  have KS := hide (dsectors_is hg)
  have KZ := hide (dsize_is hg (by omega))
  rw [hmany] at KS KZ
  have hE : d.rdE s 0 128 = 40 := by unfold DrvS.rdE; rw [if_pos (by omega), if_pos hdn]
  have KR : Hid (Calls Try.prog 13 #[.pointer (some ⟨gd, 0, none⟩), .int .i64 0, .int .i64 128] w fun e w' => ∃ A n cp, e = .returned (.tuple #[.slice A n cp, .int .i64 40]) ∧ Frm NoB w w') := by
    refine (dread_is 0 128 hg hn hd).mono ?_
    rintro e w' ⟨A, cp, rfl, h1, h2, h3, h4⟩
    exact ⟨A, _, cp, by rw [hE], h4⟩
  clear hE hg hn hd hmany hdn
  go_enter Try.func14, Try.ntmps14
  go_wp2_with fail
  refine KS.out.mono ?_
  rintro e w' ⟨rfl, rfl⟩
  go_wp2_with fail
  refine KZ.out.mono ?_
  rintro e w' ⟨rfl, rfl⟩
  go_wp2_with fail
  refine KR.out.mono ?_
  rintro e w1 ⟨A, n, cp, rfl, hF⟩
  go_wp2
  go_ret2
  exact ⟨rfl, hF⟩
theorem copen_arg (hg : DrvAt w gd p d) (h1 : d.many ≠ 2) (h0 : 1 ≤ d.many) :
    Calls Try.prog 14 #[.pointer (some ⟨gd, 0, none⟩)] w fun e w' => e = .returned (.tuple #[.pointer none, .int .i64 2]) ∧ w = w' := by
  have KS := hide (dsectors_is hg)
  have t0 : (d.many == 0) = false := by simp; omega
  have t1 : (d.many == 2) = false := by simp; omega
  have t0' : ((d.many : Int) == 0) = false := by simp; omega
  have t1' : ((d.many : Int) == 2) = false := by simp; omega
  clear hg h1 h0
  go_enter Try.func14, Try.ntmps14
  go_wp2_with fail
  refine KS.out.mono ?_
  rintro e w' ⟨rfl, rfl⟩
  go_wp2
  go_ret2
  exact ⟨rfl, rfl⟩
theorem copen_no (v : Value) (h : NoDrv w v) :
    Calls Try.prog 14 #[v] w fun e w' => e = .returned (.tuple #[.pointer none, .int .i64 1]) ∧ w = w' := by
  have KS := hide (dsectors_no v h)
  clear h
  go_enter Try.func14, Try.ntmps14
  go_wp2_with fail
  refine KS.out.mono ?_
  rintro e w' ⟨rfl, rfl⟩
  go_wp2
  go_ret2
  exact ⟨rfl, rfl⟩
set_option maxRecDepth 100000 in
set_option maxHeartbeats 2000000 in
theorem copen_is (hg : DrvAt w gd p d) (hn : NorAt w p q c s) (hd : d.Ok s) (hmany : d.many = 2) (hdn : s.down = false) :
    Calls Try.prog 14 #[.pointer (some ⟨gd, 0, none⟩)] w (COpenPost w gd d s) := by
  have KS := hide (dsectors_is hg)
  have KZ := hide (dsize_is hg (by omega))
  rw [hmany] at KS KZ
  have hE : d.rdE s 0 128 = 0 := DrvS.rdE_ok hdn ⟨by omega, by omega, by omega, by omega⟩
  have hlw : (d.words s 0 128).length = 128 := DrvS.words_length hn.ok hd (by omega)
  have KR : Hid (Calls Try.prog 13 #[.pointer (some ⟨gd, 0, none⟩), .int .i64 0, .int .i64 128] w fun e w' => ∃ A cp, e = .returned (.tuple #[.slice A 128 cp, .int .i64 0]) ∧ Rd w' A (ints .u32 (d.words s 0 128)) ∧ (∀ b, A = some b → w.heap.size ≤ b.block) ∧ 128 ≤ cp ∧ Frm NoB w w') := by
    refine (dread_is 0 128 hg hn hd).mono ?_
    rintro e w' ⟨A, cp, rfl, h1, h2, h3, h4⟩
    have e1 : d.rd s 0 128 = d.words s 0 128 := by unfold DrvS.rd; rw [if_pos hE]; rfl
    rw [e1] at h1 h3 ⊢
    rw [hlw] at h3
    exact ⟨A, cp, by rw [hlw, hE], h1, h2, h3, h4⟩
  have HW : Hid (∀ i, i < 128 → (d.words s 0 128).getD i 0 = d.fn s i) := fun i hi => by rw [DrvS.words_get hi]; rfl
  have HU := hide (DrvS.words_u32 (d := d) hn.ok 0 128)
  have HLW := hide hlw
  have HFU := hide (fun i => DrvS.fn_u32 (d := d) hn.ok i)
  have HPP : Hid (∀ g v w', CelAt w' g gd (clook (d.fn s)) v false → (∀ k, RowB v k → w.heap.size ≤ k) → w.heap.size ≤ g → Frm NoB w w' → COpenPost w gd d s (.returned (.tuple #[.pointer (some ⟨g, 0, none⟩), .int .i64 0])) w') := fun g v w' a b cc e => ⟨g, v, rfl, a, b, cc, e⟩
  clear hE hlw hg hn hd hmany hdn
  generalize d.words s 0 128 = l at KR HW HU HLW
  generalize d.fn s = f at HW HFU HPP
  generalize COpenPost w gd d s = PP at HPP ⊢
  go_enter Try.func14, Try.ntmps14
  go_wp2_with fail
  refine KS.out.mono ?_
  rintro e w' ⟨rfl, rfl⟩
  go_wp2_with fail
  refine KZ.out.mono ?_
  rintro e w' ⟨rfl, rfl⟩
  go_wp2_with fail
  refine KR.out.mono ?_
  rintro e w1 ⟨A, cp, rfl, hR, hA, hcp, hF⟩
  obtain ⟨b, o, rfl, -⟩ := hR (by intro e; have := congrArg List.length e; rw [ints_length, HLW.out] at this; simp at this)
  have HR := hide hR
  have HF := hide hF
  clear hR hF hA KS KZ KR
  go_wp2_with fail
  obtain ⟨ga, hga⟩ : ∃ ga, w1.heap.size = ga := ⟨_, rfl⟩
  have HGA := hide hga
  have hlt1 : b < w1.heap.size := by have := HR.out.lt (by intro e; have := congrArg List.length e; rw [ints_length, HLW.out] at this; simp at this); obtain ⟨x, hx, hlt⟩ := this; injection hx with hx; subst hx; exact hlt
  have HT0 : Hid (CelAt (w1.alloc (.cells #[.pointer (some ⟨gd, 0, none⟩), .int .i64 (-1), .int .i64 0, .slice none 0 0, .bool false] 45)) ga gd (lookTo f 0) (.slice none 0 0) false) := by
    rw [← hga]
    exact ⟨Blk.new _ _ _, By.nil _, fun k hk => by simp [RowB, Value.ownBlock] at hk⟩
  have HRL : Hid (Rd (w1.alloc (.cells #[.pointer (some ⟨gd, 0, none⟩), .int .i64 (-1), .int .i64 0, .slice none 0 0, .bool false] 45)) (some ⟨b, o, none⟩) (ints .u32 l)) := HR.out.frm' ((Frm.refl NoB w1).alloc _) (fun _ _ _ e => e)
  have HBG : Hid (b ≠ ga) := by show b ≠ ga; omega
  obtain ⟨w2, hw2⟩ : ∃ w2, w1.alloc (.cells #[.pointer (some ⟨gd, 0, none⟩), .int .i64 (-1), .int .i64 0, .slice none 0 0, .bool false] 45) = w2 := ⟨_, rfl⟩
  have HF2 : Hid (Frm NoB w w2) := by rw [← hw2]; exact (Hid.out HF).alloc _
  rw [hw2] at HT0 HRL ⊢
  rw [hga]
  clear hw2 hga hlt1
  have K0 : Hid (∀ W, Rd W (some ⟨b, o, none⟩) (ints .u32 l) → Calls Try.prog 52 #[.slice (some ⟨b, o, none⟩) 64 cp] W (WhlPost W f 0)) := fun W hr =>
    whole_is b o cp (l.take 64) f 0 (by rw [List.length_take, HLW.out]; rfl) (fun i hi => by rw [Nat.zero_add, ← HW.out i (by omega), List.getD_eq_getElem?_getD, List.getD_eq_getElem?_getD, List.getElem?_take_of_lt hi]) (HU.out.take 64) (by rw [ints_take]; exact hr.take 64) (by omega)
  have K1 : Hid (∀ W, Rd W (some ⟨b, o, none⟩) (ints .u32 l) → Calls Try.prog 52 #[.slice (some ⟨b, o + 64, none⟩) 64 (cp - 64)] W (WhlPost W f 64)) := fun W hr =>
    whole_is b (o + 64) (cp - 64) (l.drop 64) f 64 (by rw [List.length_drop, HLW.out]) (fun i hi => by rw [← HW.out (64 + i) (by omega), List.getD_eq_getElem?_getD, List.getD_eq_getElem?_getD, List.getElem?_drop]) (HU.out.drop 64) (fun _ => by
      obtain ⟨b', o', e, hc⟩ := hr (by intro e; have := congrArg List.length e; rw [ints_length, HLW.out] at this; simp at this)
      injection e with e
      injection e with e1 e2
      subst e1 e2
      refine ⟨b, o + 64, rfl, fun i v hv => ?_⟩
      rw [Nat.add_assoc]
      refine hc (64 + i) v ?_
      rw [← hv]
      unfold ints
      rw [List.map_drop, List.getElem?_drop]) (by omega)
  go_loopw [30] (fun i wr => COpenRel w2 b o ga gd l f i wr) (fun i _ => 2 - (intOf i).toNat)
  case atStart => exact ⟨0, _, by omega, rfl, HT0.out, fun k hk => by simp [RowB, Value.ownBlock] at hk, HRL.out, Frm.refl _ _⟩
  case round =>
    obtain ⟨j, v0, hj, hi0, hTr, hv, hRr, hFr⟩ := hrel
    have u0 := HFU.out 0
    have u64 := HFU.out 64
    rcases (by omega : j = 0 ∨ j = 1 ∨ j = 2) with rfl | rfl | rfl
    · by_cases hw0 : whl f 0 = true
      · have HW0 := hide hw0
        have b0 := (whl_true hw0).2.1
        clear hw0 K1 HT0 HRL
        have hi0 : _ = Value.int .i64 0 := hi0
        subst hi0
        have sl := cut_0 b o cp hcp
        have sl2 := cut_0' b o cp hcp
        have x0 : IntKind.i64.wrap 0 = 0 := by decide
        have x1 : IntKind.i64.wrap 1 = 1 := by decide
        have x2 : IntKind.i64.wrap 2 = 2 := by decide
        have x64 : IntKind.i64.wrap 64 = 64 := by decide
        have x128 : IntKind.i64.wrap 128 = 128 := by decide
        have KW := hide (K0.out wr hRr)
        have HT := hide hTr
        have HRr := hide hRr
        have HFr := hide hFr
        have HV := hide hv
        clear hTr hRr hFr hv
        go_wp2_with fail
        refine KW.out.mono ?_
        rintro e w3 hp
        obtain ⟨v', rfl, hgr⟩ := whl_then HW0.out hp
        obtain ⟨Av, nv, cv, rfl⟩ := hgr.o.by_.form
        have hT3 := HT.out.frm0 hgr.new
        have HG := hide hgr
        have m1 : w3.cell? ⟨ga, 1, none⟩ = some (.int .i64 (-1)) := hT3.c1
        have m2 : w3.cell? ⟨ga, 2, none⟩ = some (.int .i64 0) := hT3.c2
        have m3 := hT3.c3
        have z1 := hT3.fz 1
        have z2 := hT3.fz 2
        have z3 := hT3.fz 3
        have HT3 := hide hT3
        clear hT3 hgr hp
        go_wp2
        go_roundw
        case rel =>
          refine ⟨1, .slice Av nv cv, by omega, rfl, ?_, fun k hk => ?_, Rd.frm' HRr.out HG.out.new (fun _ _ _ e => e) |>.frm' (((Frm.refl (One ga) w3).set1 _ _).set1 _ _ |>.set1 _ _) (fun _ x hx e => HBG.out (by injection hx with hx; subst hx; exact e)), ?_⟩
          · rw [show lookTo f (0 + 1) = ⟨0, f 0, secB f 0⟩ from if_pos HW0.out]; exact HT3.out.set3 HG.out.o.by_ (fun k hk => by have := (HG.out.o.lo hk).1; have := HT.out.lt; omega)
          · have := (HG.out.o.lo hk).1; have := HT.out.lt; omega
          · exact (HFr.out.trans (HG.out.new.mono (fun _ _ e => e.elim))).trans ((((Frm.refl (One ga) w3).set1 _ _).set1 _ _).set1 _ _)
        case measure => simp [intOf]
      · have HW0 := hide hw0
        clear hw0 K1 HT0 HRL
        have hi0 : _ = Value.int .i64 0 := hi0
        subst hi0
        have sl := cut_0 b o cp hcp
        have sl2 := cut_0' b o cp hcp
        have x0 : IntKind.i64.wrap 0 = 0 := by decide
        have x1 : IntKind.i64.wrap 1 = 1 := by decide
        have x2 : IntKind.i64.wrap 2 = 2 := by decide
        have x64 : IntKind.i64.wrap 64 = 64 := by decide
        have x128 : IntKind.i64.wrap 128 = 128 := by decide
        have KW := hide (K0.out wr hRr)
        have HT := hide hTr
        have HRr := hide hRr
        have HFr := hide hFr
        have HV := hide hv
        clear hTr hRr hFr hv
        go_wp2_with fail
        refine KW.out.mono ?_
        rintro e w3 hp
        obtain ⟨rfl, rfl⟩ := whl_else HW0.out hp
        have hT3 := HT.out
        have HT3 := hide hT3
        clear hT3 hp
        go_wp2
        go_roundw
        case rel =>
          refine ⟨1, _, by omega, rfl, ?_, HV.out, HRr.out, HFr.out⟩
          rw [show lookTo f (0 + 1) = lookTo f 0 from if_neg HW0.out]; exact HT3.out
        case measure => simp [intOf]
    · by_cases hw1 : whl f 64 = true
      · have HW1 := hide hw1
        have b1 := (whl_true hw1).2.1
        by_cases hw0 : whl f 0 = true
        · have HL1 : Hid (lookTo f 1 = ⟨0, f 0, secB f 0⟩) := if_pos hw0
          have b0 := (whl_true hw0).2.1
          by_cases hq : f 64 = f 0 + 1
          · have HLK : Hid (clook f = ⟨1, f 64, secB f 64⟩) := by show _ = _; unfold clook; rw [if_pos hw0, if_pos ⟨hw1, hq⟩]
            have HQ : Hid ((f 64 == f 0 + 1) = true) := by show _ = _; simpa using hq
            clear hw0 hw1 hq K0 HT0 HRL
            have hi0 : _ = Value.int .i64 1 := hi0
            subst hi0
            have sl := cut_1 b o cp hcp
            have sl2 := cut_1' b o cp hcp
            have x0 : IntKind.i64.wrap 0 = 0 := by decide
            have x1 : IntKind.i64.wrap 1 = 1 := by decide
            have x2 : IntKind.i64.wrap 2 = 2 := by decide
            have x64 : IntKind.i64.wrap 64 = 64 := by decide
            have x128 : IntKind.i64.wrap 128 = 128 := by decide
            have KW := hide (K1.out wr hRr)
            have HT := hide hTr
            have HRr := hide hRr
            have HFr := hide hFr
            have HV := hide hv
            clear hTr hRr hFr hv
            go_wp2_with fail
            refine KW.out.mono ?_
            rintro e w3 hp
            obtain ⟨v', rfl, hgr⟩ := whl_then HW1.out hp
            obtain ⟨Av, nv, cv, rfl⟩ := hgr.o.by_.form
            have hT3 := HT.out.frm0 hgr.new
            have HG := hide hgr
            have m1 : w3.cell? ⟨ga, 1, none⟩ = some (.int .i64 0) := by have := hT3.c1; rwa [HL1.out] at this
            have m2 : w3.cell? ⟨ga, 2, none⟩ = some (.int .i64 (f 0)) := by have := hT3.c2; rwa [HL1.out] at this
            have m3 := hT3.c3
            have z1 := hT3.fz 1
            have z2 := hT3.fz 2
            have z3 := hT3.fz 3
            have HT3 := hide hT3
            clear hT3 hgr hp
            have tq := HQ.out
            go_wp2
            go_roundw
            case rel =>
              refine ⟨2, .slice Av nv cv, by omega, rfl, ?_, fun k hk => ?_, Rd.frm' HRr.out HG.out.new (fun _ _ _ e => e) |>.frm' (((Frm.refl (One ga) w3).set1 _ _).set1 _ _ |>.set1 _ _) (fun _ x hx e => HBG.out (by injection hx with hx; subst hx; exact e)), ?_⟩
              · rw [show lookTo f (1 + 1) = ⟨1, f 64, secB f 64⟩ from HLK.out]; exact HT3.out.set3 HG.out.o.by_ (fun k hk => by have := (HG.out.o.lo hk).1; have := HT.out.lt; omega)
              · have := (HG.out.o.lo hk).1; have := HT.out.lt; omega
              · exact (HFr.out.trans (HG.out.new.mono (fun _ _ e => e.elim))).trans ((((Frm.refl (One ga) w3).set1 _ _).set1 _ _).set1 _ _)
            case measure => simp [intOf]
          · have HLK : Hid (clook f = ⟨0, f 0, secB f 0⟩) := by show _ = _; unfold clook; rw [if_pos hw0, if_neg (fun h => hq h.2)]
            have HQ : Hid ((f 64 == f 0 + 1) = false) := by show _ = _; simpa using hq
            clear hw0 hw1 hq K0 HT0 HRL
            have hi0 : _ = Value.int .i64 1 := hi0
            subst hi0
            have sl := cut_1 b o cp hcp
            have sl2 := cut_1' b o cp hcp
            have x0 : IntKind.i64.wrap 0 = 0 := by decide
            have x1 : IntKind.i64.wrap 1 = 1 := by decide
            have x2 : IntKind.i64.wrap 2 = 2 := by decide
            have x64 : IntKind.i64.wrap 64 = 64 := by decide
            have x128 : IntKind.i64.wrap 128 = 128 := by decide
            have KW := hide (K1.out wr hRr)
            have HT := hide hTr
            have HRr := hide hRr
            have HFr := hide hFr
            have HV := hide hv
            clear hTr hRr hFr hv
            go_wp2_with fail
            refine KW.out.mono ?_
            rintro e w3 hp
            obtain ⟨v', rfl, hgr⟩ := whl_then HW1.out hp
            obtain ⟨Av, nv, cv, rfl⟩ := hgr.o.by_.form
            have hT3 := HT.out.frm0 hgr.new
            have HG := hide hgr
            have m1 : w3.cell? ⟨ga, 1, none⟩ = some (.int .i64 0) := by have := hT3.c1; rwa [HL1.out] at this
            have m2 : w3.cell? ⟨ga, 2, none⟩ = some (.int .i64 (f 0)) := by have := hT3.c2; rwa [HL1.out] at this
            have m3 := hT3.c3
            have z1 := hT3.fz 1
            have z2 := hT3.fz 2
            have z3 := hT3.fz 3
            have HT3 := hide hT3
            clear hT3 hgr hp
            have tq := HQ.out
            go_wp2
            go_roundw
            case rel =>
              refine ⟨2, _, by omega, rfl, ?_, HV.out, Rd.frm' HRr.out HG.out.new (fun _ _ _ e => e), HFr.out.trans (HG.out.new.mono (fun _ _ e => e.elim))⟩
              rw [show lookTo f (1 + 1) = lookTo f 1 from HLK.out.trans HL1.out.symm]; exact HT3.out
            case measure => simp [intOf]
        · have HL1 : Hid (lookTo f 1 = ⟨-1, 0, []⟩) := if_neg hw0
          have HLK : Hid (clook f = ⟨1, f 64, secB f 64⟩) := by show _ = _; unfold clook; rw [if_neg hw0, if_pos hw1]
          clear hw0 hw1 K0 HT0 HRL
          have hi0 : _ = Value.int .i64 1 := hi0
          subst hi0
          have sl := cut_1 b o cp hcp
          have sl2 := cut_1' b o cp hcp
          have x0 : IntKind.i64.wrap 0 = 0 := by decide
          have x1 : IntKind.i64.wrap 1 = 1 := by decide
          have x2 : IntKind.i64.wrap 2 = 2 := by decide
          have x64 : IntKind.i64.wrap 64 = 64 := by decide
          have x128 : IntKind.i64.wrap 128 = 128 := by decide
          have KW := hide (K1.out wr hRr)
          have HT := hide hTr
          have HRr := hide hRr
          have HFr := hide hFr
          have HV := hide hv
          clear hTr hRr hFr hv
          go_wp2_with fail
          refine KW.out.mono ?_
          rintro e w3 hp
          obtain ⟨v', rfl, hgr⟩ := whl_then HW1.out hp
          obtain ⟨Av, nv, cv, rfl⟩ := hgr.o.by_.form
          have hT3 := HT.out.frm0 hgr.new
          have HG := hide hgr
          have m1 : w3.cell? ⟨ga, 1, none⟩ = some (.int .i64 (-1)) := by have := hT3.c1; rwa [HL1.out] at this
          have m2 : w3.cell? ⟨ga, 2, none⟩ = some (.int .i64 0) := by have := hT3.c2; rwa [HL1.out] at this
          have m3 := hT3.c3
          have z1 := hT3.fz 1
          have z2 := hT3.fz 2
          have z3 := hT3.fz 3
          have HT3 := hide hT3
          clear hT3 hgr hp
          go_wp2
          go_roundw
          case rel =>
            refine ⟨2, .slice Av nv cv, by omega, rfl, ?_, fun k hk => ?_, Rd.frm' HRr.out HG.out.new (fun _ _ _ e => e) |>.frm' (((Frm.refl (One ga) w3).set1 _ _).set1 _ _ |>.set1 _ _) (fun _ x hx e => HBG.out (by injection hx with hx; subst hx; exact e)), ?_⟩
            · rw [show lookTo f (1 + 1) = ⟨1, f 64, secB f 64⟩ from HLK.out]; exact HT3.out.set3 HG.out.o.by_ (fun k hk => by have := (HG.out.o.lo hk).1; have := HT.out.lt; omega)
            · have := (HG.out.o.lo hk).1; have := HT.out.lt; omega
            · exact (HFr.out.trans (HG.out.new.mono (fun _ _ e => e.elim))).trans ((((Frm.refl (One ga) w3).set1 _ _).set1 _ _).set1 _ _)
          case measure => simp [intOf]
      · have HW1 := hide hw1
        have HLK : Hid (clook f = lookTo f 1) := by
          show _ = _
          unfold clook
          show _ = if whl f 0 = true then (⟨0, f 0, secB f 0⟩ : CelS) else ⟨-1, 0, []⟩
          by_cases h0 : whl f 0 = true
          · rw [if_pos h0, if_pos h0, if_neg (fun h => hw1 h.1)]
          · rw [if_neg h0, if_neg h0, if_neg hw1]
        clear hw1 K0 HT0 HRL
        have hi0 : _ = Value.int .i64 1 := hi0
        subst hi0
        have sl := cut_1 b o cp hcp
        have sl2 := cut_1' b o cp hcp
        have x0 : IntKind.i64.wrap 0 = 0 := by decide
        have x1 : IntKind.i64.wrap 1 = 1 := by decide
        have x2 : IntKind.i64.wrap 2 = 2 := by decide
        have x64 : IntKind.i64.wrap 64 = 64 := by decide
        have x128 : IntKind.i64.wrap 128 = 128 := by decide
        have KW := hide (K1.out wr hRr)
        have HT := hide hTr
        have HRr := hide hRr
        have HFr := hide hFr
        have HV := hide hv
        clear hTr hRr hFr hv
        go_wp2_with fail
        refine KW.out.mono ?_
        rintro e w3 hp
        obtain ⟨rfl, rfl⟩ := whl_else HW1.out hp
        have hT3 := HT.out
        have HT3 := hide hT3
        clear hT3 hp
        go_wp2
        go_roundw
        case rel =>
          refine ⟨2, _, by omega, rfl, ?_, HV.out, HRr.out, HFr.out⟩
          rw [show lookTo f (1 + 1) = lookTo f 1 from HLK.out]; exact HT3.out
        case measure => simp [intOf]
    · have hi0 : _ = Value.int .i64 2 := hi0
      subst hi0
      have HTr := hide hTr
      have HV := hide hv
      have HFr := hide hFr
      clear hTr hv hRr hFr K0 K1
      go_wp2
      have hga : w.heap.size ≤ ga := by rw [← HGA.out]; exact (Hid.out HF).size
      exact HPP.out _ _ _ HTr.out (fun k hk => by have := HV.out k hk; omega) hga ((Hid.out HF2).then_ HFr.out (fun i hi e => by have e : i = ga := e; omega))
end
end Go.Proofs.Ytiapoalkkhpmlaa
