/-
  Texts of this claim, joined: Drv2, Drv3, LowS, DrvEq, Drv4.
-/
import Derived.RegionTactic
import Derived.Test.YtiapoalkkhpmlaaCelJ4
/-
  The drive: Part, Erase, pieces.
-/
namespace Go.Proofs.Ytiapoalkkhpmlaa
open Go.RowKit
section
variable {w : World} {g p q c : Nat} {s : NorS} {d : DrvS}
theorem dpart_is (a m : Nat) (h : DrvAt w g p d) (hd : d.first + d.many ≤ 1024) (hm : 1 ≤ m) (ham : a + m ≤ d.many) :
    Calls Try.prog 36 #[.pointer (some ⟨g, 0, none⟩), .int .i64 a, .int .i64 m] w fun e w' => ∃ g', e = .returned (.tuple #[.pointer (some ⟨g', 0, none⟩), .int .i64 0]) ∧ DrvAt w' g' p ⟨d.first + a, m⟩ ∧ w.heap.size ≤ g' ∧ Frm NoB w w' := by
  have c0 := h.c0; have c1 := h.c1; have c2 := h.c2
  have H := hide h
  clear h
  have e0 : withinB a m d.many = true := within_true (by omega)
  have E0 := hide e0
  have m1 : decide ((m : Int) < 1) = false := by simp; omega
  have hw1 : IntKind.i64.wrap ((d.first : Int) + a) = (d.first : Int) + a := IntWalk.i64_in _ (by omega)
  clear e0
  go_enter Try.func36, Try.ntmps36
  go_wp2_with (first
    | (go_at_call 70; refine (dnone_is H.out).mono ?_; rintro e w' ⟨rfl, rfl⟩)
    | (go_at_call 58; refine (within_is _ _ _ _ (by omega) (by omega)).mono ?_; rw [E0.out]; rintro e w' ⟨rfl, rfl⟩))
  go_region_held3 (fun w' => w'.cell? ⟨g, 0, none⟩ = some (.pointer (some ⟨p, 0, none⟩)) ∧ w'.cell? ⟨g, 1, none⟩ = some (.int .i64 d.first)) (go_keep) (fail)
  all_goals
    go_wp2
    go_ret2
    refine ⟨_, rfl, ⟨?_⟩, Nat.le_refl _, ((Frm.refl NoB w).drew).alloc _⟩
    exact Blk.new w.drew 92 (drvCells p ⟨d.first + a, m⟩)
theorem dpart_bad (a m : Int) (h : DrvAt w g p d) (hd : d.first + d.many ≤ 1024) (hb : ¬ (1 ≤ m ∧ 0 ≤ a ∧ a ≤ d.many ∧ m ≤ d.many - a)) :
    Calls Try.prog 36 #[.pointer (some ⟨g, 0, none⟩), .int .i64 a, .int .i64 m] w fun e w' => e = .returned (.tuple #[.pointer none, .int .i64 2]) ∧ w = w' := by
  have c0 := h.c0; have c1 := h.c1; have c2 := h.c2
  have H := hide h
  have HB := hide hb
  clear h hb
  by_cases hm : m < 1
  · go_enter Try.func36, Try.ntmps36
    go_wp2_with (first
      | (go_at_call 70; refine (dnone_is H.out).mono ?_; rintro e w' ⟨rfl, rfl⟩))
    go_ret2
    exact ⟨rfl, rfl⟩
  · have e0 : withinB a m d.many = false := within_false (by have := HB.out; omega)
    have E0 := hide e0
    clear e0
    go_enter Try.func36, Try.ntmps36
    go_wp2_with (first
      | (go_at_call 70; refine (dnone_is H.out).mono ?_; rintro e w' ⟨rfl, rfl⟩)
      | (go_at_call 58; refine (within_is _ _ _ _ (by omega) (by omega)).mono ?_; rw [E0.out]; rintro e w' ⟨rfl, rfl⟩))
    go_ret2
    exact ⟨rfl, rfl⟩
theorem dpart_no (a m : Int) (v : Value) (h : NoDrv w v) :
    Calls Try.prog 36 #[v, .int .i64 a, .int .i64 m] w fun e w' => e = .returned (.tuple #[.pointer none, .int .i64 1]) ∧ w = w' := by
  have H := hide h
  clear h
  go_enter Try.func36, Try.ntmps36
  go_wp2_with (go_at_call 70; refine (dnone_no _ _ H.out).mono ?_; rintro e w' ⟨rfl, rfl⟩)
  go_ret2
  exact ⟨rfl, rfl⟩
theorem derase_is (sec : Int) (h : DrvAt w g p d) (hn : NorAt w p q c s) (hd : d.first + d.many ≤ 1024) (_ : -9223372036854775808 ≤ sec) :
    Calls Try.prog 41 #[.pointer (some ⟨g, 0, none⟩), .int .i64 sec] w fun e w' => e = .returned (.int .i64 (d.erE s sec)) ∧ NorAt w' p q c (d.er s sec) ∧ Frm (Two p q) w w' := by
  have c0 := h.c0; have c1 := h.c1; have c2 := h.c2
  have H := hide h
  have HN := hide hn
  clear h hn
  by_cases hb : 0 ≤ sec ∧ sec < d.many
  · have E : Hid (d.er s sec = s.erase (d.first + sec)) := by show _ = _; unfold DrvS.er; rw [if_pos hb]
    have E' : Hid (d.erE s sec = s.eraseE (d.first + sec)) := by show _ = _; unfold DrvS.erE; rw [if_pos hb]
    obtain ⟨h0, h1⟩ := hb
    have hw1 : IntKind.i64.wrap ((d.first : Int) + sec) = (d.first : Int) + sec := IntWalk.i64_in _ (by omega)
    have HND := hide ((Hid.out HN).drew)
    go_enter Try.func41, Try.ntmps41
    go_wp2_with (first
      | (go_at_call 70; refine (dnone_is H.out).mono ?_; rintro e w' ⟨rfl, rfl⟩))
    go_region_held3 (fun w' => w'.cell? ⟨g, 0, none⟩ = some (.pointer (some ⟨p, 0, none⟩)) ∧ w'.cell? ⟨g, 1, none⟩ = some (.int .i64 d.first)) (go_keep)
      (first
        | (go_at_call 73; refine (erase_is _ HND.out).mono ?_; rintro e w1 ⟨rfl, hN1, hF1⟩; have D1 := H.out.frm (((Frm.refl _ w).drew).trans hF1) (H.out.two HN.out); have d0 := D1.c0; have d1 := D1.c1))
    all_goals
      have HN1 := hide hN1
      clear hN1 D1 d0 d1
      go_wp2
      go_ret
      exact ⟨ret_int E'.out.symm, by rw [E.out]; exact HN1.out, ((Frm.refl _ w).drew).trans hF1⟩
  · have E : Hid (d.er s sec = s) := by show _ = _; unfold DrvS.er; rw [if_neg hb]
    have E' : Hid (d.erE s sec = 2) := by show _ = _; unfold DrvS.erE; rw [if_neg hb]
    have hcs : sec < 0 ∨ (d.many : Int) ≤ sec := by omega
    clear hb
    by_cases h1 : sec < 0
    · go_enter Try.func41, Try.ntmps41
      go_wp2_with (first
        | (go_at_call 70; refine (dnone_is H.out).mono ?_; rintro e w' ⟨rfl, rfl⟩))
      go_ret
      exact ⟨ret_int E'.out.symm, by rw [E.out]; exact HN.out, Frm.refl _ _⟩
    · have h2 : (d.many : Int) ≤ sec := by omega
      go_enter Try.func41, Try.ntmps41
      go_wp2_with (first
        | (go_at_call 70; refine (dnone_is H.out).mono ?_; rintro e w' ⟨rfl, rfl⟩))
      go_ret
      exact ⟨ret_int E'.out.symm, by rw [E.out]; exact HN.out, Frm.refl _ _⟩
theorem derase_no (sec : Int) (v : Value) (h : NoDrv w v) :
    Calls Try.prog 41 #[v, .int .i64 sec] w fun e w' => e = .returned (.int .i64 1) ∧ w = w' := by
  have H := hide h
  clear h
  go_enter Try.func41, Try.ntmps41
  go_wp2_with (go_at_call 70; refine (dnone_no _ _ H.out).mono ?_; rintro e w' ⟨rfl, rfl⟩)
  go_ret
  exact ⟨rfl, rfl⟩
/-- the iterator of words from a place on: three boxes -/
theorem dpieces_is (a m : Int) (g : Nat) :
    Calls Try.prog 48 #[.pointer (some ⟨g, 0, none⟩), .int .i64 a, .int .i64 m] w fun e w' =>
      e = .returned (.func (.func 76) #[] #[.pointer (some ⟨w.heap.size + 2, 0, none⟩), .pointer (some ⟨w.heap.size + 1, 0, none⟩), .pointer (some ⟨w.heap.size, 0, none⟩)]) ∧
      w' = ((w.alloc (.cells #[.pointer (some ⟨g, 0, none⟩)] 24)).alloc (.cells #[.int .i64 a] 3)).alloc (.cells #[.int .i64 m] 3) := by
  go_enter Try.func48, Try.ntmps48
  go_wp2
  go_ret
  exact ⟨rfl, rfl⟩
end
end Go.Proofs.Ytiapoalkkhpmlaa

/-
  The drive: Read.
-/
namespace Go.Proofs.Ytiapoalkkhpmlaa
open Go.RowKit
attribute [local go_sem] Oper.semAt_some
/-- what Read tells, and leaves -/
def DrdPost (w : World) (d : DrvS) (s : NorS) (a m : Int) (e : Ending) (w' : World) : Prop := ∃ A cp, e = .returned (.tuple #[.slice A (d.rd s a m).length cp, .int .i64 (d.rdE s a m)]) ∧ Rd w' A (ints .u32 (d.rd s a m)) ∧ (∀ b, A = some b → w.heap.size ≤ b.block) ∧ (d.rd s a m).length ≤ cp ∧ Frm NoB w w'
section
variable {w : World} {g p q c : Nat} {s : NorS} {d : DrvS}
set_option maxRecDepth 100000 in
set_option maxHeartbeats 1000000 in
theorem dread_bad (a m : Int) (h : DrvAt w g p d) (hn : NorAt w p q c s) (hd : d.Ok s) (he : ¬ d.rdE s a m = 0) :
    Calls Try.prog 13 #[.pointer (some ⟨g, 0, none⟩), .int .i64 a, .int .i64 m] w (DrdPost w d s a m) := by
  have hn2 := hn.ok.n2
  have hdn := hd.n
  have E : Hid (d.rd s a m = []) := by show _ = _; unfold DrvS.rd; rw [if_neg he]
  have H := hide h
  have HN := hide hn
  have HE := hide he
  clear hd
  refine calls_marks Try.func13 rfl ?_
  simp only [Try.ntmps13, List.size_toArray, List.length_cons, List.length_nil, Nat.reduceAdd, Nat.reduceSub, Array.replicate_succ, Array.replicate_zero, List.push_toArray, List.append_toArray, List.nil_append, List.cons_append]
  by_cases ht : 0 ≤ a ∧ 0 ≤ m ∧ a ≤ d.many * 64 ∧ m ≤ d.many * 64 - a
  · have hdown : s.down = true := by
      rcases Bool.eq_false_or_eq_true s.down with h1 | h1
      · exact h1
      · exact absurd (DrvS.rdE_ok h1 ht) he
    have E' : Hid (d.rdE s a m = 40) := by show _ = _; unfold DrvS.rdE; rw [if_pos ht, if_pos hdown]
    have T : Hid (d.thereE a m = 0) := by show _ = _; unfold DrvS.thereE; rw [if_pos ht]
    have HD := hide hdown
    have c0 : ∀ X Y Z : Obj, (((w.alloc X).alloc Y).alloc Z).cell? ⟨g, 0, none⟩ = some (.pointer (some ⟨p, 0, none⟩)) := fun X Y Z => (h.frm ((((Frm.refl NoB w).alloc X).alloc Y).alloc Z) (fun e => e)).c0
    clear he h hn ht hdown
    go_wp2_with (first
      | (go_at_call 46; refine (dthere_is _ _ (H.out.frm ((((Frm.refl NoB w).alloc _).alloc _).alloc _) (fun e => e)) (by omega)).mono ?_; rw [T.out]; rintro e w' ⟨rfl, rfl⟩)
      | (go_at_call 47; refine (down_is ((((Hid.out HN).alloc _).alloc _).alloc _)).mono ?_; rw [HD.out]; rintro e w' ⟨rfl, rfl⟩))
    refine postM_ret (v := .tuple #[.slice none 0 0, .int .i64 40]) (by simp [results, Try.results13, go_sem]) rfl ⟨none, 0, ?_, ?_, (fun b hb => by cases hb), ?_, (((Frm.refl NoB w).alloc _).alloc _).alloc _⟩
    · rw [E.out, E'.out]; rfl
    · rw [E.out]; exact Rd.nil _ _
    · rw [E.out]; exact Nat.le_refl _
  · have E' : Hid (d.rdE s a m = 2) := by show _ = _; unfold DrvS.rdE; rw [if_neg ht]
    have T : Hid (d.thereE a m = 2) := by show _ = _; unfold DrvS.thereE; rw [if_neg ht]
    clear he h hn ht
    go_wp2_with (first
      | (go_at_call 46; refine (dthere_is _ _ (H.out.frm ((((Frm.refl NoB w).alloc _).alloc _).alloc _) (fun e => e)) (by omega)).mono ?_; rw [T.out]; rintro e w' ⟨rfl, rfl⟩))
    refine postM_ret (v := .tuple #[.slice none 0 0, .int .i64 2]) (by simp [results, Try.results13, go_sem]) rfl ⟨none, 0, ?_, ?_, (fun b hb => by cases hb), ?_, (((Frm.refl NoB w).alloc _).alloc _).alloc _⟩
    · rw [E.out, E'.out]; rfl
    · rw [E.out]; exact Rd.nil _ _
    · rw [E.out]; exact Nat.le_refl _

theorem seven_boxes {w W : World} {c0 c1 c2 c3 c4 c5 c6 : Array Value} {t0 t1 t2 t3 t4 t5 t6 : TypeId} (hW : (((((((w.alloc (.cells c0 t0)).alloc (.cells c1 t1)).alloc (.cells c2 t2)).alloc (.cells c3 t3)).alloc (.cells c4 t4)).alloc (.cells c5 t5)).alloc (.cells c6 t6)) = W) :
    W.heap.size = w.heap.size + 7 ∧ Frm NoB w W ∧ Blk W w.heap.size t0 c0 ∧ Blk W (w.heap.size + 1) t1 c1 ∧ Blk W (w.heap.size + 2) t2 c2 ∧ Blk W (w.heap.size + 3) t3 c3 ∧ Blk W (w.heap.size + 4) t4 c4 ∧ Blk W (w.heap.size + 5) t5 c5 ∧ Blk W (w.heap.size + 6) t6 c6 := by
  subst hW
  have s1 : (w.alloc (.cells c0 t0)).heap.size = w.heap.size + 1 := World.size_alloc _ _
  have n1 := Blk.new (w.alloc (.cells c0 t0)) t1 c1
  have n2 := Blk.new ((w.alloc (.cells c0 t0)).alloc (.cells c1 t1)) t2 c2
  have n3 := Blk.new (((w.alloc (.cells c0 t0)).alloc (.cells c1 t1)).alloc (.cells c2 t2)) t3 c3
  have n4 := Blk.new ((((w.alloc (.cells c0 t0)).alloc (.cells c1 t1)).alloc (.cells c2 t2)).alloc (.cells c3 t3)) t4 c4
  have n5 := Blk.new (((((w.alloc (.cells c0 t0)).alloc (.cells c1 t1)).alloc (.cells c2 t2)).alloc (.cells c3 t3)).alloc (.cells c4 t4)) t5 c5
  have n6 := Blk.new ((((((w.alloc (.cells c0 t0)).alloc (.cells c1 t1)).alloc (.cells c2 t2)).alloc (.cells c3 t3)).alloc (.cells c4 t4)).alloc (.cells c5 t5)) t6 c6
  simp only [World.size_alloc] at n1 n2 n3 n4 n5 n6
  refine ⟨by simp only [World.size_alloc], (((((((Frm.refl NoB w).alloc _).alloc _).alloc _).alloc _).alloc _).alloc _).alloc _, ?_, ?_, ?_, ?_, ?_, ?_, ?_⟩
  · exact ((((((Blk.new w t0 c0).alloc _).alloc _).alloc _).alloc _).alloc _).alloc _
  · exact ((((n1.alloc _).alloc _).alloc _).alloc _).alloc _
  · exact (((n2.alloc _).alloc _).alloc _).alloc _
  · exact ((n3.alloc _).alloc _).alloc _
  · exact (n4.alloc _).alloc _
  · exact n5.alloc _
  · exact n6
/-- the frame of Read's round: the box of p at bx, piece j -/
def rdAct (g p a m B bx first j : Nat) : Act :=
  { tmps := #[.pointer (some ⟨g, 0, none⟩), .int .i64 a, .int .i64 m, .pointer (some ⟨B, 0, none⟩), undef, undef, .pointer (some ⟨B + 1, 0, none⟩), .pointer (some ⟨B + 1 + 1, 0, none⟩), .int .i64 0, .pointer (some ⟨B + 1 + 1 + 1, 0, none⟩),
      .pointer (some ⟨bx, 0, none⟩), .int .i64 (plen a m j), undef, undef, undef, .pointer (some ⟨g, 0, none⟩), .int .i64 a, .int .i64 m, .int .i64 0, .int .i64 0, .bool false, undef, .pointer (some ⟨g, 0, none⟩), .pointer (some ⟨g, 0, none⟩), .pointer (some ⟨g, 0, none⟩), .pointer (some ⟨p, 0, none⟩),
      .bool false, .pointer (some ⟨g, 0, none⟩), .int .i64 a, .int .i64 m,
      .func (.func 76) #[] #[.pointer (some ⟨B + 1 + 1 + 1 + 1 + 2, 0, none⟩), .pointer (some ⟨B + 1 + 1 + 1 + 1 + 1, 0, none⟩), .pointer (some ⟨B + 1 + 1 + 1 + 1, 0, none⟩)],
      .agg #[.int .i64 ((first : Int) + (pcur a m j : Int) / 64), .int .i64 ((pcur a m j : Int) % 64)], .int .i64 (plen a m j), undef, undef, undef, undef, undef, undef, undef, undef, undef, undef, undef, undef, undef, undef, undef, undef, undef, undef, undef, undef, undef, undef, undef, undef, undef, undef, undef], defers := [] }
/-- between two rounds of Read: k words have come -/
structure RdInv (w : World) (p q c g : Nat) (s : NorS) (d : DrvS) (a m k : Nat) (W : World) : Prop where
  n : NorAt W p q c s
  dr : DrvAt W g p d
  c3 : Blk W w.heap.size 24 #[.pointer (some ⟨g, 0, none⟩)]
  r6 : Blk W (w.heap.size + 1) 34 #[.slice none 0 0]
  r7 : Blk W (w.heap.size + 2) 30 #[.int .i64 0]
  out : ∃ v, Blk W (w.heap.size + 3) 34 #[v] ∧ W.ownsRow (w.heap.size + 9) 49 1 v k (ints .u32 ((d.words s a m).take k))
  f : Frm NoB w W
/-- the blocks of the iterator, and of the loop -/
def RdB (B : Nat) : Nat → Prop := fun k => B + 4 ≤ k ∧ k < B + 9
theorem RdInv.frm {w W W' : World} {p q c g : Nat} {s : NorS} {d : DrvS} {a m k : Nat} (h : RdInv w p q c g s d a m k W) (hp : p < w.heap.size) (hq : q < w.heap.size) (hg : g < w.heap.size) (hf : Frm (RdB w.heap.size) W W') : RdInv w p q c g s d a m k W' := by
  obtain ⟨v, hb, ho⟩ := h.out
  exact ⟨h.n.frm hf (fun e => by have := e.1; omega) (fun e => by have := e.1; omega), h.dr.frm hf (fun e => by have := e.1; omega), h.c3.frm hf (fun e => by have := e.1; omega), h.r6.frm hf (fun e => by have := e.1; omega), h.r7.frm hf (fun e => by have := e.1; omega),
    ⟨v, hb.frm hf (fun e => by have := e.1; omega), own_frm ho hf (fun b e h2 => by have := (ho.lt b e).1; have := h2.2; omega)⟩,
    h.f.then_ hf (fun i hi e => by have := e.1; omega)⟩
theorem rd_act {g p a m B bx first j : Nat} : ({ tmps := #[.pointer (some ⟨g, 0, none⟩), .int .i64 a, .int .i64 m, .pointer (some ⟨B, 0, none⟩), undef, undef, .pointer (some ⟨B + 1, 0, none⟩), .pointer (some ⟨B + 1 + 1, 0, none⟩), .int .i64 0, .pointer (some ⟨B + 1 + 1 + 1, 0, none⟩),
      .pointer (some ⟨bx, 0, none⟩), .int .i64 (plen a m j), undef, undef, undef, .pointer (some ⟨g, 0, none⟩), .int .i64 a, .int .i64 m, .int .i64 0, .int .i64 0, .bool false, undef, .pointer (some ⟨g, 0, none⟩), .pointer (some ⟨g, 0, none⟩), .pointer (some ⟨g, 0, none⟩), .pointer (some ⟨p, 0, none⟩),
      .bool false, .pointer (some ⟨g, 0, none⟩), .int .i64 a, .int .i64 m,
      .func (.func 76) #[] #[.pointer (some ⟨B + 1 + 1 + 1 + 1 + 2, 0, none⟩), .pointer (some ⟨B + 1 + 1 + 1 + 1 + 1, 0, none⟩), .pointer (some ⟨B + 1 + 1 + 1 + 1, 0, none⟩)],
      .agg #[.int .i64 ((first : Int) + (pcur a m j : Int) / 64), .int .i64 ((pcur a m j : Int) % 64)], .int .i64 (plen a m j), undef, undef, undef, undef, undef, undef, undef, undef, undef, undef, undef, undef, undef, undef, undef, undef, undef, undef, undef, undef, undef, undef, undef, undef, undef, undef, undef], defers := [] } : Act) = rdAct g p a m B bx first j := rfl
theorem own_not {W : World} {B : Nat} {t e : TypeId} {cs : Array Value} (h : Blk W B t cs) (hte : t ≠ e) {base size k : Nat} {v : Value} {xs : List Value} (hr : W.ownsRow base e size v k xs) : some B ≠ v.ownBlock := by
  rcases hr.2 with ⟨rfl, _⟩ | ⟨g, cap, cur, rfl, _, hgb, _⟩
  · simp [Value.ownBlock]
  · intro e'
    obtain rfl : B = g := by simpa [Value.ownBlock] using e'
    have := (show W.heap[B]? = _ from h).symm.trans hgb
    simp at this
    exact hte this.2
/-- a word more, in a round -/
theorem append_word_in {F : Fence} {n0 : Nat} {w : World} {ops : Array Oper} {rest : List Oper} {o : Oper} {a : Act} {Q : Exit → Act → World → Prop} (hgd : o.guard = none) (s x : Operand)
    (ho : o.op = .call { callee := .builtin .append, args := #[s, x], argTypes := #[34, 34] })
    (base n b : Nat) (v : Value) (xs : List Int) (y : Int) (hs : a.eval s = v) (hx : a.eval x = .slice (some ⟨b, 0, none⟩) 1 1)
    (hown : w.ownsRow base 49 1 v n (ints .u32 xs)) (hb : Blk w b 49 #[.int .u32 y]) (hn : n ≤ 16777216) (hbase : base ≤ w.heap.size)
    (h : ∀ g cap w', w'.ownsRow base 49 1 (.slice (some ⟨g, 0, none⟩) (n + 1) cap) (n + 1) (ints .u32 (xs ++ [y])) → w.grownBy w' v.ownBlock → wpListIn F n0 Try.prog ops Q rest (a.put o.dst (.slice (some ⟨g, 0, none⟩) (n + 1) cap)) w') :
    wpListIn F n0 Try.prog ops Q (o :: rest) a w := by
  obtain ⟨i0, hi0, hz0, hz1, hz2⟩ := info_parts uint32_info
  refine wpListIn_append_own w hgd s x 34 ho base 49 i0 _ 1 4 Try.underlying34 hi0 hz0 hz1 hz2 rfl (by omega) v n (ints .u32 xs) hs hown ⟨b, 0, none⟩ 1 1 [.int .u32 y] hx rfl (World.news_of_block (cs := #[.int .u32 y]) hb) (by simp [Value.oneCell']) (by simp [maxLen]; omega) (by omega) hbase (fun v' w' h1 h2 _ => ?_)
  obtain ⟨g, cap, rfl⟩ := ownsRow_succ h1
  refine h g cap w' ?_ h2
  have e : ints .u32 (xs ++ [y]) = ints .u32 xs ++ [.int .u32 y] := by simp [ints]
  rw [e]
  exact h1
/-- a variable's box, behind an append to what it holds -/
theorem own_box {W w2 : World} {B : Nat} {t e : TypeId} {cs : Array Value} {X : Obj} {n : Nat} {v : Value} {xs : List Value} (hv : Blk W B t cs) (ho : W.ownsRow (B + 6) e 1 v n xs) (hgr : (W.alloc X).grownBy w2 v.ownBlock) : Blk w2 B t cs :=
  (hgr.block _ ((hv.alloc X).lt) (fun e => by have := (ho.lt B e.symm).1; omega)).trans (hv.alloc X)
/-- what a round has written -/
theorem RdInv.next {w W w2 : World} {p q c g : Nat} {s : NorS} {d : DrvS} {a m k : Nat} {v : Value} {X : Obj} {g2 cap : Nat} {y : Int} (h : RdInv w p q c g s d a m k W) (hp : p < w.heap.size) (hq : q < w.heap.size) (hg : g < w.heap.size)
    (hv : Blk W (w.heap.size + 3) 34 #[v]) (ho : W.ownsRow (w.heap.size + 9) 49 1 v k (ints .u32 ((d.words s a m).take k))) (hgr : (W.alloc X).grownBy w2 v.ownBlock)
    (ho2 : w2.ownsRow (w.heap.size + 9) 49 1 (.slice (some ⟨g2, 0, none⟩) (k + 1) cap) (k + 1) (ints .u32 ((d.words s a m).take k ++ [y]))) (hk : k < (d.words s a m).length) (hy : (d.words s a m).getD k 0 = y) :
    RdInv w p q c g s d a m (k + 1) (w2.setCell ⟨w.heap.size + 3, 0, none⟩ (.slice (some ⟨g2, 0, none⟩) (k + 1) cap)) ∧ Frm (fun i => some i = v.ownBlock ∨ i = w.heap.size + 3) W (w2.setCell ⟨w.heap.size + 3, 0, none⟩ (.slice (some ⟨g2, 0, none⟩) (k + 1) cap)) := by
  have hvn : ∀ i, some i = v.ownBlock → w.heap.size + 9 ≤ i := fun i e => (ho.lt i e.symm).1
  have hne : some (w.heap.size + 3) ≠ v.ownBlock := fun e => by have := hvn _ e; omega
  have hF1 : Frm (fun i => some i = v.ownBlock ∨ i = w.heap.size + 3) W w2 := ((Frm.refl _ W).alloc X).grown hgr (fun i e _ => .inl e.symm)
  have hF : Frm (fun i => some i = v.ownBlock ∨ i = w.heap.size + 3) W (w2.setCell ⟨w.heap.size + 3, 0, none⟩ (.slice (some ⟨g2, 0, none⟩) (k + 1) cap)) := hF1.setCell (p := ⟨w.heap.size + 3, 0, none⟩) (.inl (.inr rfl)) _
  have hv2 : Blk w2 (w.heap.size + 3) 34 #[v] := (hgr.block _ ((hv.alloc X).lt) hne).trans (hv.alloc X)
  have low : ∀ i, i < w.heap.size + 3 → ¬ (some i = v.ownBlock ∨ i = w.heap.size + 3) := fun i hi e => by
    rcases e with e | e
    · have := hvn _ e; omega
    · omega
  have e : (d.words s a m).take (k + 1) = (d.words s a m).take k ++ [y] := by
    rw [List.take_add_one, List.getElem?_eq_getElem hk, ← hy, List.getD_eq_getElem?_getD, List.getElem?_eq_getElem hk]; rfl
  refine ⟨⟨h.n.frm hF (low p (by omega)) (low q (by omega)), h.dr.frm hF (low g (by omega)), h.c3.frm hF (low _ (by omega)), h.r6.frm hF (low _ (by omega)), h.r7.frm hF (low _ (by omega)), ⟨_, hv2.set_ 0 _, ?_⟩, h.f.then_ hF (fun i hi => low i (by omega))⟩, hF⟩
  rw [e]
  exact own_frm ho2 ((Frm.refl (One (w.heap.size + 3)) w2).set1 0 _) (fun b hb => by
    have := (ho2.lt b hb).1; intro e; have e : b = w.heap.size + 3 := e; omega)
set_option maxRecDepth 100000 in
set_option maxHeartbeats 1000000 in
theorem dread_ok (a m : Nat) (h : DrvAt w g p d) (hn : NorAt w p q c s) (hd : d.Ok s) (he : d.rdE s a m = 0) :
    Calls Try.prog 13 #[.pointer (some ⟨g, 0, none⟩), .int .i64 a, .int .i64 m] w (DrdPost w d s a m) := by
  have hn2 := hn.ok.n2
  have hdn := hd.n
  have E : Hid (d.rd s a m = d.words s a m) := by show _ = _; unfold DrvS.rd; rw [if_pos he]; rfl
  have E' := hide he
  have hz := DrvS.rdE_zero he
  obtain ⟨hdown, z0, z1, z2, z3⟩ := hz
  have T : Hid (d.thereE a m = 0) := by show _ = _; unfold DrvS.thereE; rw [if_pos ⟨z0, z1, z2, z3⟩]
  have HD := hide hdown
  have H := hide h
  have HN := hide hn
  have HOK := hide hd
  have c0 : ∀ X Y Z : Obj, (((w.alloc X).alloc Y).alloc Z).cell? ⟨g, 0, none⟩ = some (.pointer (some ⟨p, 0, none⟩)) := fun X Y Z => (h.frm ((((Frm.refl NoB w).alloc X).alloc Y).alloc Z) (fun e => e)).c0
  clear he h hn hd hdown
  refine calls_marks Try.func13 rfl ?_
  simp only [Try.ntmps13, List.size_toArray, List.length_cons, List.length_nil, Nat.reduceAdd, Nat.reduceSub, Array.replicate_succ, Array.replicate_zero, List.push_toArray, List.append_toArray, List.nil_append, List.cons_append]
  go_wp2_with (first
    | (go_at_call 46; refine (dthere_is _ _ (H.out.frm ((((Frm.refl NoB w).alloc _).alloc _).alloc _) (fun e => e)) (by omega)).mono ?_; rw [T.out]; rintro e w' ⟨rfl, rfl⟩)
    | (go_at_call 47; refine (down_is ((((Hid.out HN).alloc _).alloc _).alloc _)).mono ?_; rw [HD.out]; rintro e w' ⟨rfl, rfl⟩)
    | (go_at_call 48; refine (dpieces_is _ _ _).mono ?_; rintro e w' ⟨rfl, rfl⟩))
  rename_i K0 hK0
  have hpl := (Hid.out HN).ltp
  have hql := (Hid.out HN).ltq
  have hgl := H.out.lt
  obtain ⟨W, hW⟩ : ∃ W, (((((((w.alloc (.cells #[.pointer (some ⟨g, 0, none⟩)] 24)).alloc (.cells #[.slice none 0 0] 34)).alloc (.cells #[.int .i64 0] 30)).alloc (.cells #[.slice none 0 0] 34)).alloc (.cells #[.pointer (some ⟨g, 0, none⟩)] 24)).alloc (.cells #[.int .i64 a] 3)).alloc (.cells #[.int .i64 m] 3)) = W := ⟨_, rfl⟩
  rw [hW]
  obtain ⟨hsz, hF, b0, b1, b2, b3, b4, b5, b6⟩ := seven_boxes hW
  have I0 : RdInv w p q c g s d a m 0 W := ⟨(Hid.out HN).frm hF (fun e => e) (fun e => e), H.out.frm hF (fun e => e), b0, b1, b2, ⟨_, b3, by simpa [ints] using World.ownsRow_nil W _ _ _⟩, hF⟩
  clear hW
  refine (wpIn_wide (n := 4)).1 ?_
  refine wpIn_rangeL (F := Fence.wide) (n := 4) rfl (by omega) (gf := 76) (lb := #[.pointer (some ⟨w.heap.size + 6, 0, none⟩), .pointer (some ⟨w.heap.size + 5, 0, none⟩), .pointer (some ⟨w.heap.size + 4, 0, none⟩)]) rfl trivial (enters_of Try.func76 (by kernel_rfl) rfl)
    (encs := pieceV d.first a m) (U := Two (w.heap.size + 6) (w.heap.size + 5)) (V := Two (w.heap.size + 4) g) (full := List.range (pnum a m))
    (pieces1_in 3 (by omega) (w.heap.size + 6) (w.heap.size + 5) (w.heap.size + 4) g d.first a m W (by omega) (by omega) (by omega) (by omega) (by omega) (by omega) (b6.cell 0) (b5.cell 0) (b6.frozen 0) (b5.frozen 0) (b4.cell 0) I0.dr.c1)
    (fun k hk => by rcases hk with hk | hk <;> omega) (fun x => rfl)
    (fun pre W' => RdInv w p q c g s d a m (pcur a m pre.length - a) W') (fun _ _ _ => False)
    (fun pre A B hi hf => hi.frm hpl hql hgl (hf.mono (fun k _ hk => ?sub)))
    (fun _ _ _ _ hi _ => hi) (by simpa [pcur_zero] using I0)
    (fun j a' W' => ∃ bx, w.heap.size + 9 ≤ bx ∧ Blk W' bx 96 #[.int .i64 ((d.first : Int) + (pcur a m j : Int) / 64), .int .i64 ((pcur a m j : Int) % 64)] ∧ a' = rdAct g p a m w.heap.size bx d.first j)
    (fun j a' A B hx hf => ?ax) ?assign ?body (fun k hk => by rcases hk with hk | hk <;> omega) ?done (fun _ _ _ _ h _ => h.elim)
  case sub =>
    have h : (Two (w.heap.size + 6) (w.heap.size + 5) k ∨ LoopB W.heap.size k) → w.heap.size + 4 ≤ k ∧ k < w.heap.size + 9 := fun hk => by rcases hk with (hk | hk) | (hk | hk) <;> omega
    exact h hk
  case ax =>
    obtain ⟨bx, h1, h2, h3⟩ := hx
    exact ⟨bx, h1, h2.frm hf (fun e => by rcases e with (e | e) | (e | e) <;> omega), h3⟩
  case assign =>
    intro l pre j W' K hlt hi hK
    have HK := hide hK
    have HI := hide hi
    clear hK hi I0 b0 b1 b2 b3 b4 b5 b6 hF
    unfold pieceV
    gi_wp2
    refine HK.out _ _ (Keep.of_frm ((Frm.refl NoB W').alloc _) (fun _ _ e => e)) (HI.out.frm hpl hql hgl ((Frm.refl _ W').alloc _)) ⟨W'.heap.size, by omega, Blk.new _ _ _, ?_⟩
    exact rd_act
  case body =>
    rintro l pre j a' W' hlt hi ⟨bx, hbx, hB, rfl⟩ hpre
    obtain ⟨rfl, hj⟩ := range_prefix hpre
    rw [List.length_range] at hi
    have hp1 := pnum_lt.1 hj
    have hp2 := plen_le hj
    have hp3 := pcur_next hj
    have hp4 := pcur_ge a m j
    have hp5 := pcur_le a m (j + 1)
    have hwl := DrvS.words_length (Hid.out HN).ok HOK.out (a := a) (m := m) (by omega)
    have hlb : w.heap.size + 9 ≤ W'.heap.size := by omega
    obtain ⟨cu, hcu⟩ : ∃ cu, pcur a m j = cu := ⟨_, rfl⟩
    obtain ⟨ln, hln⟩ : ∃ ln, plen a m j = ln := ⟨_, rfl⟩
    unfold rdAct
    rw [hcu] at hi hB hp1 hp2 hp3 hp4
    rw [hln] at hp2 hp3
    rw [hcu, hln]
    obtain ⟨T, hT⟩ : ∃ T : Nat → Prop, (fun k => (Two (w.heap.size + 6) (w.heap.size + 5) k ∨ Two (w.heap.size + 4) g k) ∨ LoopB W.heap.size k) = T := ⟨_, rfl⟩
    have hT2 : ∀ k, T k → k < w.heap.size + 9 ∧ k ≠ w.heap.size + 3 := fun k hk => by
      rw [← hT] at hk
      rcases hk with (hk | hk) | hk <;> rcases hk with hk | hk <;> omega
    rw [hT]
    clear hT hcu hln hpre I0 b0 b1 b2 b3 b4 b5 b6 hF c0
    have HI := hide hi
    have HB := hide hB
    clear hi hB
    gi_wp2
    gi_loopw [34] (fun i wr => ∃ k : Nat, k ≤ ln ∧ i = .int .i64 k ∧ RdInv w p q c g s d a m (cu - a + k) wr ∧ Keep T W' wr ∧ Blk wr bx 96 #[.int .i64 ((d.first : Int) + (cu : Int) / 64), .int .i64 ((cu : Int) % 64)]) (fun i _ => ln - (intOf i).toNat)
    case atStart => exact ⟨0, Nat.zero_le _, rfl, HI.out, Keep.refl _ _, HB.out⟩
    case round =>
      obtain ⟨k, hk, rfl, hI, hK, hBr⟩ := hrel
      by_cases hlt2 : k < ln
      · have hup : s.up ((d.first : Int) + (cu : Int) / 64) ((cu : Int) % 64 + k) 1 = 0 := by
          unfold NorS.up
          rw [if_neg (by rw [HD.out]; simp), if_pos]
          unfold NorS.there
          simp only [Bool.and_eq_true, decide_eq_true_eq]
          omega
        have hrd : s.read ((d.first : Int) + (cu : Int) / 64) ((cu : Int) % 64 + k) = (d.words s a m).getD (cu - a + k) 0 := by
          rw [DrvS.words_get (by omega)]
          unfold NorS.read
          rw [if_pos hup]
          unfold NorS.at_ DrvS.base
          congr 1
          omega
        have RD : Hid (∀ n, Calls Try.prog 49 #[.pointer (some ⟨p, 0, none⟩), .int .i64 ((d.first : Int) + (cu : Int) / 64), .int .i64 ((cu : Int) % 64 + k)] (wr.drewN n) fun e w' => e = .returned (.tuple #[.int .u32 ((d.words s a m).getD (cu - a + k) 0), .int .i64 0]) ∧ wr.drewN n = w') := by
          intro n
          have h := read_is ((d.first : Int) + (cu : Int) / 64) ((cu : Int) % 64 + k) (hI.n.drewN n)
          rwa [hrd, hup] at h
        have hw1 : IntKind.i64.wrap ((cu : Int) % 64 + k) = (cu : Int) % 64 + k := IntWalk.i64_in _ (by omega)
        have hkl : cu - a + k < (d.words s a m).length := by omega
        obtain ⟨y, hy⟩ : ∃ y, (d.words s a m).getD (cu - a + k) 0 = y := ⟨_, rfl⟩
        rw [hy] at RD
        clear hup hrd
        have d3 := hI.c3.cell 0
        have d0 := hI.dr.c0
        have e0 := hBr.cell 0
        have e1 := hBr.cell 1
        have HIr := hide hI
        have HKr := hide hK
        have HBr := hide hBr
        have HY := hide hy
        obtain ⟨v, hbv, hov⟩ := hI.out
        have HV := hide hbv
        have HO := hide hov
        clear hI hK hBr hy hbv hov
        gi_wp2
        refine region_quiet_round (by kernel_rfl) (by kernel_rfl) rfl ?_
        repeat (quiet_step ((go_at_call 49; exact quiet_of' RD.out)))
        refine wpQuiet_nil ?_
        rintro _ ⟨nq, rfl⟩
        have v0 := (Hid.out HV).cell 0
        obtain ⟨W3, hW3⟩ : ∃ W3, wr.drewN nq = W3 := ⟨_, rfl⟩
        have HI3 : Hid (RdInv w p q c g s d a m (cu - a + k) W3) := by rw [← hW3]; exact HIr.out.frm hpl hql hgl ((Frm.refl _ wr).drewN nq)
        have HV3 : Hid (Blk W3 (w.heap.size + 3) 34 #[v]) := by rw [← hW3]; exact HV.out
        have HO3 : Hid (W3.ownsRow (w.heap.size + 9) 49 1 v (cu - a + k) (ints .u32 ((d.words s a m).take (cu - a + k)))) := by
          rw [← hW3]; exact own_frm HO.out ((Frm.refl NoB wr).drewN nq) (fun _ _ e => e)
        have HK3 : Hid (Keep T W' W3) := by rw [← hW3]; exact HKr.out
        have HB3 : Hid (Blk W3 bx 96 #[.int .i64 ((d.first : Int) + (cu : Int) / 64), .int .i64 ((cu : Int) % 64)]) := by rw [← hW3]; exact HBr.out
        have hl3 : w.heap.size + 9 ≤ W3.heap.size := Nat.le_trans hlb HK3.out.1
        rw [hW3]
        have v3 : W3.cell? ⟨w.heap.size + 3, 0, none⟩ = some v := HV3.out.cell 0
        clear d3 d0 e0 e1 v0 hW3 HIr HV HO HKr HBr
        have hin : cu - a + k ≤ 16777216 := by omega
        gi_wp2_with (gi_at_builtin; refine append_word_in rfl (.tmp 54) (.tmp 56) rfl (w.heap.size + 9) (cu - a + k) W3.heap.size v ((d.words s a m).take (cu - a + k)) y rfl rfl ((Hid.out HO3).alloc _) (Blk.new _ _ _) hin (by simp; omega) ?_; intro g2 cap w2 hown2 hgrow2; have z3 : w2.frozen? ⟨w.heap.size + 3, 0, none⟩ = false := (own_box HV3.out HO3.out hgrow2).frozen 0; have y3 := (own_box HV3.out HO3.out hgrow2).cell 0)
        obtain ⟨hI4, hF4⟩ := RdInv.next HI3.out hpl hql hgl HV3.out HO3.out hgrow2 hown2 hkl HY.out
        have hB4 := HB3.out.frm hF4 (fun e => by
          rcases e with e | e
          · exact own_not HB3.out (by decide) HO3.out e
          · omega)
        have hK4 : Keep T W' _ := HK3.out.trans (Keep.of_frm hF4 (fun i hi e => by
          have h1 := hT2 i hi
          rcases e with e | e
          · have := ((Hid.out HO3).lt i e.symm).1; omega
          · exact h1.2 e))
        clear z3 y3 v3 hown2 hgrow2
        gi_wp2
        go_roundw
        case rel => exact ⟨k + 1, by omega, by go_num, by rw [← Nat.add_assoc]; exact hI4, hK4, hB4⟩
        case measure => simp [intOf]; omega
      · obtain rfl : k = ln := by omega
        gi_wp2
        refine ⟨hK, ?_⟩
        have e : pcur a m (List.range j ++ [j]).length - a = cu - a + k := by simp; omega
        show RdInv w p q c g s d a m (pcur a m (List.range j ++ [j]).length - a) wr
        rw [e]
        exact hI
  case done =>
    intro W2 hi hD
    rw [List.length_range, pcur_last, Nat.add_sub_cancel_left] at hi
    obtain ⟨v, hbv, hov⟩ := hi.out
    obtain ⟨A, cp, rfl, hRd, hAb, hcp⟩ := Rd.of_own hov
    have hwl := DrvS.words_length (Hid.out HN).ok HOK.out (a := a) (m := m) (by omega)
    rw [List.take_of_length_le (by omega)] at hRd
    have r6 := hi.r6.cell 0
    have r7 := hi.r7.cell 0
    have v9 := hbv.cell 0
    have f6 := hi.r6.frozen 0
    have f7 := hi.r7.frozen 0
    have B6 := hide (hi.r6.set_ 0 (.slice A m cp))
    have B7 := hide (hi.r7)
    have HF2 := hide hi.f
    have HRd := hide hRd
    have HAb := hide hAb
    have HDe := hide hD
    clear I0 b0 b1 b2 b3 b4 b5 b6 hi hbv hov hRd hAb hD
    refine hK0 _ _ ?_
    go_wp2
    have hF3 : Frm (fun k => k = w.heap.size + 1 ∨ k = w.heap.size + 2) W2 ((W2.setCell ⟨w.heap.size + 1, 0, none⟩ (.slice A m cp)).setCell ⟨w.heap.size + 2, 0, none⟩ (.int .i64 0)) := ((Frm.refl _ W2).setCell (p := ⟨w.heap.size + 1, 0, none⟩) (.inl (.inl rfl)) _).setCell (p := ⟨w.heap.size + 2, 0, none⟩) (.inl (.inr rfl)) _
    have hsz2 := HF2.out.size
    have hDl : w.heap.size + 7 < W2.heap.size := by have := (Array.getElem?_eq_some_iff.1 HDe.out).1; omega
    have n7 : Blk (W2.setCell ⟨w.heap.size + 1, 0, none⟩ (.slice A m cp)) (w.heap.size + 2) 30 #[.int .i64 0] := B7.out.frm ((Frm.refl (One (w.heap.size + 1)) W2).set1 0 _) (fun e => by have e : w.heap.size + 2 = w.heap.size + 1 := e; omega)
    have m7 : Blk ((W2.setCell ⟨w.heap.size + 1, 0, none⟩ (.slice A m cp)).setCell ⟨w.heap.size + 2, 0, none⟩ (.int .i64 0)) (w.heap.size + 2) 30 #[.int .i64 0] := n7.set_ 0 _
    have m6 : Blk ((W2.setCell ⟨w.heap.size + 1, 0, none⟩ (.slice A m cp)).setCell ⟨w.heap.size + 2, 0, none⟩ (.int .i64 0)) (w.heap.size + 1) 34 #[.slice A m cp] := Blk.frm B6.out ((Frm.refl (One (w.heap.size + 2)) _).set1 0 _) (fun e => by have e : w.heap.size + 1 = w.heap.size + 2 := e; omega)
    obtain ⟨W3, hW3⟩ : ∃ W3, (W2.setCell ⟨w.heap.size + 1, 0, none⟩ (.slice A m cp)).setCell ⟨w.heap.size + 2, 0, none⟩ (.int .i64 0) = W3 := ⟨_, rfl⟩
    have hW3' : (W2.setCell ⟨w.heap.size + 1, 0, none⟩ (.slice A m cp)).setCell ⟨w.heap.size + 1 + 1, 0, none⟩ (.int .i64 0) = W3 := hW3
    rw [hW3] at hF3 m6 m7
    rw [hW3']
    have hDe3 : W3.heap[w.heap.size + 7]? = some (.deferred (some [])) := (hF3.block _ hDl (fun e => by omega)).trans (by rw [← hsz]; exact HDe.out)
    have r6' : (W3.putObj (w.heap.size + 7) (.deferred none)).cell? ⟨w.heap.size + 1, 0, none⟩ = some (.slice A m cp) := (World.cell?_of_block (World.putObj_heap_other (by show w.heap.size + 1 ≠ _; omega))).trans (m6.cell 0)
    have r7' : (W3.putObj (w.heap.size + 7) (.deferred none)).cell? ⟨w.heap.size + 1 + 1, 0, none⟩ = some (.int .i64 0) := (World.cell?_of_block (World.putObj_heap_other (by show w.heap.size + 1 + 1 ≠ _; omega))).trans (m7.cell 0)
    have hF4 : Frm (fun k => k = w.heap.size + 1 ∨ k = w.heap.size + 2 ∨ k = w.heap.size + 7) W2 (W3.putObj (w.heap.size + 7) (.deferred none)) := Frm.putObj (hF3.mono (fun k _ e => by omega)) _ (.inl (.inr (.inr rfl)))
    refine postM_mark (v := .tuple #[.slice A m cp, .int .i64 0]) (by simp [results, Try.results13, go_sem, r6', r7']) rfl hDe3 ⟨A, cp, ?_, ?_, (fun b hb => by have := (HAb.out b hb).1; omega), ?_, HF2.out.then_ hF4 (fun i hi e => by omega)⟩
    · rw [E.out, E'.out, hwl]
    · rw [E.out]; exact Rd.frm HRd.out hF4 (fun b hb e => by have := (HAb.out b hb).1; omega)
    · rw [E.out, hwl]; exact hcp
end
end Go.Proofs.Ytiapoalkkhpmlaa

/-
  SameWords.
-/
namespace Go.Proofs.Ytiapoalkkhpmlaa
open Go.RowKit

/-- are they the same? -/
def same (a b : List Int) : Bool := decide (a = b)
theorem same_iff {a b : List Int} : same a b = true ↔ a = b := by simp [same]
/-- up to i they are -/
def SameRel (a b : List Int) (w : World) (v : Value) (wr : World) : Prop := ∃ (j : Nat) (m : Nat), j ≤ a.length ∧ v = .int .i64 j ∧ wr = w.drewN m ∧ a.take j = b.take j
def SamePost (a b : List Int) (w : World) (e : Ending) (w' : World) : Prop := e = .returned (.bool (same a b)) ∧ ∃ m, w' = w.drewN m

theorem take_same {a b : List Int} {j : Nat} (h : a.take j = b.take j) (ha : j < a.length) (hb : j < b.length) (he : a.getD j 0 = b.getD j 0) : a.take (j + 1) = b.take (j + 1) := by
  rw [List.take_succ_eq_append_getElem ha, List.take_succ_eq_append_getElem hb, h]
  simp only [List.getD_eq_getElem?_getD, List.getElem?_eq_getElem ha, List.getElem?_eq_getElem hb, Option.getD_some] at he
  rw [he]
set_option maxHeartbeats 400000 in
theorem sameWords_is (a b : List Int) (A B : Option Addr) (ca cb : Nat) (w : World) (ha : Rd w A (ints .u32 a)) (hb : Rd w B (ints .u32 b)) (hla : (a.length : Int) ≤ 9223372036854775807) :
    Calls Try.prog 15 #[.slice A a.length ca, .slice B b.length cb] w (SamePost a b w) := by
  by_cases hl : a.length = b.length
  · have h1 : ((a.length : Int) != (b.length : Int)) = false := by rw [hl]; simp
    have h1' : (a.length != b.length) = false := by rw [hl]; simp
    have HL : Hid (a.length = b.length) := hl
    have hl1 : a.length ≤ b.length := by omega
    clear hl
    go_enter Try.func15, Try.ntmps15
    go_wp2
    go_loopw [5] (fun v wr => SameRel a b w v wr) (fun v _ => a.length - (intOf v).toNat)
    case atStart => exact ⟨0, 0, by omega, rfl, rfl, rfl⟩
    case round =>
      obtain ⟨j, m, hj, rfl, rfl, ht⟩ := hrel
      have HT := hide ht
      clear ht
      by_cases hlt : j < a.length
      · have hltb : j < b.length := by omega
        obtain ⟨ba, oa, rfl, hca⟩ := ha (ints_ne (by intro e; subst e; simp at hlt))
        obtain ⟨bb, ob, rfl, hcb⟩ := hb (ints_ne (by intro e; subst e; simp at hltb))
        have h1 := hca j _ (ints_get hlt)
        have h2 := hcb j _ (ints_get hltb)
        have i0 : (0 : Int) ≤ (j : Int) := by omega
        have i1 : (j : Int) < (a.length : Int) := by omega
        have i2 : (j : Int) < (b.length : Int) := by omega
        clear ha hb hca hcb
        have hxy : Hid (∀ x y, a.getD j 0 = x → b.getD j 0 = y → x = y → a.take (j + 1) = b.take (j + 1)) := fun x y hx hy he => take_same HT.out hlt hltb (by rw [hx, hy, he])
        have hxn : Hid (∀ x y, a.getD j 0 = x → b.getD j 0 = y → x ≠ y → same a b = false) := fun x y hx hy he => by
          rw [Bool.eq_false_iff]; intro e; rw [same_iff.1 e] at hx; exact he (hx.symm.trans hy)
        generalize hx : a.getD j 0 = x at h1
        generalize hy : b.getD j 0 = y at h2
        have HX := hide hx
        have HY := hide hy
        clear hx hy
        by_cases he : x = y
        · have hf : (x != y) = false := by simpa using he
          have HE := hide he
          clear he
          go_wp2
          go_quiet (fail)
          go_wp2
          go_roundw
          case rel => exact ⟨j + 1, _, by omega, by go_num, rfl, hxy.out _ _ HX.out HY.out HE.out⟩
          case measure => simp [intOf]; omega
        · have hf : (x != y) = true := by simpa using he
          have HE := hide he
          clear he
          go_wp2
          go_quiet (fail)
          go_wp2
          go_ret
          exact ⟨ret_bool (hxn.out _ _ HX.out HY.out HE.out).symm, _, World.drewN_drewN _ _ _⟩
      · obtain rfl : j = a.length := by omega
        have hs : same a b = true := by
          rw [same_iff]
          have := HT.out
          rw [List.take_length, List.take_of_length_le (Nat.le_of_eq HL.out.symm)] at this
          exact this
        have HS := hide hs
        clear hs ha hb
        go_wp2
        go_ret
        exact ⟨ret_bool HS.out.symm, _, rfl⟩
  · have hne : same a b = false := by
      rw [Bool.eq_false_iff]; intro e; exact hl (by rw [same_iff.1 e])
    have h1 : ((a.length : Int) != (b.length : Int)) = true := by simp; omega
    have h1' : (a.length != b.length) = true := by simpa using hl
    have H := hide hne
    clear ha hb hl hne
    go_enter Try.func15, Try.ntmps15
    go_wp2
    go_ret
    exact ⟨ret_bool H.out.symm, 0, rfl⟩
end Go.Proofs.Ytiapoalkkhpmlaa

/-
  slices.Equal at words.
-/
namespace Go.Proofs.Ytiapoalkkhpmlaa
open Go.RowKit
set_option maxHeartbeats 400000 in
theorem equal_is (a b : List Int) (A B : Option Addr) (ca cb : Nat) (w : World) (ha : Rd w A (ints .u32 a)) (hb : Rd w B (ints .u32 b)) (hla : (a.length : Int) ≤ 9223372036854775807) :
    Calls Try.prog 75 #[.slice A a.length ca, .slice B b.length cb] w (SamePost a b w) := by
  by_cases hl : a.length = b.length
  · have h1 : ((a.length : Int) != (b.length : Int)) = false := by rw [hl]; simp
    have h1' : (a.length != b.length) = false := by rw [hl]; simp
    have HL : Hid (a.length = b.length) := hl
    have hl1 : a.length ≤ b.length := by omega
    clear hl
    go_enter Try.func75, Try.ntmps75
    go_wp2
    go_loopw [13] (fun v wr => SameRel a b w v wr) (fun v _ => a.length - (intOf v).toNat)
    case atStart => exact ⟨0, 0, by omega, rfl, rfl, rfl⟩
    case round =>
      obtain ⟨j, m, hj, rfl, rfl, ht⟩ := hrel
      have HT := hide ht
      clear ht
      by_cases hlt : j < a.length
      · have hltb : j < b.length := by omega
        obtain ⟨ba, oa, rfl, hca⟩ := ha (ints_ne (by intro e; subst e; simp at hlt))
        obtain ⟨bb, ob, rfl, hcb⟩ := hb (ints_ne (by intro e; subst e; simp at hltb))
        have h1 := hca j _ (ints_get hlt)
        have h2 := hcb j _ (ints_get hltb)
        have i0 : (0 : Int) ≤ (j : Int) := by omega
        have i1 : (j : Int) < (a.length : Int) := by omega
        have i2 : (j : Int) < (b.length : Int) := by omega
        clear ha hb hca hcb
        have hxy : Hid (∀ x y, a.getD j 0 = x → b.getD j 0 = y → x = y → a.take (j + 1) = b.take (j + 1)) := fun x y hx hy he => take_same HT.out hlt hltb (by rw [hx, hy, he])
        have hxn : Hid (∀ x y, a.getD j 0 = x → b.getD j 0 = y → x ≠ y → same a b = false) := fun x y hx hy he => by
          rw [Bool.eq_false_iff]; intro e; rw [same_iff.1 e] at hx; exact he (hx.symm.trans hy)
        generalize hx : a.getD j 0 = x at h1
        generalize hy : b.getD j 0 = y at h2
        have HX := hide hx
        have HY := hide hy
        clear hx hy
        by_cases he : x = y
        · have hf : (x != y) = false := by simpa using he
          have HE := hide he
          clear he
          go_wp2
          go_quiet (fail)
          go_wp2
          go_roundw
          case rel => exact ⟨j + 1, _, by omega, by go_num, rfl, hxy.out _ _ HX.out HY.out HE.out⟩
          case measure => simp [intOf]; omega
        · have hf : (x != y) = true := by simpa using he
          have HE := hide he
          clear he
          go_wp2
          go_quiet (fail)
          go_wp2
          go_ret
          exact ⟨ret_bool (hxn.out _ _ HX.out HY.out HE.out).symm, _, World.drewN_drewN _ _ _⟩
      · obtain rfl : j = a.length := by omega
        have hs : same a b = true := by
          rw [same_iff]
          have := HT.out
          rw [List.take_length, List.take_of_length_le (Nat.le_of_eq HL.out.symm)] at this
          exact this
        have HS := hide hs
        clear hs ha hb
        go_wp2
        go_ret
        exact ⟨ret_bool HS.out.symm, _, rfl⟩
  · have hne : same a b = false := by
      rw [Bool.eq_false_iff]; intro e; exact hl (by rw [same_iff.1 e])
    have h1 : ((a.length : Int) != (b.length : Int)) = true := by simp; omega
    have h1' : (a.length != b.length) = true := by simpa using hl
    have H := hide hne
    clear ha hb hl hne
    go_enter Try.func75, Try.ntmps75
    go_wp2
    go_ret
    exact ⟨ret_bool H.out.symm, 0, rfl⟩
end Go.Proofs.Ytiapoalkkhpmlaa

/-
  The drive: Read at any place.
-/
namespace Go.Proofs.Ytiapoalkkhpmlaa
open Go.RowKit
theorem NoDrv.frm {w w' : World} {v : Value} (h : NoDrv w v) (hf : Frm NoB w w') : NoDrv w' v := by
  rcases h with rfl | ⟨g, rfl, hc⟩
  · exact .inl rfl
  · exact .inr ⟨g, rfl, (hf.cell (World.block_lt_of_cell? w _ hc) (fun e => e)).trans hc⟩
section
variable {w : World} {g p q c : Nat} {s : NorS} {d : DrvS}
theorem dread_is (a m : Int) (h : DrvAt w g p d) (hn : NorAt w p q c s) (hd : d.Ok s) :
    Calls Try.prog 13 #[.pointer (some ⟨g, 0, none⟩), .int .i64 a, .int .i64 m] w (DrdPost w d s a m) := by
  by_cases he : d.rdE s a m = 0
  · obtain ⟨_, h1, h2, _, _⟩ := DrvS.rdE_zero he
    obtain ⟨A, rfl⟩ := Int.eq_ofNat_of_zero_le h1
    obtain ⟨M, rfl⟩ := Int.eq_ofNat_of_zero_le h2
    exact dread_ok A M h hn hd he
  · exact dread_bad a m h hn hd he
/-- .. of none -/
theorem dread_no (a m : Int) (v : Value) (h : NoDrv w v) :
    Calls Try.prog 13 #[v, .int .i64 a, .int .i64 m] w fun e w' => e = .returned (.tuple #[.slice none 0 0, .int .i64 1]) ∧ Frm NoB w w' := by
  have hv : ∃ X, v = .pointer X := by rcases h with rfl | ⟨g, rfl, _⟩ <;> exact ⟨_, rfl⟩
  obtain ⟨X, rfl⟩ := hv
  have H := hide (h.frm ((((Frm.refl NoB w).alloc (.cells #[.pointer X] 24)).alloc (.cells #[.slice none 0 0] 34)).alloc (.cells #[.int .i64 0] 30)))
  clear h
  refine calls_marks Try.func13 rfl ?_
  simp only [Try.ntmps13, List.size_toArray, List.length_cons, List.length_nil, Nat.reduceAdd, Nat.reduceSub, Array.replicate_succ, Array.replicate_zero, List.push_toArray, List.append_toArray, List.nil_append, List.cons_append]
  go_wp2_with (go_at_call 46; refine (dthere_no _ _ _ H.out).mono ?_; rintro e w' ⟨rfl, rfl⟩)
  refine postM_ret (v := .tuple #[.slice none 0 0, .int .i64 1]) (by simp [results, Try.results13, go_sem]) rfl ⟨rfl, (((Frm.refl NoB w).alloc _).alloc _).alloc _⟩
end
end Go.Proofs.Ytiapoalkkhpmlaa
