/-
  Texts of this claim, joined: Cel6, ByLit, DrvRd07, CelOwn, RdTrue, CelAwk, Args, OpenRows, BlOpen.
-/
import Derived.Lib.SlBytesConst
import Derived.ProofKit
import Derived.OpenShut
import Derived.ChangeOld
import Derived.SizedLaws
import Derived.Deep.Slices
import Derived.Deep.Fields
import Derived.Deep.Grids
import Derived.ChangeSame
import Derived.Test.YtiapoalkkhpmlaaCelJ7
/-
  The cell: Put, where it writes.
-/
namespace Go.Proofs.Ytiapoalkkhpmlaa
open Go.RowKit
theorem CelAt.ne {w : World} {p q c g gd : Nat} {s : NorS} {cs : CelS} {v : Value} {over : Bool} (h : CelAt w g gd cs v over) (hn : NorAt w p q c s) : g ≠ p ∧ g ≠ q := by
  refine ⟨?_, ?_⟩
  · rintro rfl
    exact absurd (h.b.inj hn.blk).2 (by decide)
  · rintro rfl
    obtain ⟨cs, hb⟩ := hn.blkq
    exact absurd (h.b.inj hb).2 (by decide)
theorem CelAt.ned {w : World} {p g gd : Nat} {d : DrvS} {cs : CelS} {v : Value} {over : Bool} (h : CelAt w g gd cs v over) (hd : DrvAt w gd p d) : gd ≠ g := by
  rintro rfl
  exact absurd (h.b.inj hd.b).2 (by decide)
theorem CelAt.two {w : World} {p q c g gd : Nat} {s : NorS} {cs : CelS} {v : Value} {over : Bool} (h : CelAt w g gd cs v over) (hn : NorAt w p q c s) : ¬ Two p q g := fun e => by
  have := h.ne hn
  rcases e with e | e
  · exact this.1 e
  · exact this.2 e
theorem erE_codes (d : DrvS) (s : NorS) (k : Int) : d.erE s k = 0 ∨ d.erE s k = 2 ∨ d.erE s k = 40 := by
  unfold DrvS.erE NorS.eraseE NorS.up
  repeat' split
  all_goals simp_all
theorem wrE_codes (d : DrvS) (s : NorS) (a : Int) (l : List Int) : d.wrE s a l = 0 ∨ d.wrE s a l = 2 ∨ d.wrE s a l = 40 ∨ d.wrE s a l = 50 := by
  have h : d.rdE s a l.length = 0 ∨ d.rdE s a l.length = 2 ∨ d.rdE s a l.length = 40 := by
    unfold DrvS.rdE
    repeat' split
    all_goals simp
  unfold DrvS.wrE
  by_cases h0 : d.rdE s a l.length = 0
  · rw [if_pos h0]
    split
    · simp
    · split <;> simp
  · rw [if_neg h0]
    rcases h with h | h | h
    · exact absurd h h0
    · rw [h]; simp
    · rw [h]; simp
theorem cputI_codes (d : DrvS) (s : NorS) (i : Nat) (l : List Int) : (d.cputI s i l).2 ≠ 3 ∧ (d.cputI s i l).2 ≠ 5 := by
  unfold DrvS.cputI
  have h1 := erE_codes d s i
  have h2 := wrE_codes d (d.er s i) ((64 * i : Nat) : Int) l
  have h3 := wrE_codes d (d.wr (d.er s i) ((64 * i : Nat) : Int) l) ((64 * i + 63 : Nat) : Int) [0]
  split
  · split
    · dsimp only; omega
    · dsimp only; omega
  · dsimp only; omega
/-- the boxes of Put: the cell, the sector, the place -/
def putW (w : World) (g i : Nat) : World := ((w.alloc (.cells #[.pointer (some ⟨g, 0, none⟩)] 25)).alloc (.cells #[.int .i64 i] 3)).alloc (.cells #[.int .i64 ((i : Int) * 64)] 3)
theorem putW_frm (w : World) (g i : Nat) : Frm NoB w (putW w g i) := (((Frm.refl NoB w).alloc _).alloc _).alloc _
theorem putW_size (w : World) (g i : Nat) : (putW w g i).heap.size = w.heap.size + 3 := by simp [putW]
theorem putW_blk (w : World) (g i : Nat) : Blk (putW w g i) w.heap.size 25 #[.pointer (some ⟨g, 0, none⟩)] ∧ Blk (putW w g i) (w.heap.size + 1) 3 #[.int .i64 i] ∧ Blk (putW w g i) (w.heap.size + 2) 3 #[.int .i64 (64 * i : Nat)] := by
  have h1 := Blk.new (w.alloc (.cells #[.pointer (some ⟨g, 0, none⟩)] 25)) 3 #[.int .i64 i]
  have h2 := Blk.new ((w.alloc (.cells #[.pointer (some ⟨g, 0, none⟩)] 25)).alloc (.cells #[.int .i64 i] 3)) 3 #[.int .i64 ((i : Int) * 64)]
  rw [show (i : Int) * 64 = ((64 * i : Nat) : Int) from by omega] at h2
  simp only [World.size_alloc] at h1 h2
  unfold putW
  rw [show (i : Int) * 64 = ((64 * i : Nat) : Int) from by omega]
  exact ⟨((Blk.new w _ _).alloc _).alloc _, h1.alloc _, h2⟩
/-- what is there ahead of the deeds -/
structure PutL (w : World) (g i : Nat) (l : List Int) (L : Nat) (A : Option Addr) (cp : Nat) (W : World) : Prop where
  b : Blk W L 34 #[.slice A l.length cp]
  r : Rd W A (ints .u32 l)
  a : ∀ x, A = some x → w.heap.size + 3 ≤ x.block ∧ x.block < W.heap.size ∧ x.block ≠ L
  l0 : w.heap.size + 3 ≤ L
  n : l.length ≤ cp
  f : Frm NoB (putW w g i) W
theorem own_ne {L B n c : Nat} (h : L ≠ B) : some L ≠ (Value.slice (some ⟨B, 0, none⟩) n c).ownBlock := fun e => by
  simp [Value.ownBlock] at e; exact h e
theorem blk_new2 (w : World) (X : Obj) (t : TypeId) (cs : Array Value) : Blk ((w.alloc X).alloc (.cells cs t)) (w.heap.size + 1) t cs := by
  have h := Blk.new (w.alloc X) t cs
  simp only [World.size_alloc] at h
  exact h
theorem alloc_ne (w : World) (o : Obj) : (w.alloc o).heap.size ≠ w.heap.size := by simp
/-- a box that the append is not of -/
theorem put_box {W W' : World} {L : Nat} {t : TypeId} {x u : Value} {row : Option Nat} (h : Blk W L t #[x]) (hg : W.grownBy W' row) (hne : some L ≠ row) (ha : u.ownBlock = row ∨ u.ownBlock = some W.heap.size) :
    Blk W' L t #[x] ∧ W'.cell? ⟨L, 0, none⟩ = some x ∧ W'.frozen? ⟨L, 0, none⟩ = false ∧ some L ≠ u.ownBlock := by
  have hb : Blk W' L t #[x] := (hg.block _ h.lt hne).trans h
  refine ⟨hb, hb.cell 0, hb.frozen 0, fun e => ?_⟩
  rcases ha with ha | ha
  · exact hne (e.trans ha)
  · have := e.trans ha
    injection this with this
    have := h.lt
    omega
/-- words that were just laid are a row of one's own -/
theorem lit_own {W : World} {base B n : Nat} {t : TypeId} {cs : Array Value} (h : Blk W B t cs) (hb : base ≤ B) (hn : cs.size = n) (hm : n ≤ maxLen) : W.ownsRow base t 1 (.slice (some ⟨B, 0, none⟩) n n) n cs.toList :=
  ⟨by simpa using hn, .inr ⟨B, n, cs, rfl, hb, h, Nat.le_refl _, hm, by omega, List.take_of_length_le (by rw [Array.length_toList, hn]; omega)⟩⟩
theorem put_row {w W0 w5 : World} {turn : Int} {b : List Int} {nb : Nat} {A : Option Addr} {c : Nat} (hnb : b.length = nb) (hsz : W0.heap.size = w.heap.size + 3)
    (hown : w5.ownsRow W0.heap.size 49 1 (.slice A (2 + (wordsOf b).length) c) (2 + (wordsOf b).length) ([.int .u32 (turn + 1), .int .u32 nb] ++ ints .u32 (wordsOf b))) :
    (putL turn b).length = 2 + (wordsOf b).length ∧ Rd w5 A (ints .u32 (putL turn b)) ∧ (∀ x, A = some x → w.heap.size + 3 ≤ x.block ∧ x.block < w5.heap.size) ∧ 2 + (wordsOf b).length ≤ c := by
  subst hnb
  obtain ⟨A', c', e, h1, h2, h3⟩ := Rd.of_own hown
  injection e with e1 e2 e3
  subst e1 e3
  refine ⟨by unfold putL; rw [List.length_cons, List.length_cons]; omega, h1, fun x hx => ?_, h3⟩
  have := h2 x hx
  omega
theorem put_fin1 {w W0 w5 : World} {g i L : Nat} {turn : Int} {b : List Int} {nb : Nat} {A : Option Addr} {c : Nat} (hW : putW w g i = W0) (hnb : b.length = nb) (hsz : W0.heap.size = w.heap.size + 3)
    (hown : w5.ownsRow W0.heap.size 49 1 (.slice A (2 + (wordsOf b).length) c) (2 + (wordsOf b).length) ([.int .u32 (turn + 1), .int .u32 nb] ++ ints .u32 (wordsOf b))) (hf : Frm NoB W0 w5)
    (hb : Blk w5 L 34 #[.slice none 0 0]) (hne : some L ≠ (Value.slice A (2 + (wordsOf b).length) c).ownBlock) (hL : W0.heap.size ≤ L) :
    PutL w g i (putL turn b) L A c (w5.setCell ⟨L, 0, none⟩ (.slice A (2 + (wordsOf b).length) c)) := by
  obtain ⟨h1, h2, h3, h4⟩ := put_row (turn := turn) hnb hsz hown
  have hs : Frm (One L) w5 (w5.setCell ⟨L, 0, none⟩ (.slice A (2 + (wordsOf b).length) c)) := (Frm.refl _ w5).set1 _ _
  have hxl : ∀ x, A = some x → x.block ≠ L := fun x hx e => by
    rcases hown.2 with ⟨e1, _⟩ | ⟨g', cap', cur, e1, _⟩
    · injection e1 with e1; rw [e1] at hx; cases hx
    · injection e1 with e1
      rw [e1] at hx
      injection hx with hx
      apply hne
      rw [e1, ← e, ← hx]
      rfl
  refine ⟨?_, h2.frm' hs (fun _ x hx e => hxl x hx e), fun x hx => ⟨(h3 x hx).1, Nat.lt_of_lt_of_le (h3 x hx).2 hs.size, hxl x hx⟩, by omega, by omega, ?_⟩
  · rw [h1]
    have := hb.set_ 0 (.slice A (2 + (wordsOf b).length) c)
    simpa using this
  · rw [hW]; exact hf.then_ hs (fun k hk e => by have e : k = L := e; omega)
theorem put_fin2 {w W0 w5 : World} {g i : Nat} {turn : Int} {b : List Int} {nb : Nat} {A : Option Addr} {c : Nat} (hW : putW w g i = W0) (hnb : b.length = nb) (hsz : W0.heap.size = w.heap.size + 3)
    (hown : w5.ownsRow W0.heap.size 49 1 (.slice A (2 + (wordsOf b).length) c) (2 + (wordsOf b).length) ([.int .u32 (turn + 1), .int .u32 nb] ++ ints .u32 (wordsOf b))) (hf : Frm NoB W0 w5) :
    PutL w g i (putL turn b) w5.heap.size A c (w5.alloc (.cells #[.slice A (2 + (wordsOf b).length) c] 34)) := by
  obtain ⟨h1, h2, h3, h4⟩ := put_row (turn := turn) hnb hsz hown
  have hs : Frm NoB w5 (w5.alloc (.cells #[.slice A (2 + (wordsOf b).length) c] 34)) := (Frm.refl _ w5).alloc _
  refine ⟨by rw [h1]; exact Blk.new _ _ _, h2.frm' hs (fun _ _ _ e => e), fun x hx => ⟨(h3 x hx).1, Nat.lt_of_lt_of_le (h3 x hx).2 hs.size, Nat.ne_of_lt (h3 x hx).2⟩, ?_, by omega, by rw [hW]; exact hf.trans hs⟩
  have := hf.size
  omega
def PutCut (w : World) (g i : Nat) (l : List Int) (t7 : Value) (W : World) : Prop := ∃ L A cp, t7 = .pointer (some ⟨L, 0, none⟩) ∧ PutL w g i l L A cp W
section
variable {w : World} {p q c g gd : Nat} {d : DrvS} {s : NorS} {cs : CelS} {v vx : Value} {b : List Int}
set_option maxRecDepth 100000 in
set_option maxHeartbeats 4000000 in
theorem cput_go (h : CelAt w g gd cs v false) (hg : DrvAt w gd p d) (hn : NorAt w p q c s) (hd : d.Ok s) (hm : d.many = 2) (hy : By w vx b) (hl : b.length ≤ 244) (ht0 : 0 ≤ cs.turn) (ht : cs.turn < 2147483648)
    (hvp : cs.b ≠ [] → ∀ k, RowB v k → ¬ Two p q k) (hxp : b ≠ [] → ∀ k, RowB vx k → ¬ Tri p q g k) :
    Calls Try.prog 11 #[.pointer (some ⟨g, 0, none⟩), vx] w (CPutPost w p q c g gd d s cs v b) := by
  have hf1 : Frm NoB w (w.alloc (.cells #[.pointer (some ⟨g, 0, none⟩)] 25)) := (Frm.refl NoB w).alloc _
  have K := hide (cnone_is (h.frm0 hf1))
  have m4 := h.c4
  have m2 := h.c2
  have m1 := h.c1
  have hlt := h.lt
  have hC := hide h
  have hG := hide hg
  have hN := hide hn
  have hD := hide hd
  have hY := hide hy
  have hVP := hide hvp
  have hXP := hide hxp
  have hM := hide hm
  have hLb := hl
  obtain ⟨Ax, cx, rfl, -⟩ := hy
  have t1 : decide (244 < b.length) = false := decide_eq_false (by omega)
  have t1' : decide ((244 : Int) < (b.length : Int)) = false := decide_eq_false (by omega)
  have t2 : decide (2147483648 ≤ cs.turn) = false := decide_eq_false (by omega)
  obtain ⟨nb, hnb⟩ : ∃ nb, b.length = nb := ⟨_, rfl⟩
  have HNB := hide hnb
  rw [hnb] at t1 t1' hLb hl ⊢
  obtain ⟨i, hi⟩ : ∃ i, nextC cs.on = i := ⟨_, rfl⟩
  have hi1 : i ≤ 1 := by have := nextC_lt cs.on; omega
  have HI := hide hi
  clear h hg hn hd hvp hxp hm hf1 hnb hi
  go_enter Try.func11, Try.ntmps11
  go_wp2_with fail
  refine K.out.mono ?_
  rintro e w' ⟨rfl, rfl⟩
  clear K
  go_upto_if 31 with fail
  go_cut [5] (fun x5 wc => x5 = .pointer (some ⟨w.heap.size + 1, 0, none⟩) ∧ wc = (w.alloc (.cells #[.pointer (some ⟨g, 0, none⟩)] 25)).alloc (.cells #[.int .i64 i] 3))
  case first =>
    by_cases h0 : cs.on = 0
    · have e1 : i = 1 := by rw [← HI.out]; unfold nextC; rw [if_pos h0]
      have q1 : (cs.on == 0) = true := by simpa using h0
      subst e1
      clear h0
      go_wp2_with fail
      go_meet
      exact ⟨rfl, rfl⟩
    · have e1 : i = 0 := by rw [← HI.out]; unfold nextC; rw [if_neg h0]
      have q1 : (cs.on == 0) = false := by simpa using h0
      subst e1
      clear h0
      go_wp2_with fail
      go_meet
      exact ⟨rfl, rfl⟩
  case rest =>
    obtain ⟨rfl, rfl⟩ := hcut
    go_upto_region 13 with fail
    have hB := (putW_blk w g i).1
    have hFP := putW_frm w g i
    have hSZ := putW_size w g i
    obtain ⟨W0, hW0⟩ : ∃ W0, putW w g i = W0 := ⟨_, rfl⟩
    have HW0 := hide hW0
    rw [hW0] at hB hFP hSZ
    unfold putW at hW0
    rw [hW0]
    clear hW0
    have k2 : W0.cell? ⟨w.heap.size, 0, none⟩ = some (.pointer (some ⟨g, 0, none⟩)) := hB.cell 0
    have mg2 := (hFP.cell (p := ⟨g, 2, none⟩) hlt (fun e => e)).trans m2
    have hgl : g < W0.heap.size := Nat.lt_of_lt_of_le hlt hFP.size
    have hHl : w.heap.size < W0.heap.size := by omega
    have u32a : IntKind.u32.wrap (cs.turn + 1) = cs.turn + 1 := by rw [IntKind.wrap_u32]; omega
    have u32b : IntKind.u32.wrap (nb : Int) = nb := by rw [IntKind.wrap_u32]; omega
    have i64a : IntKind.i64.wrap (cs.turn + 1) = cs.turn + 1 := IntWalk.i64_in _ (by omega)
    have KW : Hid (∀ W, Frm NoB W0 W → Calls Try.prog 38 #[.slice Ax nb cx] W (WordsPost W b)) := fun W hW => by
      have := wordsOf_is (hY.out.frm0 (hFP.trans hW)) (by have := HNB.out; omega)
      rwa [HNB.out] at this
    have HB := hide hB
    have HFP := hide hFP
    have HSZ := hide hSZ
    have o1 : W0.heap.size ≠ w.heap.size := by omega
    have o2 : W0.heap.size + 1 ≠ w.heap.size := by omega
    have o3 : W0.heap.size ≠ g := by omega
    have o4 : W0.heap.size + 1 ≠ g := by omega
    have hwl : (wordsOf b).length ≤ 61 := by rw [wordsOf_length, HNB.out]; omega
    clear hB hFP hSZ m1 m2 m4
    go_cut [7] (fun x7 wc => PutCut w g i (putL cs.turn b) x7 wc)
    case first =>
      go_region_held3 (fun w' => w'.cell? ⟨w.heap.size, 0, none⟩ = some (.pointer (some ⟨g, 0, none⟩)) ∧ w'.cell? ⟨g, 2, none⟩ = some (.int .i64 cs.turn)) (go_keep)
        (first
          | (go_at_call 38; ((with_reducible refine (KW.out _ (by first | exact (Frm.refl NoB _).drew | exact ((Frm.refl NoB _).alloc _).drew | exact (((Frm.refl NoB _).alloc _).alloc _).drew)).mono ?_); rintro e w3 ⟨A, cp, rfl, hr3, ha3, hz3, hf3⟩); have hF3 : Frm NoB W0 w3 := (by first | exact (Frm.refl NoB W0).drew.trans hf3 | exact ((Frm.refl NoB W0).alloc _).drew.trans hf3 | exact (((Frm.refl NoB W0).alloc _).alloc _).drew.trans hf3); (first | (have hbl := (Blk.new W0 49 #[.int .u32 (cs.turn + 1), .int .u32 nb]).drew.frm hf3 (fun e => e)) | skip); (first | (have hbl := ((Blk.new W0 49 #[.int .u32 (cs.turn + 1), .int .u32 nb]).alloc (.cells #[.slice none 0 0] 34)).drew.frm hf3 (fun e => e)) | skip); (first | (have hbl := (Blk.new (W0.alloc (.cells #[.slice none 0 0] 34)) 49 #[.int .u32 (cs.turn + 1), .int .u32 nb]).drew.frm hf3 (fun e => e); simp only [World.size_alloc] at hbl) | skip); (first | (have hbx := (Blk.new W0 34 #[.slice none 0 0]).drew.frm hf3 (fun e => e)) | skip); (first | (have hbx := ((Blk.new W0 34 #[.slice none 0 0]).alloc (.cells #[.int .u32 (cs.turn + 1), .int .u32 nb] 49)).drew.frm hf3 (fun e => e)) | skip); (first | (have hbx := (Blk.new (W0.alloc (.cells #[.int .u32 (cs.turn + 1), .int .u32 nb] 49)) 34 #[.slice none 0 0]).drew.frm hf3 (fun e => e); simp only [World.size_alloc] at hbx) | skip); have n2 := (hF3.cell (p := ⟨w.heap.size, 0, none⟩) hHl (fun e => e)).trans k2; have n0 := (hF3.cell (p := ⟨g, 2, none⟩) hgl (fun e => e)).trans mg2; have hs3 := hF3.size; have q1 := Nat.ne_of_gt (Nat.lt_of_lt_of_le hHl hs3); have q2 := Nat.ne_of_gt (Nat.lt_succ_of_lt (Nat.lt_of_lt_of_le hHl hs3)); have q3 := Nat.ne_of_gt (Nat.lt_of_lt_of_le hgl hs3); have q4 := Nat.ne_of_gt (Nat.lt_succ_of_lt (Nat.lt_of_lt_of_le hgl hs3)))
          | (refine step_append_w (by rfl) _ _ (by rfl) W0.heap.size _ 2 _ [.int .u32 (cs.turn + 1), .int .u32 nb] (wordsOf b) _ (by rfl) (by rfl) (lit_own (cs := #[.int .u32 (cs.turn + 1), .int .u32 nb]) (by first | exact hbl | exact hbl.alloc _ | exact Blk.new _ _ _ | exact (Blk.new _ _ _).alloc _ | exact blk_new2 _ _ _ _) (by first | omega | (simp; omega)) rfl (by decide)) (by first | exact hr3 | exact hr3.frm ((Frm.refl NoB _).alloc _) (fun _ _ e => e) | exact hr3.frm (((Frm.refl NoB _).alloc _).alloc _) (fun _ _ e => e)) hz3 (by omega) (by first | omega | (simp; omega)) ?_; intro A5 c5 w5 hown5 hgrow5 hat5; have hF5 : Frm NoB W0 w5 := (by first | exact hF3.grown hgrow5 (fun g hg hlt => by simp [Value.ownBlock] at hg; omega) | exact (hF3.alloc _).grown hgrow5 (fun g hg hlt => by simp [Value.ownBlock] at hg; omega) | exact ((hF3.alloc _).alloc _).grown hgrow5 (fun g hg hlt => by simp [Value.ownBlock] at hg; omega)); have n2 := (hF5.cell (p := ⟨w.heap.size, 0, none⟩) hHl (fun e => e)).trans k2; have n0 := (hF5.cell (p := ⟨g, 2, none⟩) hgl (fun e => e)).trans mg2; have hs5 := hF5.size; have p1 := Nat.ne_of_gt (Nat.lt_of_lt_of_le hHl hs5); have p3 := Nat.ne_of_gt (Nat.lt_of_lt_of_le hgl hs5); (first | (have hb5 := put_box hbx hgrow5 (own_ne (Nat.ne_of_lt (Nat.lt_succ_self _))) hat5) | skip); (first | (have hb5 := put_box hbx hgrow5 (own_ne (Nat.ne_of_gt (Nat.lt_succ_self _))) hat5) | skip); (first | (have hb5 := put_box (hbx.alloc _) hgrow5 (own_ne (Nat.ne_of_lt hbx.lt)) hat5) | skip); (first | (have hb5 := put_box (Blk.new w3 34 #[.slice none 0 0]) hgrow5 (own_ne (Nat.ne_of_gt hbl.lt)) hat5) | skip); (first | (have hb5 := put_box ((Blk.new w3 34 #[.slice none 0 0]).alloc _) hgrow5 (own_ne (Nat.ne_of_lt (Nat.lt_succ_self _))) hat5) | skip); (first | (have hb5 := put_box (Blk.new (w3.alloc (.cells #[.int .u32 (cs.turn + 1), .int .u32 nb] 49)) 34 #[.slice none 0 0]) hgrow5 (own_ne (alloc_ne _ _)) hat5) | skip); (first | (simp only [World.size_alloc] at hb5) | skip); (first | (have c7 := hb5.2.1) | skip); (first | (have z7 := hb5.2.2.1) | skip)))
      all_goals
        have HOW := hide hown5
        have HF5 := hide hF5
        (first | (have HB5 := hide (And.intro hb5.1 hb5.2.2.2)) | skip)
        clear hgrow5 hat5 hown5 hF5 n2 n0
        go_wp2_with fail
        go_meet
        first
          | exact ⟨_, A5, c5, rfl, put_fin1 HW0.out HNB.out HSZ.out HOW.out HF5.out HB5.out.1 HB5.out.2 (by first | exact Nat.le_refl _ | exact Nat.le_succ _ | exact hs3 | exact Nat.le_succ_of_le hs3)⟩
          | exact ⟨_, A5, c5, rfl, put_fin2 HW0.out HNB.out HSZ.out HOW.out HF5.out⟩
    case rest =>
      obtain ⟨L, A, cp, rfl, hL⟩ := hcut
      have hPL := putL_length cs.turn b
      have hnn := hN.out.ltp
      have hnq := hN.out.ltq
      have hgdl := hG.out.lt
      have hne := hC.out.ne hN.out
      have hned := hG.out.ne hN.out
      have hW2 := hL.f
      rw [HW0.out] at hW2
      have hsz2 := hW2.size
      have hsz0 := HSZ.out
      have hfw : Frm NoB w wc := HFP.out.trans hW2
      obtain ⟨wb, hwb⟩ : ∃ wb, wc.alloc (.cells (deedFns w.heap.size L) 88) = wb := ⟨_, rfl⟩
      have hfa : Frm NoB wc wb := by rw [← hwb]; exact (Frm.refl NoB wc).alloc _
      have hblk := putW_blk w g i
      rw [HW0.out] at hblk
      have hbs : Blk wb wc.heap.size 88 (deedFns w.heap.size L) := by rw [← hwb]; exact Blk.new _ _ _
      have hPI : PutIn wb p q g gd w.heap.size L d i A cp (putL cs.turn b) := by
        refine ⟨hblk.1.frm (hW2.trans hfa) (fun e => e), hblk.2.1.frm (hW2.trans hfa) (fun e => e), hblk.2.2.frm (hW2.trans hfa) (fun e => e), hL.b.frm hfa (fun e => e), ?_, hG.out.frm (hfw.trans hfa) (fun e => e), hL.r.frm' hfa (fun _ _ _ e => e), fun x hx => Nat.lt_of_lt_of_le (hL.a x hx).2.1 hfa.size, fun k hk => ?_⟩
        · exact ((hfw.trans hfa).cell (p := ⟨g, 0, none⟩) hlt (fun e => e)).trans hC.out.c0
        · have hl0 := hL.l0
          have ha := hL.a
          rcases hk with rfl | rfl
          · exact ⟨by omega, by omega, by omega, by omega, hne.1.symm, hned.1.symm, fun x hx => by have := ha x hx; omega⟩
          · exact ⟨by omega, by omega, by omega, by omega, hne.2.symm, hned.2.symm, fun x hx => by have := ha x hx; omega⟩
      have hu := putL_u32 ht0 ht hY.out.u (by have := HNB.out; omega : b.length ≤ 244)
      have hnb' := HNB.out
      have KA : Hid (Calls Try.prog 39 #[.slice (some ⟨wc.heap.size, 0, none⟩) 3 3] wb (DeedPost wb p q c (d.cputI s i (putL cs.turn b)).1 (d.cputI s i (putL cs.turn b)).2)) :=
        all_is hPI (hN.out.frm (hfw.trans hfa) (fun e => e) (fun e => e)) hD.out hu hL.n (by omega) hi1 hbs (fun hk => by rcases hk with e | e <;> (have e : wc.heap.size = _ := e; omega))
      have HCP : Hid (d.cput s cs b = d.cputI s i (putL cs.turn b)) := by
        show _ = _
        unfold DrvS.cput
        rw [if_neg (by omega), if_neg (by omega), HI.out]
      have HCD := hide (cputI_codes d s i (putL cs.turn b))
      have HFB := hide (hfw.trans hfa)
      have HPI := hide hPI
      have HNE := hide hne
      have HND := hide hned
      have HTWO := hide (hC.out.two hN.out)
      unfold deedFns at hwb
      rw [show w.heap.size + 2 = w.heap.size + 1 + 1 from rfl] at hwb
      clear hu hnb' hbs hblk hfa hfw hsz0 hsz2 hW2 hned hne hgdl hnn hnq hPL hL hPI KW k2 mg2 o1 o2 o3 o4 hwl
      obtain ⟨E, hE⟩ : ∃ E, (d.cputI s i (putL cs.turn b)).2 = E := ⟨_, rfl⟩
      rw [hE] at KA
      have HE := hide hE
      clear hE
      by_cases h0 : E = 0
      · subst h0
        go_wp2_with fail
        refine KA.out.mono ?_
        rintro e w5 ⟨rfl, hN5, hF5⟩
        have hfw5 : Frm (Two p q) w w5 := (HFB.out.mono (fun _ _ e => e.elim)).trans hF5
        have hP5 := HPI.out.frm hF5 (fun _ hk => hk)
        obtain ⟨k2, k5, -, -, k0⟩ := hP5.cells
        have hC5 := hC.out.frm hfw5 HTWO.out hVP.out
        have mg2 := hC5.c2
        have mg1 := hC5.c1
        have mg3 := hC5.c3
        have z1 := hC5.fz 1
        have z2 := hC5.fz 2
        have z3 := hC5.fz 3
        have i64a : IntKind.i64.wrap (cs.turn + 1) = cs.turn + 1 := IntWalk.i64_in _ (by omega)
        have hlt5 := hC5.lt
        have hg1 : w.heap.size ≠ g := by omega
        have hg2 : w.heap.size + 1 ≠ g := by omega
        have hg3 : g ≠ w.heap.size := by omega
        have hg4 : g ≠ w.heap.size + 1 := by omega
        have hh2 := hP5.c2.lt
        have hh5 := hP5.c5.lt
        have KC : Hid (∀ W, Frm NoB w5 W → Calls Try.prog 45 #[.slice Ax nb cx] W (ClonePost w5 b)) := fun W hW => by
          have := clone_is (hY.out.frm1 (hfw5.trans (hW.mono (fun _ _ e => e.elim))) (fun e k hk hk2 => hXP.out e k hk (by rcases hk2 with h | h; exact .inl h; exact .inr (.inl h)))) (by have := HNB.out; omega)
          rw [HNB.out] at this
          refine this.mono ?_
          rintro e w' ⟨v', he, h1, h2, h3⟩
          exact ⟨v', he, h1, fun k hk => Nat.le_trans hW.size (h2 k hk), hW.trans h3⟩
        have HN5 := hide hN5
        have HFW5 := hide hfw5
        have HC5 := hide hC5
        clear hN5 hF5 hfw5 hP5 hC5 KA hwb i64a
        have i64a : IntKind.i64.wrap (cs.turn + 1) = cs.turn + 1 := IntWalk.i64_in _ (by omega)
        go_wp2_with fail
        refine region_until [0, 0, 0, 0, 0, 0, 0, 1, 0, 0, 2, 0, 0, 2, 0, 0, 2, 0, 0, 2] 16 (fun W => W.cell? ⟨w.heap.size, 0, none⟩ = some (.pointer (some ⟨g, 0, none⟩)) ∧ W.cell? ⟨w.heap.size + 1, 0, none⟩ = some (.int .i64 i)) (fun W => W.cell? ⟨g, 2, none⟩ = some (.int .i64 cs.turn)) (by kernel_rfl) (by kernel_rfl) (by decide) (by kernel_rfl) ⟨k2, k5⟩ mg2 ?_
        iterate 7
          refine wpMixU_take ?_ (by rfl) (fun w0 hS => ?_) ?_
          rotate_left
          · obtain ⟨e1, e2⟩ := hS
            go_simp
            try with_reducible rfl
          try simp only [Act.put, List.setIfInBounds_toArray, List.set_cons_zero, List.set_cons_succ]
        refine wpMixU_take1 ?_ (by rfl) (fun w0 hS => ?_) ?_
        rotate_left
        · obtain ⟨⟨e1, e2⟩, e3⟩ := hS
          go_simp
          try with_reducible rfl
        try simp only [Act.put, List.setIfInBounds_toArray, List.set_cons_zero, List.set_cons_succ]
        iterate 2
          refine wpMixU_take ?_ (by rfl) (fun w0 hS => ?_) ?_
          rotate_left
          · obtain ⟨e1, e2⟩ := hS
            go_simp
            try with_reducible rfl
          try simp only [Act.put, List.setIfInBounds_toArray, List.set_cons_zero, List.set_cons_succ]
        refine wpMixU_alone (by rfl) (fun K hK => ?_)
        go_simp
        go_at_call 45
        refine (KC.out _ (Frm.refl NoB w5).drew).mono ?_
        rintro e w6 ⟨v', rfl, hy6, hv6, hf6⟩
        obtain ⟨A6, n6, c6, rfl⟩ := hy6.form
        have k2 := (hf6.cell (p := ⟨w.heap.size, 0, none⟩) hh2 (fun e => e)).trans k2
        have k5 := (hf6.cell (p := ⟨w.heap.size + 1, 0, none⟩) hh5 (fun e => e)).trans k5
        have hk6 : w.heap.size < w6.heap.size := Nat.lt_of_lt_of_le hh2 hf6.size
        have hk7 : w.heap.size + 1 < w6.heap.size := Nat.lt_of_lt_of_le hh5 hf6.size
        have hC6 := HC5.out.frm0 hf6
        have r1 := hC6.c1
        have r2 := hC6.c2
        have r3 := hC6.c3
        have s1 := hC6.fz 1
        have s2 := hC6.fz 2
        have s3 := hC6.fz 3
        have HY6 := hide hy6
        have HV6 := hide hv6
        have HF6 := hide hf6
        have HC6 := hide hC6
        clear hy6 hv6 hf6 hC6
        refine hK _ _ ⟨k2, k5⟩ (fun _ => r2) ?_
        clear hK K
        try simp only [Act.put, List.setIfInBounds_toArray, List.set_cons_zero, List.set_cons_succ]
        iterate 2
          refine wpMixU_take ?_ (by rfl) (fun w0 hS => ?_) ?_
          rotate_left
          · obtain ⟨e1, e2⟩ := hS
            go_simp
            try with_reducible rfl
          try simp only [Act.put, List.setIfInBounds_toArray, List.set_cons_zero, List.set_cons_succ]
        refine wpMixU_alone (by rfl) (fun K hK => ?_)
        go_simp
        refine hK _ _ ⟨(((Frm.refl (One g) w6).set1 1 (.int .i64 i)).cell (p := ⟨w.heap.size, 0, none⟩) hk6 hg1).trans k2, (((Frm.refl (One g) w6).set1 1 (.int .i64 i)).cell (p := ⟨w.heap.size + 1, 0, none⟩) hk7 hg2).trans k5⟩ (fun _ => (World.cell?_setCell_other w6 ⟨g, 1, none⟩ ⟨g, 2, none⟩ (.int .i64 i) (by simp)).trans r2) ?_
        clear hK K
        try simp only [Act.put, List.setIfInBounds_toArray, List.set_cons_zero, List.set_cons_succ]
        iterate 2
          refine wpMixU_take ?_ (by rfl) (fun w0 hS => ?_) ?_
          rotate_left
          · obtain ⟨e1, e2⟩ := hS
            go_simp
            try with_reducible rfl
          try simp only [Act.put, List.setIfInBounds_toArray, List.set_cons_zero, List.set_cons_succ]
        refine wpMixU_alone (by rfl) (fun K hK => ?_)
        go_simp
        refine hK _ _ ⟨((((Frm.refl (One g) w6).set1 1 (.int .i64 i)).set1 2 (.int .i64 (cs.turn + 1))).cell (p := ⟨w.heap.size, 0, none⟩) hk6 hg1).trans k2, ((((Frm.refl (One g) w6).set1 1 (.int .i64 i)).set1 2 (.int .i64 (cs.turn + 1))).cell (p := ⟨w.heap.size + 1, 0, none⟩) hk7 hg2).trans k5⟩ (fun h => absurd h (by decide)) ?_
        clear hK K
        try simp only [Act.put, List.setIfInBounds_toArray, List.set_cons_zero, List.set_cons_succ]
        iterate 2
          refine wpMixU_take ?_ (by rfl) (fun w0 hS => ?_) ?_
          rotate_left
          · obtain ⟨e1, e2⟩ := hS
            go_simp
            try with_reducible rfl
          try simp only [Act.put, List.setIfInBounds_toArray, List.set_cons_zero, List.set_cons_succ]
        refine wpMixU_alone (by rfl) (fun K hK => ?_)
        go_simp
        refine hK _ _ ⟨(((((Frm.refl (One g) w6).set1 1 (.int .i64 i)).set1 2 (.int .i64 (cs.turn + 1))).set1 3 (.slice A6 n6 c6)).cell (p := ⟨w.heap.size, 0, none⟩) hk6 hg1).trans k2, (((((Frm.refl (One g) w6).set1 1 (.int .i64 i)).set1 2 (.int .i64 (cs.turn + 1))).set1 3 (.slice A6 n6 c6)).cell (p := ⟨w.heap.size + 1, 0, none⟩) hk7 hg2).trans k5⟩ (fun h => absurd h (by decide)) ?_
        clear hK K
        try simp only [Act.put, List.setIfInBounds_toArray, List.set_cons_zero, List.set_cons_succ]
        refine wpMixU_nil ?_
        refine NoPanic.normal ?_
        go_wp2
        go_ret
        have hs6 : Frm (One g) w6 (((w6.setCell ⟨g, 1, none⟩ (.int .i64 i)).setCell ⟨g, 2, none⟩ (.int .i64 (cs.turn + 1))).setCell ⟨g, 3, none⟩ (.slice A6 n6 c6)) := (((Frm.refl _ w6).set1 _ _).set1 _ _).set1 _ _
        have hv7 : ∀ k, RowB (.slice A6 n6 c6) k → w.heap.size ≤ k := fun k hk => Nat.le_trans HFW5.out.size (HV6.out k hk)
        have hon : i = nextC cs.on := HI.out.symm
        refine ⟨by rw [HCP.out, HE.out]; rfl, ?_, ?_, fun _ => ⟨_, ?_, hv7⟩, fun h => ?_, fun h => ?_⟩
        · rw [HCP.out]
          exact (HN5.out.frm HF6.out (fun e => e) (fun e => e)).frm hs6 (fun e => HNE.out.1 e.symm) (fun e => HNE.out.2 e.symm)
        · exact ((Tri.of_two HFW5.out).trans (Tri.of_no HF6.out)).trans (Tri.of_one hs6)
        · subst hon
          exact HC6.out.set3 HY6.out (fun k hk => by have := HV6.out k hk; omega)
        · rw [HCP.out, HE.out] at h; omega
        · rw [HCP.out, HE.out] at h; exact absurd rfl h
      · have q0 : (E != 0) = true := by simpa using h0
        have H0 := hide h0
        clear h0
        go_wp2_with fail
        refine KA.out.mono ?_
        rintro e w5 ⟨rfl, hN5, hF5⟩
        have hfw5 : Frm (Two p q) w w5 := (HFB.out.mono (fun _ _ e => e.elim)).trans hF5
        have hP5 := HPI.out.frm hF5 (fun _ hk => hk)
        obtain ⟨k2, k5, -, -, k0⟩ := hP5.cells
        have hC5 := hC.out.frm hfw5 HTWO.out hVP.out
        have mg4 := hC5.c4
        have z4 := hC5.fz 4
        have HN5 := hide hN5
        have HFW5 := hide hfw5
        have HC5 := hide hC5
        clear hN5 hF5 hfw5 hP5 hC5 KA hwb
        go_wp2
        go_ret
        have hs6 : Frm (One g) w5 (w5.setCell ⟨g, 4, none⟩ (.bool true)) := (Frm.refl _ w5).set1 _ _
        refine ⟨by rw [HCP.out, HE.out]; rfl, ?_, ?_, fun h => ?_, fun h => ?_, fun _ _ _ => ?_⟩
        · rw [HCP.out]
          exact HN5.out.frm hs6 (fun e => HNE.out.1 e.symm) (fun e => HNE.out.2 e.symm)
        · exact (Tri.of_two HFW5.out).trans (Tri.of_one hs6)
        · rw [HCP.out, HE.out] at h; exact absurd h H0.out
        · rw [HCP.out] at h
          rcases h with h | h
          · exact absurd h HCD.out.1
          · exact absurd h HCD.out.2
        · exact HC5.out.set_over true
end
end Go.Proofs.Ytiapoalkkhpmlaa

/-
  Bytes that were just laid.
-/
namespace Go.Proofs.Ytiapoalkkhpmlaa
open Go.RowKit
theorem by_lit' (w : World) (g : Nat) (hg : w.heap.size = g) (ys : List Int) (u : U8 ys) (hl : ys.length ≤ 16777216) (cs : Array Value) (hcs : cs = (ints .u8 ys).toArray) (n : Nat) (hn : ys.length = n) : By (w.alloc (.cells cs 5)) (.slice (some ⟨g, 0, none⟩) n n) ys := by
  subst hg; exact by_lit w ys u hl cs hcs n hn
theorem Blk.new' (w : World) (g : Nat) (hg : w.heap.size = g) (t : TypeId) (cs : Array Value) : Blk (w.alloc (.cells cs t)) g t cs := by
  subst hg; exact Blk.new w t cs
/-- bytes of a constant string, just laid -/
theorem by_mark (w : World) (ys : List Int) (u : U8 ys) (hl : ys.length ≤ 16777216) (cs : Array Value) (hcs : cs = (ints .u8 ys).toArray) (n : Nat) (hn : ys.length = n) (fr : Nat × Nat) : By (w.alloc (.cells cs 5 fr)) (.slice (some ⟨w.heap.size, 0, none⟩) n n) ys := by
  subst hcs hn
  refine ⟨_, _, rfl, fun _ => ⟨w.heap.size, 0, rfl, fun i v hv => ?_⟩, (fun e => by cases e), Nat.le_refl _, by omega, u⟩
  rw [Nat.zero_add, World.cell?_alloc_mark]
  simpa using hv
theorem const_bytes (w : World) (C : Array Value) (n c : Nat) : (convert 28 28 (.slice (some ⟨w.heap.size, 0, none⟩) n c)).run Try.prog (w.alloc (.cells C 5)) = .ok (.slice (some ⟨w.heap.size, 0, none⟩) n c) (w.alloc (.cells C 5 (C.size, C.size + 1))) :=
  Lib.run_convert_bytes_const w 28 5 C n c Try.underlying28 Try.underlying5
end Go.Proofs.Ytiapoalkkhpmlaa

/-
  A flash of a call's own, and drives of it; the statements' 'reads'. (Printed: wip/drvrd.py)
-/
namespace Go.Proofs.Ytiapoalkkhpmlaa
open Go.RowKit
theorem DrvS.ok_dec {d : DrvS} {s : NorS} (h : decide (1 ≤ d.many ∧ d.first + d.many ≤ s.n) = true) : d.Ok s := by
  have h := of_decide_eq_true h
  exact ⟨h.1, h.2⟩
section
variable {w0 w w' : World} {g p q c : Nat} {s : NorS} {d : DrvS}
theorem dreads_is (a : Int) (l : List Int) (B : Option Addr) (cp : Nat) (h : DrvAt w g p d) (hn : NorAt w p q c s) (hd : d.Ok s) (hx : l ≠ [] → ∀ x, B = some x → x.block < w.heap.size) (hr : Rd w B (ints .u32 l)) (hl : (l.length : Int) ≤ 9223372036854775807) :
    Calls Try.prog 53 #[.pointer (some ⟨g, 0, none⟩), .int .i64 a, .slice B l.length cp] w fun e w' => e = .returned (.bool (decide (d.rdE s a l.length = 0 ∧ d.rd s a l.length = l))) ∧ Frm NoB w w' := by
  have HR := hide (dread_is (a := a) (m := (l.length : Int)) h hn hd)
  have HX := hide hr
  have HB := hide hx
  have hlen : ((d.rd s a l.length).length : Int) ≤ 9223372036854775807 := by
    unfold DrvS.rd DrvS.words
    split
    · simp; omega
    · simp
  have HL := hide hlen
  clear h hn hd hx hr hlen
  obtain ⟨k, hk⟩ : ∃ k, d.rdE s a l.length = k := ⟨_, rfl⟩
  obtain ⟨m, hm⟩ : ∃ m, d.rd s a l.length = m := ⟨_, rfl⟩
  have HK := hide hk
  have HM := hide hm
  rw [hm] at HL
  clear hk hm
  by_cases he : k = 0
  · have hb : (k == 0) = true := by simpa using he
    have HE := hide he
    clear he
    go_enter Try.func53, Try.ntmps53
    go_wp2_with (first
      | (go_at_call 13; refine HR.out.mono ?_; rintro e w1 ⟨A1, cp1, h1, hRd, hA1, hcp1, hF⟩; rw [HK.out, HM.out] at h1; rw [HM.out] at hRd; subst h1; have HRd := hide hRd; have HF := hide hF; clear hRd hA1 hcp1 hF)
      | (go_at_call 15; refine (sameWords_is m l _ _ _ _ _ HRd.out (Rd.frm' HX.out HF.out (fun _ _ _ e => e)) HL.out).mono ?_; rintro e w2 ⟨rfl, m2, rfl⟩))
    go_ret
    refine ⟨ret_bool ?_, HF.out.drewN m2⟩
    rw [HK.out, HM.out]
    simp [HE.out, same]
  · have hb : (k == 0) = false := by simpa using he
    have HE := hide he
    clear he
    go_enter Try.func53, Try.ntmps53
    go_wp2_with (first
      | (go_at_call 13; refine HR.out.mono ?_; rintro e w1 ⟨A1, cp1, h1, hRd, hA1, hcp1, hF⟩; rw [HK.out, HM.out] at h1; rw [HM.out] at hRd; subst h1; have HRd := hide hRd; have HF := hide hF; clear hRd hA1 hcp1 hF))
    go_ret
    refine ⟨ret_bool ?_, HF.out⟩
    rw [HK.out]
    simp [HE.out]
theorem ownd_open (a m : Nat) (h : Own w0 w p q c s) (hm : 1 ≤ m) (hs : a + m ≤ s.n) :
    Calls Try.prog 23 #[.pointer (some ⟨p, 0, none⟩), .int .i64 a, .int .i64 m] w fun e w' => ∃ g, e = .returned (.tuple #[.pointer (some ⟨g, 0, none⟩), .int .i64 0]) ∧ DrvAt w' g p ⟨a, m⟩ ∧ Own w0 w' p q c s ∧ w.heap.size ≤ g ∧ Frm NoB w w' := by
  refine (dopen_is a m h.n hm hs).mono ?_
  rintro e w' ⟨rfl, rfl⟩
  have hf : Frm NoB w (w.alloc (.cells (drvCells p ⟨a, m⟩) 92)) := (Frm.refl NoB w).alloc _
  exact ⟨w.heap.size, rfl, ⟨Blk.new _ _ _⟩, h.frm hf, Nat.le_refl _, hf⟩
theorem DrvAt.own {w2 : World} (h : DrvAt w g p d) (ho : Own w0 w p q c s) (hf : Frm (Two p q) w w2) : DrvAt w2 g p d := h.frm hf (h.two ho.n)
theorem ownd_write (a : Int) (xs : List Int) (h : Own w0 w p q c s) (hg : DrvAt w g p d) (hd : d.Ok s) (ux : U32 xs) (hm : (xs.length : Int) ≤ 9223372036854775807) (n : Nat) (hn : xs.length = n) (cs : Array Value) (hcs : cs = (ints .u32 xs).toArray) :
    Calls Try.prog 43 #[.pointer (some ⟨g, 0, none⟩), .int .i64 a, .slice (some ⟨w.heap.size, 0, none⟩) n n] (w.alloc (.cells cs 49)) fun e w' => e = .returned (.int .i64 (d.wrE s a xs)) ∧ Own w0 w' p q c (d.wr s a xs) ∧ Frm (Two p q) w w' := by
  subst hcs
  have hA := h.alloc (.cells (ints .u32 xs).toArray 49)
  have hf0 : Frm NoB w (w.alloc (.cells (ints .u32 xs).toArray 49)) := (Frm.refl NoB w).alloc _
  refine (dwrite_at a _ n n xs hn (hg.frm hf0 (fun e => e)) hA.n hd (rd_lit w _ _) (fun _ x hx => ?_) ux (by omega) hm).mono ?_
  · injection hx with hx
    subst hx
    have h1 := h.n.ltp; have h2 := h.n.ltq
    refine ⟨fun e => ?_, by simp⟩
    rcases e with e | e
    · exact absurd e (by show ¬ w.heap.size = p; omega)
    · exact absurd e (by show ¬ w.heap.size = q; omega)
  · rintro e w' ⟨rfl, hn, hf⟩
    exact ⟨rfl, hA.step hn hf, (hf0.mono (fun _ _ e => e.elim)).trans hf⟩
theorem ownd_reads (a : Int) (xs : List Int) (h : Own w0 w p q c s) (hg : DrvAt w g p d) (hd : d.Ok s) (hm : (xs.length : Int) ≤ 9223372036854775807) (n : Nat) (hn : xs.length = n) (cs : Array Value) (hcs : cs = (ints .u32 xs).toArray) (b : Bool) (hb : decide (d.rdE s a xs.length = 0 ∧ d.rd s a xs.length = xs) = b) :
    Calls Try.prog 53 #[.pointer (some ⟨g, 0, none⟩), .int .i64 a, .slice (some ⟨w.heap.size, 0, none⟩) n n] (w.alloc (.cells cs 49)) fun e w' => e = .returned (.bool b) ∧ Own w0 w' p q c s ∧ Frm NoB w w' := by
  subst hcs hn hb
  have hA := h.alloc (.cells (ints .u32 xs).toArray 49)
  have hf0 : Frm NoB w (w.alloc (.cells (ints .u32 xs).toArray 49)) := (Frm.refl NoB w).alloc _
  refine (dreads_is a xs _ _ (hg.frm hf0 (fun e => e)) hA.n hd (fun _ x hx => ?_) (rd_lit w _ _) hm).mono ?_
  · injection hx with hx
    subst hx
    simp
  · rintro e w' ⟨rfl, hf⟩
    exact ⟨rfl, hA.frm hf, hf0.trans hf⟩
end
end Go.Proofs.Ytiapoalkkhpmlaa

/-
  A cell of a call's own; made, has, awake.
-/
namespace Go.Proofs.Ytiapoalkkhpmlaa
open Go.RowKit
/-- a flash, a drive of it, and a cell, all of a call's own; the cell tells what the drive has -/
structure OwnC (w0 w : World) (p q c gd g : Nat) (v : Value) (d : DrvS) (s : NorS) : Prop where
  o : Own w0 w p q c s
  dr : DrvAt w gd p d
  t : CelAt w g gd (clook (d.fn s)) v false
  g0 : w0.heap.size ≤ g
  vn : ∀ k, RowB v k → w0.heap.size ≤ k ∧ k ≠ p ∧ k ≠ q
  dk : d.Ok s
  m : d.many = 2
section
variable {w0 w w' : World} {p q c gd g : Nat} {v vx : Value} {d : DrvS} {s : NorS} {b : List Int}
theorem OwnC.frm (h : OwnC w0 w p q c gd g v d s) (hf : Frm NoB w w') : OwnC w0 w' p q c gd g v d s :=
  ⟨h.o.frm hf, h.dr.frm hf (fun e => e), h.t.frm0 hf, h.g0, h.vn, h.dk, h.m⟩
theorem Own.tri7 (h : Own w0 w p q c s) (k : Frm (Tri p q g) w w') (hg : w0.heap.size ≤ g) : Frm NoB w0 w' :=
  h.f.then_ k (fun i hi e => by have := h.p0; have := h.q0; rcases e with e | e | e <;> omega)
theorem OwnC.small (h : OwnC w0 w p q c gd g v d s) : U8 (clook (d.fn s)).b ∧ (clook (d.fn s)).b.length ≤ 244 := clook_b (fun i => (DrvS.fn_u32 h.o.n.ok i).1)
theorem OwnC.turn (h : OwnC w0 w p q c gd g v d s) : 0 ≤ (clook (d.fn s)).turn ∧ (clook (d.fn s)).turn ≤ 2147483648 := clook_turn (fun i => (DrvS.fn_u32 h.o.n.ok i).1)
theorem OwnC.two (h : OwnC w0 w p q c gd g v d s) : (clook (d.fn s)).b ≠ [] → ∀ k, RowB v k → ¬ Two p q k := fun _ k hk e => by
  have := h.vn k hk
  rcases e with e | e
  · exact this.2.1 e
  · exact this.2.2 e
/-- Put, whatever comes -/
theorem cput_is (h : CelAt w g gd (clook (d.fn s)) v false) (hg : DrvAt w gd p d) (hn : NorAt w p q c s) (hd : d.Ok s) (hm : d.many = 2) (hy : By w vx b)
    (hvp : (clook (d.fn s)).b ≠ [] → ∀ k, RowB v k → ¬ Two p q k) (hxp : b ≠ [] → ∀ k, RowB vx k → ¬ Tri p q g k) :
    Calls Try.prog 11 #[.pointer (some ⟨g, 0, none⟩), vx] w (CPutPost w p q c g gd d s (clook (d.fn s)) v b) := by
  have ht := clook_turn (f := d.fn s) (fun i => (DrvS.fn_u32 hn.ok i).1)
  by_cases hb : 244 < b.length ∨ 2147483648 ≤ (clook (d.fn s)).turn
  · exact cput_bad h hn hy hb hvp
  · exact cput_go h hg hn hd hm hy (by omega) ht.1 (by omega) hvp hxp
/-- what a put that is OK leaves of the cell -/
theorem DrvS.cput_ok (hs : s.Ok) (hd : d.Ok s) (hb : U8 b) (h : (d.cput s (clook (d.fn s)) b).2 = 0) :
    b.length ≤ 244 ∧ (clook (d.fn s)).turn < 2147483648 ∧ clook (d.fn (d.cput s (clook (d.fn s)) b).1) = ⟨nextC (clook (d.fn s)).on, (clook (d.fn s)).turn + 1, b⟩ ∧
    (d.cput s (clook (d.fn s)) b).1.down = false ∧ (d.cput s (clook (d.fn s)) b).1.half = s.half ∧
    ∀ k, d.fn (d.cput s (clook (d.fn s)) b).1 k = laidF (laidF (onesTo (d.fn s) (64 * nextC (clook (d.fn s)).on) 64) (64 * nextC (clook (d.fn s)).on) (putL (clook (d.fn s)).turn b)) (64 * nextC (clook (d.fn s)).on + 63) [0] k := by
  have ht := clook_turn (f := d.fn s) (fun i => (fn_u32 hs i).1)
  by_cases h1 : 244 < b.length
  · unfold cput at h; rw [if_pos h1] at h; cases h
  by_cases h2 : 2147483648 ≤ (clook (d.fn s)).turn
  · unfold cput at h; rw [if_neg h1, if_pos h2] at h; cases h
  have hpl := putL_length (clook (d.fn s)).turn b
  unfold cput at h ⊢
  rw [if_neg h1, if_neg h2] at h ⊢
  have ok := cputI_ok hs hd (by omega) h
  exact ⟨by omega, by omega, put_look hb (by omega) ht.1 (by omega) ok.2.2.2.2, ok.2.2.1, ok.2.2.2.1, ok.2.2.2.2⟩
theorem ownc_put (h : OwnC w0 w p q c gd g v d s) (hy : By w vx b) (hxp : b ≠ [] → ∀ k, RowB vx k → ¬ Tri p q g k) (hz : (d.cput s (clook (d.fn s)) b).2 = 0) :
    Calls Try.prog 11 #[.pointer (some ⟨g, 0, none⟩), vx] w fun e w' => ∃ v', e = .returned (.int .i64 0) ∧ OwnC w0 w' p q c gd g v' d (d.cput s (clook (d.fn s)) b).1 ∧ (∀ k, RowB v' k → w.heap.size ≤ k) ∧ Frm (Tri p q g) w w' := by
  refine (cput_is h.t h.dr h.o.n h.dk h.m hy h.two hxp).mono ?_
  rintro e w' ⟨rfl, hN, hF, hOK, -, -⟩
  obtain ⟨v', hC, hv⟩ := hOK hz
  have hu := hy.u
  obtain ⟨-, -, hl, -⟩ := DrvS.cput_ok h.o.n.ok h.dk hu hz
  refine ⟨v', by rw [hz], ⟨⟨hN, h.o.tri7 hF h.g0, h.o.p0, h.o.q0⟩, h.dr.frm hF (fun e => ?_), ?_, h.g0, fun k hk => ?_, h.dk.n' DrvS.cput_n, h.m⟩, hv, hF⟩
  · have h1 := h.dr.ne h.o.n
    have h2 := h.t.ned h.dr
    rcases e with e | e | e
    · exact h1.1 e
    · exact h1.2 e
    · exact h2 e
  · rw [hl]; exact hC
  · have := hv k hk
    have := h.o.n.ltp; have := h.o.n.ltq; have := h.o.f.size
    omega
theorem ownc_open (h : Own w0 w p q c s) (hd : DrvAt w gd p d) (hk : d.Ok s) (hm : d.many = 2) (hdn : s.down = false) :
    Calls Try.prog 14 #[.pointer (some ⟨gd, 0, none⟩)] w fun e w' => ∃ g v, e = .returned (.tuple #[.pointer (some ⟨g, 0, none⟩), .int .i64 0]) ∧ OwnC w0 w' p q c gd g v d s ∧ w.heap.size ≤ g ∧ (∀ k, RowB v k → w.heap.size ≤ k) ∧ Frm NoB w w' := by
  refine (copen_is hd h.n hk hm hdn).mono ?_
  rintro e w' ⟨g, v, rfl, hC, hv, hg, hF⟩
  refine ⟨g, v, rfl, ⟨h.frm hF, hd.frm hF (fun e => e), hC, Nat.le_trans h.f.size hg, fun k hk => ?_, hk, hm⟩, hg, hv, hF⟩
  have := hv k hk
  have := h.n.ltp; have := h.n.ltq; have := h.f.size
  omega
theorem ownc_get (h : OwnC w0 w p q c gd g v d s) : Calls Try.prog 12 #[.pointer (some ⟨g, 0, none⟩)] w (CGetPost w (clook (d.fn s))) :=
  cget_is h.t (by have := h.small.2; omega)
set_option maxRecDepth 100000 in
theorem has_is {cs : CelS} {over : Bool} (h : CelAt w g gd cs v over) (hl : cs.b.length ≤ 16777216) (turn : Int) (x : ByteArray) (h1 : decide (0 < turn) = decide (0 ≤ cs.on)) (h2 : strOfNums (if 0 ≤ cs.on then cs.b else []) = x) (h3 : cs.turn = turn) :
    Calls Try.prog 35 #[.pointer (some ⟨g, 0, none⟩), .int .i64 turn, .string x] w fun e w' => e = .returned (.bool true) ∧ Frm NoB w w' := by
  have KG := hide (cget_is h hl)
  obtain ⟨X, hX⟩ : ∃ X, (if 0 ≤ cs.on then cs.b else []) = X := ⟨_, rfl⟩
  have HX := hide hX
  rw [hX] at h2
  clear hX
  subst h2
  have KT : Hid (∀ W, Frm NoB w W → Calls Try.prog 17 #[.pointer (some ⟨g, 0, none⟩)] W fun e w' => e = .returned (.int .i64 turn) ∧ W = w') := fun W hW => by
    rw [← h3]; exact cturn_is (h.frm0 hW)
  obtain ⟨B, hB⟩ : ∃ B, decide (0 ≤ cs.on) = B := ⟨_, rfl⟩
  have HB := hide hB
  rw [hB] at h1
  clear h h3 hl hB
  go_enter Try.func35, Try.ntmps35
  go_wp2_with fail
  refine KG.out.mono ?_
  rintro e w1 ⟨v', rfl, hy, -, hF⟩
  rw [HB.out]
  rw [HX.out] at hy
  have q1 := hy.string
  have HF := hide hF
  clear hy hF KG
  go_wp2_with fail
  refine (KT.out _ HF.out).mono ?_
  rintro e w' ⟨rfl, rfl⟩
  go_wp2
  go_ret
  exact ⟨rfl, HF.out⟩
end
/-- the flash, and the drive, of made -/
def cm0 : NorS := NorS.new 3 0
def cmD : DrvS := ⟨1, 2⟩
theorem cmD_ok : cmD.Ok cm0 := ⟨by decide, by decide⟩
theorem new_ok {n : Nat} {g : Nat} (h1 : 1 ≤ n) (h2 : n ≤ 1024) (hg : g ≤ n) : (NorS.new n g).Ok := by
  refine ⟨by show (List.replicate (64 * n) _).length = _; rw [List.length_replicate]; rfl, h1, h2, by show (0 : Int) ≤ (g : Int); omega, by show (g : Int) ≤ (n : Int); omega, by show (-1 : Int) ≤ -1; decide, by show (-1 : Int) ≤ _; decide, by show (-1 : Int) ≤ -1; decide, by show (-1 : Int) < (n : Int); omega, fun x hx => ?_⟩
  have hx : x ∈ List.replicate (64 * n) (4294967295 : Int) := hx
  rw [List.eq_of_mem_replicate hx]; omega
theorem cm0_ok : cm0.Ok := new_ok (n := 3) (g := 0) (by omega) (by omega) (by omega)
theorem blank_wd {n : Nat} {g : Int} (i : Nat) (h : i < 64 * n) : (NorS.new n g).wd i = 4294967295 := by
  unfold NorS.wd
  rw [show (NorS.new n g).l = List.replicate (64 * n) 4294967295 from rfl, List.getD_eq_getElem?_getD, List.getElem?_replicate, if_pos h]; rfl
/-- of a blank drive nothing is told -/
theorem blank_look {d : DrvS} {s : NorS} (h : ∀ i, i < 128 → d.fn s i = 4294967295) : clook (d.fn s) = ⟨-1, 0, []⟩ := by
  have h0 : whl (d.fn s) 0 = false := by unfold whl; rw [h (0 + 63) (by omega)]; rfl
  have h1 : whl (d.fn s) 64 = false := by unfold whl; rw [h (64 + 63) (by omega)]; rfl
  unfold clook
  rw [if_neg (by rw [h0]; simp), if_neg (by rw [h1]; simp)]
theorem cm0_fn (i : Nat) (h : i < 128) : cmD.fn cm0 i = 4294967295 := blank_wd _ (by show 64 + i < 192; omega)
theorem cm0_calm : DrvS.Calm cm0 := ⟨rfl, rfl⟩
theorem cm0_look : clook (cmD.fn cm0) = ⟨-1, 0, []⟩ := blank_look cm0_fn
def CMadePost (w : World) (e : Ending) (w' : World) : Prop := ∃ p q c gd g v, e = .returned (.tuple #[.pointer (some ⟨p, 0, none⟩), .pointer (some ⟨gd, 0, none⟩), .pointer (some ⟨g, 0, none⟩), .bool true]) ∧ OwnC w w' p q c gd g v cmD cm0 ∧ w.heap.size ≤ gd
theorem cmade_is (w : World) : Calls Try.prog 9 #[] w (CMadePost w) := by
  go_enter Try.func9, Try.ntmps9
  go_wp2_with fail
  refine (own_new 3 0 (Frm.refl NoB w) (by omega) (by omega) (by omega)).mono ?_
  rintro e w1 ⟨p, q, c, rfl, hN, hp, hq, hF⟩
  have HN : Hid (Own w w1 p q c cm0) := hN
  clear hN hp hq hF
  go_wp2_with fail
  refine (ownd_open 1 2 HN.out (by omega) (by decide)).mono ?_
  rintro e w2 ⟨gd, rfl, hG, hN, hg, hF⟩
  have HN2 : Hid (Own w w2 p q c cm0) := hN
  have HG2 : Hid (DrvAt w2 gd p cmD) := hG
  have hgd : w.heap.size ≤ gd := Nat.le_trans HN.out.f.size hg
  have HGD := hide hgd
  clear hG hN hg hF HN hgd
  go_wp2_with fail
  refine (ownc_open HN2.out HG2.out cmD_ok rfl rfl).mono ?_
  rintro e w3 ⟨g, v, rfl, hT, hg, -, hF⟩
  have HT := hide hT
  clear hT hg hF
  go_wp2
  exact bodyPost_ret (v := .tuple #[.pointer (some ⟨p, 0, none⟩), .pointer (some ⟨gd, 0, none⟩), .pointer (some ⟨g, 0, none⟩), .bool true]) (by simp [results, Try.results9, go_sem]) rfl ⟨p, q, c, gd, g, v, rfl, HT.out, HGD.out⟩
end Go.Proofs.Ytiapoalkkhpmlaa

/-
  Plain: what 'reads' tells, by what the drive's words are.
-/
namespace Go.Proofs.Ytiapoalkkhpmlaa
open Go.RowKit
/-- words of a drive, by what its words are -/
theorem words_of {d : DrvS} {s : NorS} (hs : s.Ok) (hd : d.Ok s) {a : Nat} {l : List Int} (hl : a + l.length ≤ d.many * 64) (hf : ∀ i, i < l.length → d.fn s (a + i) = l.getD i 0) : d.words s a l.length = l := by
  have h1 := DrvS.words_length hs hd (a := a) (m := l.length) hl
  apply NorS.ext_getD h1
  intro j hj
  rw [h1] at hj
  rw [DrvS.words_get hj, Nat.add_assoc]
  exact hf j hj
theorem reads_true {d : DrvS} {s : NorS} (hs : s.Ok) (hd : d.Ok s) (hdn : s.down = false) {a : Nat} {l : List Int} (hl : a + l.length ≤ d.many * 64) (hf : ∀ i, i < l.length → d.fn s (a + i) = l.getD i 0) :
    decide (d.rdE s (a : Int) l.length = 0 ∧ d.rd s (a : Int) l.length = l) = true := by
  have hE : d.rdE s (a : Int) l.length = 0 := DrvS.rdE_ok hdn ⟨by omega, by omega, by omega, by omega⟩
  refine decide_eq_true ⟨hE, ?_⟩
  unfold DrvS.rd
  rw [if_pos hE, Int.toNat_natCast, Int.toNat_natCast]
  exact words_of hs hd hl hf
end Go.Proofs.Ytiapoalkkhpmlaa

/-
  The cell: the chapter's examples.
-/
namespace Go.Proofs.Ytiapoalkkhpmlaa
open Go.RowKit
/-- a put on a flash that is up -/
structure PutOk (d : DrvS) (s : NorS) (b : List Int) (cs : CelS) (s' : NorS) : Prop where
  z : (d.cput s (clook (d.fn s)) b).2 = 0
  e : (d.cput s (clook (d.fn s)) b).1 = s'
  c : DrvS.Calm s'
  ok : s'.Ok
  n : s'.n = s.n
  h : s'.half = s.half
  l : clook (d.fn s') = cs
  f : ∀ k, d.fn s' k = laidF (laidF (onesTo (d.fn s) (64 * nextC (clook (d.fn s)).on) 64) (64 * nextC (clook (d.fn s)).on) (putL (clook (d.fn s)).turn b)) (64 * nextC (clook (d.fn s)).on + 63) [0] k
theorem putOk {d : DrvS} {s : NorS} {b : List Int} (hC : DrvS.Calm s) (hs : s.Ok) (hd : d.Ok s) (hm : d.many = 2) (hb : U8 b) (hl : b.length ≤ 244) (ht : (clook (d.fn s)).turn < 2147483648) :
    PutOk d s b ⟨nextC (clook (d.fn s)).on, (clook (d.fn s)).turn + 1, b⟩ (d.cput s (clook (d.fn s)) b).1 := by
  obtain ⟨h1, h2, h3, h4, h5⟩ := DrvS.calm_cput hC hs hd hm hb hl ht
  exact ⟨h1, rfl, h2, DrvS.cput_Ok hs, DrvS.cput_n, h3, h4, h5⟩
theorem u8_lit {l : List Int} (h : (l.all fun x => decide (0 ≤ x) && decide (x < 256)) = true) : U8 l := fun x hx => by
  have := List.all_eq_true.1 h x hx
  simpa using this
/-- the flash behind the puts of the chapter -/
def ca1 : NorS := (cmD.cput cm0 (clook (cmD.fn cm0)) [97, 98, 99]).1
def ca2 : NorS := (cmD.cput ca1 (clook (cmD.fn ca1)) []).1
def ca3 : NorS := (cmD.cput ca2 (clook (cmD.fn ca2)) [100]).1
theorem ca1_is : PutOk cmD cm0 [97, 98, 99] ⟨0, 1, [97, 98, 99]⟩ ca1 := by
  have h := putOk (d := cmD) (b := [97, 98, 99]) cm0_calm cm0_ok cmD_ok rfl (u8_lit (by decide)) (by decide) (by rw [cm0_look]; decide)
  rw [cm0_look] at h
  exact h
theorem cmD_okn {s : NorS} (h : s.n = 3) : cmD.Ok s := ⟨by decide, by rw [h]; decide⟩
theorem ca2_is : PutOk cmD ca1 [] ⟨1, 2, []⟩ ca2 := by
  have h := putOk (d := cmD) (b := []) ca1_is.c ca1_is.ok (cmD_okn ca1_is.n) rfl (u8_lit (by decide)) (by decide) (by rw [ca1_is.l]; decide)
  rw [ca1_is.l] at h
  exact h
theorem ca3_is : PutOk cmD ca2 [100] ⟨0, 3, [100]⟩ ca3 := by
  have h := putOk (d := cmD) (b := [100]) ca2_is.c ca2_is.ok (cmD_okn (ca2_is.n.trans ca1_is.n)) rfl (u8_lit (by decide)) (by decide) (by rw [ca2_is.l]; decide)
  rw [ca2_is.l] at h
  exact h
theorem putL_abc : putL 0 [97, 98, 99] = [1, 3, 1633838079] := by decide
theorem putL_nil : putL 1 [] = [2, 0] := by decide
theorem putL_d : putL 2 [100] = [3, 1, 1694498815] := by decide
theorem ca1_fn (k : Nat) : cmD.fn ca1 k = laidF (laidF (onesTo (cmD.fn cm0) 0 64) 0 [1, 3, 1633838079]) 63 [0] k := by
  have h := ca1_is.f k
  rw [cm0_look] at h
  rw [← putL_abc]
  exact h
theorem ca2_fn (k : Nat) : cmD.fn ca2 k = laidF (laidF (onesTo (cmD.fn ca1) 64 64) 64 [2, 0]) 127 [0] k := by
  have h := ca2_is.f k
  rw [ca1_is.l] at h
  rw [← putL_nil]
  exact h
theorem ca3_fn (k : Nat) : cmD.fn ca3 k = laidF (laidF (onesTo (cmD.fn ca2) 0 64) 0 [3, 1, 1694498815]) 63 [0] k := by
  have h := ca3_is.f k
  rw [ca2_is.l] at h
  rw [← putL_d]
  exact h
theorem ca1_down : ca1.down = false := ca1_is.c.dn
/-- what is made later is none of the cell's blocks -/
theorem fresh_not {w0 w : World} {p q c gd g : Nat} {v : Value} {d : DrvS} {s : NorS} (h : OwnC w0 w p q c gd g v d s) (k : Nat) (hk : w.heap.size ≤ k) : ¬ Tri p q g k := fun e => by
  have h1 := h.o.n.ltp
  have h2 := h.o.n.ltq
  have h3 := h.t.lt
  rcases e with e | e | e <;> omega
set_option maxRecDepth 100000 in
set_option maxHeartbeats 4000000 in
theorem awake_is (w : World) : Calls Try.prog 18 #[] w fun e w' => e = .returned (.bool true) ∧ Frm NoB w w' := by
  have kc := const_bytes
  go_enter Try.func18, Try.ntmps18
  go_wp2_with fail
  refine (cmade_is w).mono ?_
  rintro e w1 ⟨p, q, c, gd, g, v, rfl, hT, -⟩
  have HT := hide hT
  clear hT
  go_wp2_with fail
  refine (has_is HT.out.t (by rw [cm0_look]; decide) 0 _ (by rw [cm0_look]; decide) (by rw [cm0_look]; kernel_rfl) (by rw [cm0_look])).mono ?_
  rintro e w2 ⟨rfl, hF⟩
  have HT2 : Hid (OwnC w w2 p q c gd g v cmD cm0) := HT.out.frm hF
  clear hF HT
  go_wp2_with fail
  have hY := by_mark w2 [97, 98, 99] (u8_lit (by decide)) (by simp) _ rfl 3 rfl (3, 4)
  refine (ownc_put (HT2.out.frm ((Frm.refl NoB w2).alloc _)) hY (fun _ k hk e => ?x1) ca1_is.z).mono ?_
  case x1 => exact fresh_not HT2.out k (by have hk : some w2.heap.size = some k := hk; injection hk with hk; omega) e
  rintro e w3 ⟨v3, rfl, hT, -, -⟩
  have HT3 : Hid (OwnC w w3 p q c gd g v3 cmD ca1) := hT
  clear hT hY HT2
  go_wp2_with fail
  refine (ownd_reads 0 [1, 3, 1633838079] HT3.out.o HT3.out.dr HT3.out.dk (by simp) _ rfl _ rfl true (reads_true (a := 0) ca1_is.ok HT3.out.dk ca1_is.c.dn (by decide) (fun i hi => by
    simp only [List.length_cons, List.length_nil] at hi
    rw [Nat.zero_add, ca1_fn]
    rcases (by omega : i = 0 ∨ i = 1 ∨ i = 2) with rfl | rfl | rfl <;> rfl))).mono ?_
  rintro e w4 ⟨rfl, -, hF⟩
  have HT4 : Hid (OwnC w w4 p q c gd g v3 cmD ca1) := HT3.out.frm hF
  clear hF HT3
  go_wp2_with fail
  refine (ownd_reads 63 [0] HT4.out.o HT4.out.dr HT4.out.dk (by simp) _ rfl _ rfl true (reads_true (a := 63) ca1_is.ok HT4.out.dk ca1_is.c.dn (by decide) (fun i hi => by
    simp only [List.length_cons, List.length_nil] at hi
    obtain rfl : i = 0 := by omega
    rw [ca1_fn]; rfl))).mono ?_
  rintro e w5 ⟨rfl, -, hF⟩
  have HT5 : Hid (OwnC w w5 p q c gd g v3 cmD ca1) := HT4.out.frm hF
  clear hF HT4
  go_wp2_with fail
  refine (has_is HT5.out.t (by rw [ca1_is.l]; decide) 1 _ (by rw [ca1_is.l]; decide) (by rw [ca1_is.l]; kernel_rfl) (by rw [ca1_is.l])).mono ?_
  rintro e w6 ⟨rfl, hF⟩
  have HT6 : Hid (OwnC w w6 p q c gd g v3 cmD ca1) := HT5.out.frm hF
  clear hF HT5
  go_wp2_with fail
  refine (ownc_put HT6.out (By.nil _) (fun h => absurd rfl h) ca2_is.z).mono ?_
  rintro e w7 ⟨v7, rfl, hT, -, -⟩
  have HT7 : Hid (OwnC w w7 p q c gd g v7 cmD ca2) := hT
  clear hT HT6
  go_wp2_with fail
  refine (ownd_reads 64 [2, 0] HT7.out.o HT7.out.dr HT7.out.dk (by simp) _ rfl _ rfl true (reads_true (a := 64) ca2_is.ok HT7.out.dk ca2_is.c.dn (by decide) (fun i hi => by
    simp only [List.length_cons, List.length_nil] at hi
    rw [ca2_fn]
    rcases (by omega : i = 0 ∨ i = 1) with rfl | rfl <;> rfl))).mono ?_
  rintro e w8 ⟨rfl, -, hF⟩
  have HT8 : Hid (OwnC w w8 p q c gd g v7 cmD ca2) := HT7.out.frm hF
  clear hF HT7
  go_wp2_with fail
  refine (has_is HT8.out.t (by rw [ca2_is.l]; decide) 2 _ (by rw [ca2_is.l]; decide) (by rw [ca2_is.l]; kernel_rfl) (by rw [ca2_is.l])).mono ?_
  rintro e w9 ⟨rfl, hF⟩
  have HT9 : Hid (OwnC w w9 p q c gd g v7 cmD ca2) := HT8.out.frm hF
  clear hF HT8
  go_wp2_with fail
  have hY := by_mark w9 [100] (u8_lit (by decide)) (by simp) _ rfl 1 rfl (1, 2)
  refine (ownc_put (HT9.out.frm ((Frm.refl NoB w9).alloc _)) hY (fun _ k hk e => ?x2) ca3_is.z).mono ?_
  case x2 => exact fresh_not HT9.out k (by have hk : some w9.heap.size = some k := hk; injection hk with hk; omega) e
  rintro e w10 ⟨v10, rfl, hT, -, -⟩
  have HTa : Hid (OwnC w w10 p q c gd g v10 cmD ca3) := hT
  clear hT hY HT9
  go_wp2_with fail
  refine (ownd_reads 0 [3, 1] HTa.out.o HTa.out.dr HTa.out.dk (by simp) _ rfl _ rfl true (reads_true (a := 0) ca3_is.ok HTa.out.dk ca3_is.c.dn (by decide) (fun i hi => by
    simp only [List.length_cons, List.length_nil] at hi
    rw [Nat.zero_add, ca3_fn]
    rcases (by omega : i = 0 ∨ i = 1) with rfl | rfl <;> rfl))).mono ?_
  rintro e w11 ⟨rfl, -, hF⟩
  have HTb : Hid (OwnC w w11 p q c gd g v10 cmD ca3) := HTa.out.frm hF
  clear hF HTa
  go_wp2_with fail
  refine (has_is HTb.out.t (by rw [ca3_is.l]; decide) 3 _ (by rw [ca3_is.l]; decide) (by rw [ca3_is.l]; kernel_rfl) (by rw [ca3_is.l])).mono ?_
  rintro e w12 ⟨rfl, hF⟩
  have HTc : Hid (Frm NoB w w12) := HTb.out.o.f.trans hF
  clear hF HTb
  go_wp2
  go_ret
  exact ⟨rfl, HTc.out⟩
end Go.Proofs.Ytiapoalkkhpmlaa

/-
  Arguments: rows of words and of truths.
-/
namespace Go.Proofs.Ytiapoalkkhpmlaa
open Go.RowKit
/-- An argument of words. -/
structure RowArg (w : World) (B : Nat) (A : Option Addr) (c : Nat) (xs : List Int) : Prop where
  r : Rd w A (ints .u32 xs)
  b : xs ≠ [] → ∀ a, A = some a → a.block < B
  u : U32 xs
  l : xs.length ≤ c
  m : (c : Int) ≤ 9223372036854775807
theorem RowArg.len {w : World} {B : Nat} {A : Option Addr} {c : Nat} {xs : List Int} (h : RowArg w B A c xs) : (xs.length : Int) ≤ 9223372036854775807 := by have := h.l; have := h.m; omega
theorem RowArg.frm {S : Nat → Prop} {w w' : World} {B : Nat} {A : Option Addr} {c : Nat} {xs : List Int} (h : RowArg w B A c xs) (hf : Frm S w w') (hs : ∀ k, k < B → ¬ S k) : RowArg w' B A c xs :=
  ⟨by
    by_cases e : xs = []
    · rw [e]; exact Rd.nil _ _
    · exact h.r.frm hf (fun a ha => hs _ (h.b e a ha)), h.b, h.u, h.l, h.m⟩
theorem RowArg.take {w : World} {B : Nat} {A : Option Addr} {c : Nat} {xs : List Int} (h : RowArg w B A c xs) (n : Nat) : RowArg w B A c (xs.take n) :=
  ⟨by rw [ints_take]; exact h.r.take n, fun hne => h.b (fun e => hne (by rw [e]; simp)), h.u.take n, by have := h.l; rw [List.length_take]; omega, h.m⟩
/-- A row of words, in a block that Q tells of. -/
structure RowOut (w : World) (Q : Nat → Prop) (A : Option Addr) (c : Nat) (xs : List Int) : Prop where
  r : Rd w A (ints .u32 xs)
  b : xs ≠ [] → ∀ a, A = some a → Q a.block
  u : U32 xs
  l : xs.length ≤ c
  m : (c : Int) ≤ 9223372036854775807
theorem RowOut.len {w : World} {Q : Nat → Prop} {A : Option Addr} {c : Nat} {xs : List Int} (h : RowOut w Q A c xs) : (xs.length : Int) ≤ 9223372036854775807 := by have := h.l; have := h.m; omega
theorem RowOut.frm {S Q : Nat → Prop} {w w' : World} {A : Option Addr} {c : Nat} {xs : List Int} (h : RowOut w Q A c xs) (hf : Frm S w w') (hs : ∀ k, Q k → ¬ S k) : RowOut w' Q A c xs :=
  ⟨by
    by_cases e : xs = []
    · rw [e]; exact Rd.nil _ _
    · exact h.r.frm hf (fun a ha => hs _ (h.b e a ha)), h.b, h.u, h.l, h.m⟩
theorem RowArg.out {w : World} {B : Nat} {A : Option Addr} {c : Nat} {xs : List Int} (h : RowArg w B A c xs) : RowOut w (fun k => k < B) A c xs := ⟨h.r, h.b, h.u, h.l, h.m⟩
structure BoolArg (w : World) (B : Nat) (A : Option Addr) (ks : List Bool) : Prop where
  r : Rd w A (bools ks)
  b : ks ≠ [] → ∀ a, A = some a → a.block < B
  m : (ks.length : Int) ≤ 9223372036854775807
theorem BoolArg.frm {S : Nat → Prop} {w w' : World} {B : Nat} {A : Option Addr} {ks : List Bool} (h : BoolArg w B A ks) (hf : Frm S w w') (hs : ∀ k, k < B → ¬ S k) : BoolArg w' B A ks :=
  ⟨by
    by_cases e : ks = []
    · rw [e]; exact Rd.nil _ _
    · exact h.r.frm hf (fun a ha => hs _ (h.b e a ha)), h.b, h.m⟩
end Go.Proofs.Ytiapoalkkhpmlaa

/-
  Arguments, opened: rows of numbers, of truths.
-/
namespace Go.Proofs.Ytiapoalkkhpmlaa
open Go.ChangeShapes Go.WideShapes Go.ChangeAt Go.RowKit Go.Deep

section
variable {H : Type} {enc : TypeId × Value → H} {P : Program} {W : World}
theorem spot_none {w : World} {a : Addr} {v : Value} (h : w.cell? a = some v) : ∃ b o, a = ⟨b, o, none⟩ := by
  have := World.cell?_spot h
  obtain ⟨b, o, s⟩ := a
  simp at this
  exact ⟨b, o, by rw [this]⟩
/-- a row of numbers -/
theorem open_row {base : Nat} {spare : Nat → Bool} {held : Bool} {t e : TypeId} {k : IntKind} {fuel : Nat} {v : Value} {x : DataW H × List MemPlace} (ht : P.underlying t = some (.slice e)) (he : P.underlying e = some (.int k)) (hc : P.cellsOf e = 1)
    (h : DataW.trod enc P W base spare held fuel t [v] = some x) :
    ∃ (A : Option Addr) (c : Nat) (xs : List Int), v = .slice A xs.length c ∧ Rd W A (ints k xs) ∧ (∀ n ∈ xs, (Lit.int k n).wf = true) ∧ xs.length ≤ c ∧ c ≤ maxLen := by
  rcases open_ints ht he hc h with ⟨hcs, _⟩ | ⟨a, l, c, zs, hcs, _, hl, hm, hz, _, hcell, hwz⟩
  · simp at hcs
    subst hcs
    exact ⟨none, 0, [], rfl, Rd.nil _ _, (fun n hn => by cases hn), Nat.le_refl _, Nat.zero_le _⟩
  · simp at hcs
    subst hcs
    have hzl : l ≤ zs.length := by rw [hz]; split <;> omega
    have hlen : (zs.take l).length = l := by rw [List.length_take]; omega
    refine ⟨some a, c, zs.take l, by rw [hlen], fun hne => ?_, fun n hn => hwz n (List.mem_of_mem_take hn), by rw [hlen]; exact hl, hm⟩
    have hl0 : 0 < l := by
      rcases Nat.eq_zero_or_pos l with h0 | h0
      · subst h0; simp [ints] at hne
      · exact h0
    have h0 := hcell 0 (by omega)
    obtain ⟨b, o, ha⟩ := spot_none h0
    have ha' : a = ⟨b, o, none⟩ := by
      have : a.add 0 = a := by simp [Addr.add]
      rw [this] at ha; exact ha
    subst ha'
    refine ⟨b, o, rfl, fun i v hi => ?_⟩
    have hil : i < l := by
      have := (List.getElem?_eq_some_iff.1 hi).1
      rw [ints_length, hlen] at this; exact this
    have := hcell i (by omega)
    rw [addr_add] at this
    rw [this, ← hi, ints_get (by rw [hlen]; exact hil)]
    congr 2
    simp only [List.getD_eq_getElem?_getD, List.getElem?_take_of_lt hil]
/-- a row of truths -/
theorem open_brow {base : Nat} {held : Bool} {t e : TypeId} {fuel : Nat} {v : Value} {x : DataW H × List MemPlace} (ht : P.underlying t = some (.slice e)) (he : P.underlying e = some .bool) (hc : P.cellsOf e = 1)
    (h : DataW.trod enc P W base (fun _ => true) held fuel t [v] = some x) :
    ∃ (A : Option Addr) (c : Nat) (ks : List Bool), v = .slice A ks.length c ∧ Rd W A (bools ks) ∧ ks.length ≤ c ∧ c ≤ maxLen := by
  rcases open_bools ht he hc h with ⟨hcs, _⟩ | ⟨a, l, c, B, hcs, _, hl, hm, _, hcell⟩
  · simp at hcs
    subst hcs
    exact ⟨none, 0, [], rfl, Rd.nil _ _, Nat.le_refl _, Nat.zero_le _⟩
  · simp at hcs
    subst hcs
    refine ⟨some a, c, (List.range l).map B, by simp, fun hne => ?_, by simpa using hl, hm⟩
    have hl0 : 0 < l := by
      rcases Nat.eq_zero_or_pos l with h0 | h0
      · subst h0; simp [bools] at hne
      · exact h0
    have h0 := hcell 0 (by omega)
    obtain ⟨b, o, ha⟩ := spot_none h0
    have ha' : a = ⟨b, o, none⟩ := by
      have : a.add 0 = a := by simp [Addr.add]
      rw [this] at ha; exact ha
    subst ha'
    refine ⟨b, o, rfl, fun i v hi => ?_⟩
    have hil : i < l := by
      have := (List.getElem?_eq_some_iff.1 hi).1
      simpa [bools] using this
    have := hcell i (by omega)
    rw [addr_add] at this
    rw [this, ← hi]
    simp [bools, hil]
/-- five fields of one cell each -/
theorem open_five {base : Nat} {spare : Nat → Bool} {held : Bool} {t : TypeId} {f0 f1 f2 f3 f4 : Field} {fuel : Nat} {cs : List Value} {x : DataW H × List MemPlace} (ht : P.underlying t = some (.struct #[f0, f1, f2, f3, f4])) (hone : oneCellFields P #[f0, f1, f2, f3, f4] = true) (hC : P.cellsOf t = 5)
    (h : DataW.trod enc P W base spare held fuel t cs = some x) :
    ∃ (v0 v1 v2 v3 v4 : Value) (n : Nat) (y0 y1 y2 y3 y4 : DataW H × List MemPlace), cs = [v0, v1, v2, v3, v4] ∧ DataW.trod enc P W base spare held n f0.type [v0] = some y0 ∧ DataW.trod enc P W base spare held n f1.type [v1] = some y1 ∧ DataW.trod enc P W base spare held n f2.type [v2] = some y2 ∧ DataW.trod enc P W base spare held n f3.type [v3] = some y3 ∧ DataW.trod enc P W base spare held n f4.type [v4] = some y4 := by
  obtain ⟨xs, n, _, _, hl, hx, hf⟩ := DataW.trod_struct ht h
  rw [hC] at hl
  match cs, hl with
  | [v0, v1, v2, v3, v4], _ =>
    match xs, hx with
    | [y0, y1, y2, y3, y4], _ =>
      obtain ⟨o0, k0⟩ := hone_of hone 0 f0 rfl
      obtain ⟨o1, k1⟩ := hone_of hone 1 f1 rfl
      obtain ⟨o2, k2⟩ := hone_of hone 2 f2 rfl
      obtain ⟨o3, k3⟩ := hone_of hone 3 f3 rfl
      obtain ⟨o4, k4⟩ := hone_of hone 4 f4 rfl
      exact ⟨v0, v1, v2, v3, v4, n, y0, y1, y2, y3, y4, rfl, by simpa [o0, k0] using hf 0 f0 rfl, by simpa [o1, k1] using hf 1 f1 rfl, by simpa [o2, k2] using hf 2 f2 rfl, by simpa [o3, k3] using hf 3 f3 rfl, by simpa [o4, k4] using hf 4 f4 rfl⟩
theorem open_one_int {base : Nat} {spare : Nat → Bool} {held : Bool} {t : TypeId} {k : IntKind} {fuel : Nat} {v : Value} {x : DataW H × List MemPlace} (ht : P.underlying t = some (.int k)) (h : DataW.trod enc P W base spare held fuel t [v] = some x) :
    ∃ n, v = .int k n ∧ (Lit.int k n).wf = true := by
  obtain ⟨n, h1, _, h2⟩ := DataW.trod_int ht h
  simp at h1
  exact ⟨n, h1, h2⟩
/-- a row's cells lie below the heap's end -/
theorem Rd.below {w : World} {A : Option Addr} {vs : List Value} (h : Rd w A vs) (hne : vs ≠ []) : ∀ a, A = some a → a.block < w.heap.size := fun a ha => by
  obtain ⟨a', ha', hlt⟩ := h.lt hne
  rw [ha] at ha'
  injection ha' with ha'
  subst ha'; exact hlt
theorem u32_wf {xs : List Int} (h : ∀ n ∈ xs, (Lit.int .u32 n).wf = true) : U32 xs := fun x hx => by
  have := bounds_u32 (h x hx); omega
end

section
variable {H : Type} {enc : TypeId × Value → H} {W : World}
theorem u32_one : Try.prog.cellsOf 49 = 1 := by kernel_rfl
theorem bool_one : Try.prog.cellsOf 4 = 1 := by kernel_rfl
theorem cap_i64 {c : Nat} (h : c ≤ maxLen) : (c : Int) ≤ 9223372036854775807 := by unfold maxLen at h; omega
/-- an argument of words -/
theorem open_arg_row {t e : TypeId} (ht : Try.prog.underlying t = some (.slice e)) (he : Try.prog.underlying e = some (.int .u32)) (hc : Try.prog.cellsOf e = 1) {A0 : Option Addr} {len0 cap0 : Nat} {d : DataW H} {p : List MemPlace} (h : DataW.Trod enc Try.prog W 0 (fun _ => true) true t (.slice A0 len0 cap0) d p) :
    ∃ (A : Option Addr) (c : Nat) (xs : List Int), Value.slice A0 len0 cap0 = .slice A xs.length c ∧ RowArg W W.heap.size A c xs := by
  obtain ⟨fuel, hf⟩ := h
  obtain ⟨A, c, xs, e, r, w, l, m⟩ := open_row ht he hc hf
  exact ⟨A, c, xs, e, ⟨r, fun hne => r.below (ints_ne hne), u32_wf w, l, cap_i64 m⟩⟩
/-- an argument of truths -/
theorem open_arg_brow {t e : TypeId} (ht : Try.prog.underlying t = some (.slice e)) (he : Try.prog.underlying e = some .bool) (hc : Try.prog.cellsOf e = 1) {A0 : Option Addr} {len0 cap0 : Nat} {d : DataW H} {p : List MemPlace} (h : DataW.Trod enc Try.prog W 0 (fun _ => true) true t (.slice A0 len0 cap0) d p) :
    ∃ (A : Option Addr) (c : Nat) (ks : List Bool), Value.slice A0 len0 cap0 = .slice A ks.length c ∧ BoolArg W W.heap.size A ks := by
  obtain ⟨fuel, hf⟩ := h
  obtain ⟨A, c, ks, e, r, l, m⟩ := open_brow ht he hc hf
  have := cap_i64 m
  exact ⟨A, c, ks, e, ⟨r, fun hne => r.below (bools_ne hne), by omega⟩⟩
end
end Go.Proofs.Ytiapoalkkhpmlaa

/-
  An argument of bytes, opened.
-/
namespace Go.Proofs.Ytiapoalkkhpmlaa
open Go.ChangeShapes Go.WideShapes Go.ChangeAt Go.RowKit Go.Deep
section
variable {H : Type} {enc : TypeId × Value → H} {W : World}
theorem u8_wf {xs : List Int} (h : ∀ n ∈ xs, (Lit.int .u8 n).wf = true) : U8 xs := fun x hx => by
  have := bounds_u8 (h x hx); omega
theorem open_bytes {P : Program} {base : Nat} {spare : Nat → Bool} {held : Bool} {t e : TypeId} {fuel : Nat} {v : Value} {x : DataW H × List MemPlace} (ht : P.underlying t = some (.slice e)) (he : P.underlying e = some (.int .u8)) (hc : P.cellsOf e = 1)
    (h : DataW.trod enc P W base spare held fuel t [v] = some x) : ∃ xs, By W v xs ∧ (∀ k, RowB v k → k < W.heap.size ∨ xs = []) := by
  rcases open_ints ht he hc h with ⟨hcs, _⟩ | ⟨a, l, c, zs, hcs, _, hl, hm, hz, _, hcell, hwz⟩
  · simp at hcs
    subst hcs
    exact ⟨[], By.nil W, fun k hk => by cases hk⟩
  · simp at hcs
    subst hcs
    have hzl : l ≤ zs.length := by rw [hz]; split <;> omega
    have hlen : (zs.take l).length = l := by rw [List.length_take]; omega
    refine ⟨zs.take l, ⟨some a, c, by rw [hlen], fun hne => ?_, (fun e => by cases e), by rw [hlen]; exact hl, cap_i64 hm, u8_wf (fun n hn => hwz n (List.mem_of_mem_take hn))⟩, fun k hk => ?_⟩
    · have hl0 : 0 < l := by
        rcases Nat.eq_zero_or_pos l with h0 | h0
        · subst h0; simp [ints] at hne
        · exact h0
      have h0 := hcell 0 (by omega)
      obtain ⟨b, o, ha⟩ := spot_none h0
      have ha' : a = ⟨b, o, none⟩ := by
        have : a.add 0 = a := by simp [Addr.add]
        rw [this] at ha; exact ha
      subst ha'
      refine ⟨b, o, rfl, fun i v hi => ?_⟩
      have hil : i < l := by
        have := (List.getElem?_eq_some_iff.1 hi).1
        rw [ints_length, hlen] at this; exact this
      have := hcell i (by omega)
      rw [addr_add] at this
      rw [this, ← hi, ints_get (by rw [hlen]; exact hil)]
      congr 2
      simp only [List.getD_eq_getElem?_getD, List.getElem?_take_of_lt hil]
    · rcases Nat.eq_zero_or_pos l with h0 | h0
      · right; subst h0; simp
      · left
        have hk2 : some a.block = some k := hk
        injection hk2 with hk2
        rw [← hk2]
        have h1 := hcell 0 (by omega)
        have : a.add 0 = a := by simp [Addr.add]
        rw [this] at h1
        exact World.block_lt_of_cell? W a h1
theorem uint8_one : Try.prog.cellsOf 5 = 1 := by kernel_rfl
theorem open_arg_bytes {t e : TypeId} (ht : Try.prog.underlying t = some (.slice e)) (he : Try.prog.underlying e = some (.int .u8)) (hc : Try.prog.cellsOf e = 1) {A0 : Option Addr} {len0 cap0 : Nat} {d : DataW H} {p : List MemPlace} (h : DataW.Trod enc Try.prog W 0 (fun _ => true) true t (.slice A0 len0 cap0) d p) :
    ∃ (A : Option Addr) (c : Nat) (xs : List Int), Value.slice A0 len0 cap0 = .slice A xs.length c ∧ By W (.slice A xs.length c) xs := by
  obtain ⟨fuel, hf⟩ := h
  obtain ⟨xs, hb, -⟩ := open_bytes ht he hc hf
  have hb0 := hb
  obtain ⟨A, c, e, -⟩ := hb
  rw [e] at hb0 ⊢
  exact ⟨A, c, xs, rfl, hb0⟩
end
end Go.Proofs.Ytiapoalkkhpmlaa
