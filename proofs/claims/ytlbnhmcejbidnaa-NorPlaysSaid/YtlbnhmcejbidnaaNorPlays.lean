/-
  Through any script every answer, and each word, is as the document defines: the walk.
-/
import Derived.Test.YtlbnhmcejbidnaaSameNor
import Derived.Test.YtlbnhmcejbidnaaNorLaw5
import Derived.Test.YtlbnhmcejbidnaaNorAwake
import Derived.Test.YtlbnhmcejbidnaaNorDoes
namespace Go.Proofs.Ytlbnhmcejbidnaa
open Go.RowKit Go.Proofs.YtlbnhmcejbidnaaW.PrintWords Go.Proofs.Ytlbnhmcejbidnaa.PNorPlays
/-- what the document's words may lie in -/
def PlP (w : World) (p q b : Nat) : Nat → Prop := fun k => w.heap.size ≤ k ∧ k ≠ p ∧ k ≠ q ∧ k ≠ b
/-- a flash, and the document's one in block b -/
structure PlInv (w : World) (p q c b : Nat) (s : NorS) (v : Value) (wr : World) : Prop where
  n : NorAt wr p q c s
  r : Rf w wr (PlP w p q b) v s
  b : Blk wr b 57 (rcells v s)
  f : Frm NoB w wr
structure PlFix (w : World) (p q b : Nat) : Prop where
  hp : w.heap.size ≤ p
  hq : w.heap.size ≤ q
  hb : w.heap.size ≤ b
  bp : b ≠ p
  bq : b ≠ q
def PlRel (w : World) (ops : List OpS) (p q c b : Nat) (i : Value) (wr : World) : Prop := ∃ (j : Nat) (s : NorS) (v : Value), j ≤ ops.length ∧ j ≤ 60 ∧ i = .int .i64 j ∧ PlInv w p q c b s v wr
theorem op_cells5 {w : World} {g : Nat} {t : TypeId} {kd sec k : Int} {AL AK : Option Addr} {nL cL nK cK : Nat} (h : Blk w g t #[.int .i64 kd, .int .i64 sec, .int .i64 k, .slice AL nL cL, .slice AK nK cK]) :
    w.cell? ⟨g, 0, none⟩ = some (.int .i64 kd) ∧ w.cell? ⟨g, 1, none⟩ = some (.int .i64 sec) ∧ w.cell? ⟨g, 2, none⟩ = some (.int .i64 k) ∧ w.cell? ⟨g, 3, none⟩ = some (.slice AL nL cL) ∧ w.cell? ⟨g, 4, none⟩ = some (.slice AK nK cK) :=
  ⟨h.cell 0, h.cell 1, h.cell 2, h.cell 3, h.cell 4⟩

attribute [local go_sem] refV
section
variable {w wr : World} {p q c b : Nat} {s : NorS} {v : Value}
theorem PlInv.alloc (h : PlInv w p q c b s v wr) (o : Obj) : PlInv w p q c b s v (wr.alloc o) :=
  ⟨h.n.alloc o, h.r.frm ((Frm.refl NoB wr).alloc o) (fun _ _ e => e), h.b.alloc o, h.f.alloc o⟩
theorem PlInv.frm {w' : World} (h : PlInv w p q c b s v wr) (hf : Frm NoB wr w') : PlInv w p q c b s v w' :=
  ⟨h.n.frm hf (fun e => e) (fun e => e), h.r.frm hf (fun _ _ e => e), h.b.frm hf (fun e => e), h.f.trans hf⟩
/-- the flash has done something: a state between -/
structure PlMid (w : World) (p q c b B : Nat) (s s' : NorS) (v : Value) (w1 : World) : Prop where
  n : NorAt w1 p q c s'
  r : Rf w w1 (fun k => PlP w p q b k ∧ k < B) v s
  b : Blk w1 b 57 (rcells v s)
  f : Frm NoB w w1
  bw : Below w.heap.size w w1
theorem PlInv.mid (hx : PlFix w p q b) (h : PlInv w p q c b s v wr) {s' : NorS} {w1 : World} {X : Obj} (hn : NorAt w1 p q c s') (hf : Frm (Two p q) (wr.alloc X) w1) : PlMid w p q c b wr.heap.size s s' v w1 := by
  have hff : Frm (Two p q) wr w1 := ((Frm.refl _ wr).alloc X).trans hf
  have h1 : Frm NoB w w1 := h.f.then_ hff (fun i hi e => by have := hx.hp; have := hx.hq; rcases e with e | e <;> omega)
  exact ⟨hn, h.r.small.frm hff (fun k hk e => by rcases e with e | e <;> simp_all [PlP]), h.b.frm hff (fun e => by rcases e with e | e <;> simp_all [hx.bp, hx.bq]), h1, h1.below (fun _ _ e => e)⟩
/-- both have -/
theorem PlMid.both (hx : PlFix w p q b) {B : Nat} {s' : NorS} {w1 w2 : World} (hm : PlMid w p q c b B s s' v w1) (hBp : p < B) (hBq : q < B) (hBb : b < B) (hB1 : B ≤ w1.heap.size) {v' : Value} (hr : Rf w w2 (fun k => (PlP w p q b k ∧ k < B) ∨ w1.heap.size ≤ k) v' s')
    (hf : Frm (fun k => PlP w p q b k ∧ k < B) w1 w2) : PlInv w p q c b s' v' (w2.setRow b (rcells v' s')) := by
  have hb2 : Blk w2 b 57 (rcells v s) := hm.b.frm hf (fun e => e.1.2.2.2 rfl)
  have hff : Frm (fun k => k = b) w2 (w2.setRow b (rcells v' s')) := Frm.setRow (S := fun k => k = b) (Frm.refl _ w2) (g := b) (.inl rfl) _
  have h1 : Frm NoB w w2 := hm.f.then_ hf (fun i hi e => by have := e.1.1; omega)
  refine ⟨(hm.n.frm hf (fun e => e.1.2.1 rfl) (fun e => e.1.2.2.1 rfl)).frm hff (fun e => hx.bp e.symm) (fun e => hx.bq e.symm), ?_, hb2.setRow _, h1.setRow (.inr hx.hb) _⟩
  refine (hr.mono (Q := PlP w p q b) (fun k hk => ?_)).frm hff (fun k hk e => hk.2.2.2 e)
  rcases hk with hk | hk
  · exact hk.1
  · have := hx.hp
    have := hm.f.size
    exact ⟨by omega, by omega, by omega, by omega⟩
theorem PlMid.op {B : Nat} {s' : NorS} {w1 w2 : World} (hf : Frm (fun k => PlP w p q b k ∧ k < B) w1 w2) {cs : Array Value} {t : TypeId} (h : Blk w1 B t cs) : Blk w2 B t cs := h.frm hf (fun e => by have := e.2; omega)


theorem word_op (x y : Nat) : x + y = x + y := rfl
set_option maxRecDepth 100000 in
set_option maxHeartbeats 16000000 in
theorem norPlays_loop (w : World) (n g : Nat) (A : Option Addr) (cp : Nat) (ops : List OpS) (hn1 : 1 ≤ n) (hn6 : n ≤ 6) (hg : g ≤ n) (h : OpsAt w w.heap.size A ops) (hm : (ops.length : Int) ≤ 9223372036854775807) :
    Calls Try.prog 8 #[.int .i64 n, .int .i64 g, .slice A ops.length cp] w fun e w' => e = .returned (.bool true) ∧ Frm NoB w w' := by
  have HO0 := hide h
  clear h
  have b6 : decide ((n : Int) > 6) = false := by simp; omega
  go_enter Try.func8, Try.ntmps8
  go_wp2_with fail
  refine (new_is n g w hn1 (by omega) hg).mono ?_
  rintro e w1 ⟨p, q, c, rfl, hN, hp, hq, hF⟩
  have hok := hN.ok
  have hp1 := hN.ltp; have hq1 := hN.ltq
  have HN := hide hN
  have HFa := hide hF
  have hb1 := hide (hF.below (fun _ _ e => e))
  have HOK := hide hok
  clear hN hF hok
  go_wp2_with fail
  refine (ref_new (w0 := w) n g hn1 (by omega) hg hb1.out HOK.out).mono ?_
  rintro e w2 ⟨v, rfl, hR, hb2, hF2⟩
  obtain ⟨A0, c0, rfl⟩ := Kd.R_slice hR.r
  have hF2n : Frm NoB w1 w2 := hF2.mono (fun _ _ e => e)
  have hsz := hF2.size
  have HX : Hid (PlFix w p q w2.heap.size) := ⟨hp, hq, by have := (Hid.out HFa).size; omega, by omega, by omega⟩
  have HI : Hid (PlInv w p q c w2.heap.size (NorS.new n g) (.slice A0 (NorS.new n g).l.length c0) (w2.alloc (.cells (rcells (.slice A0 (NorS.new n g).l.length c0) (NorS.new n g)) 57))) :=
    ⟨((Hid.out HN).frm hF2n (fun e => e) (fun e => e)).alloc _, ((hR.small.mono (fun k hk => ⟨by have := (Hid.out HFa).size; rcases hk.1 with e | e; exact e.elim; omega, by rcases hk.1 with e | e; exact e.elim; omega, by rcases hk.1 with e | e; exact e.elim; omega, by omega⟩)).frm ((Frm.refl NoB w2).alloc _) (fun _ _ e => e)), Blk.new w2 _ _, ((Hid.out HFa).trans hF2n).alloc _⟩
  clear hR hb2 hF2 hF2n hp hq hp1 hq1 hsz HN HFa hb1 HOK
  go_wp2_with fail
  go_loopw [11] (fun i wr => PlRel w ops p q c w2.heap.size i wr) (fun i _ => ops.length - (intOf i).toNat)
  case atStart => exact ⟨0, _, _, by omega, by omega, rfl, HI.out⟩
  case round =>
    clear HI
    obtain ⟨j, s, v, hj, hj60, rfl, hI⟩ := hrel
    obtain ⟨wo, rfl⟩ : ∃ wo : World, wo = wr := ⟨_, rfl⟩
    have hpB := hI.n.ltp; have hqB := hI.n.ltq; have hbB := hI.b.lt
    have HI := hide hI
    clear hI
    generalize w2.heap.size = b at *
    by_cases hlt : j < ops.length
    · by_cases hlt6 : j < 60
      · obtain ⟨bb, xx, AL, cL, AK, cK, rfl, hbb, h0, h1, h2, h3, h4, h5⟩ := (HO0.out.frm (Hid.out HI).f (fun _ _ e => e)).at_ j hlt
        generalize ops[j] = o at h0 h1 h2 h3 h4 h5
        obtain ⟨kd, sec, k, l, keeps⟩ := o
        simp only at h1 h2 h3 h4 h5
        have H0 := hide h0
        have q0 := h0.k0; have q1 := h0.k1; have q2 := h0.s0; have q3 := h0.s1; have q4 := h0.a0; have q5 := h0.a1; have q6 := h0.ll; have q7 := h0.lc; have q8 := h0.kl; have q9 := h0.kc
        simp only at q0 q1 q2 q3 q4 q5 q6 q7 q8 q9
        have hOp := Blk.new wo 30 #[.int .i64 kd, .int .i64 sec, .int .i64 k, .slice AL l.length cL, .slice AK keeps.length cK]
        obtain ⟨k0, k1, k2, k3, k4⟩ := op_cells5 hOp
        have HOp := hide hOp
        clear hOp h0
        rcases Nat.lt_or_ge 70 l.length with c1 | c1
        · go_wp2
          go_roundw
          case rel => exact ⟨j + 1, s, v, by omega, by omega, by go_num, (Hid.out HI).alloc _⟩
          case measure => simp [intOf]; omega
        rcases Nat.lt_or_ge 100 keeps.length with c2 | c2
        · go_wp2
          go_roundw
          case rel => exact ⟨j + 1, s, v, by omega, by omega, by go_num, (Hid.out HI).alloc _⟩
          case measure => simp [intOf]; omega
        by_cases d1 : kd = 1
        · subst d1
          go_wp2_with fail
          refine (program_is sec k AL cL l ((Hid.out HI).n.alloc _) ((H0.out.frm ((Frm.refl NoB wo).alloc _) (fun _ _ e => e)).rl) (fun hne a ha e => by have h1 := H0.out.bl hne a ha; have := HX.out.hp; have := HX.out.hq; rcases e with e | e <;> omega) H0.out.u (by omega)).mono ?_
          rintro e w1 ⟨rfl, hN1, hF1⟩
          have hM := (Hid.out HI).mid HX.out hN1 hF1
          have HM := hide hM
          have hB1 : wo.heap.size < w1.heap.size := Nat.lt_of_lt_of_le (by simp) hF1.size
          have hOp1 := HOp.out.frm hF1 (fun e => by rcases e with e | e <;> omega)
          obtain ⟨k0, k1, k2, k3, k4⟩ := op_cells5 hOp1
          have HOp1 := hide hOp1
          have H1 := hide (H0.out.frm ((Frm.refl NoB wo).alloc _) (fun _ _ e => e) |>.frm hF1 (fun i hi e => by have := HX.out.hp; have := HX.out.hq; rcases e with e | e <;> omega))
          have HOK := hide hN1.ok
          clear hM hN1 hF1 hOp1
          go_wp2_with (first
            | (refine wpList_load_row rfl 57 (.tmp 9) rfl b rfl 57 _ (0, 0) _ (Hid.out HM).b Try.underlying57 rfl ref_size ?_))
          refine (ref_program (w0 := w) sec k AL cL _ l rfl (Hid.out HM).r (Hid.out HM).bw ⟨(H1.out).rl, (H1.out).bl, (H1.out).u, (H1.out).ll, (H1.out).lc⟩ (fun k hk => hk.1.1) HOK.out).mono ?_
          rintro e w3 ⟨v2, rfl, hR2, hB2, hF2⟩
          obtain ⟨A2, c2, rfl⟩ := Kd.R_slice hR2.r
          have hI2 := (Hid.out HM).both HX.out hpB hqB hbB (by omega) hR2 hF2
          have HI2 := hide hI2
          obtain ⟨m0, m1, m2, m3, m4⟩ := rc_cells hI2.b
          simp only [rcells] at m0 m1 m2 m3 m4
          have hBb : Blk w3 b 57 (rcells v s) := (Hid.out HM).b.frm hF2 (fun e => e.1.2.2.2 rfl)
          have HBb := hide hBb
          clear hI2 hR2 hB2 hF2 hBb
          have tx : (s.programE sec k l != s.programE sec k l) = false := by simp
          go_wp2_with (first
            | (refine wpList_store_row rfl 57 (.tmp 9) (.tmp 97) rfl b _ rfl rfl 57 _ HBb.out ref_size rfl (rcells_all _ _ _ _) ?_))
          refine (sameNor_is (Hid.out HI2).n (Hid.out HI2).r).mono ?_
          rintro e w4 ⟨rfl, hF4⟩
          have HI4 := hide ((Hid.out HI2).frm hF4)
          clear hF4 HI2 HM m0 m1 m2 m3 m4
          go_wp2
          go_roundw
          case rel => exact ⟨j + 1, _, _, by omega, by omega, by go_num, HI4.out⟩
          case measure => simp [intOf]; omega
        by_cases d2 : kd = 2
        · subst d2
          go_wp2_with fail
          refine (program_is sec k AL cL l ((Hid.out HI).n.alloc _) ((H0.out.frm ((Frm.refl NoB wo).alloc _) (fun _ _ e => e)).rl) (fun hne a ha e => by have h1 := H0.out.bl hne a ha; have := HX.out.hp; have := HX.out.hq; rcases e with e | e <;> omega) H0.out.u (by omega)).mono ?_
          rintro e w1 ⟨rfl, hN1, hF1⟩
          have hM := (Hid.out HI).mid HX.out hN1 hF1
          have HM := hide hM
          have hB1 : wo.heap.size < w1.heap.size := Nat.lt_of_lt_of_le (by simp) hF1.size
          have hOp1 := HOp.out.frm hF1 (fun e => by rcases e with e | e <;> omega)
          obtain ⟨k0, k1, k2, k3, k4⟩ := op_cells5 hOp1
          have HOp1 := hide hOp1
          have H1 := hide (H0.out.frm ((Frm.refl NoB wo).alloc _) (fun _ _ e => e) |>.frm hF1 (fun i hi e => by have := HX.out.hp; have := HX.out.hq; rcases e with e | e <;> omega))
          have HOK := hide hN1.ok
          clear hM hN1 hF1 hOp1
          go_wp2_with (first
            | (refine wpList_load_row rfl 57 (.tmp 9) rfl b rfl 57 _ (0, 0) _ (Hid.out HM).b Try.underlying57 rfl ref_size ?_))
          refine (ref_program (w0 := w) sec k AL cL _ l rfl (Hid.out HM).r (Hid.out HM).bw ⟨(H1.out).rl, (H1.out).bl, (H1.out).u, (H1.out).ll, (H1.out).lc⟩ (fun k hk => hk.1.1) HOK.out).mono ?_
          rintro e w3 ⟨v2, rfl, hR2, hB2, hF2⟩
          obtain ⟨A2, c2, rfl⟩ := Kd.R_slice hR2.r
          have hI2 := (Hid.out HM).both HX.out hpB hqB hbB (by omega) hR2 hF2
          have HI2 := hide hI2
          obtain ⟨m0, m1, m2, m3, m4⟩ := rc_cells hI2.b
          simp only [rcells] at m0 m1 m2 m3 m4
          have hBb : Blk w3 b 57 (rcells v s) := (Hid.out HM).b.frm hF2 (fun e => e.1.2.2.2 rfl)
          have HBb := hide hBb
          clear hI2 hR2 hB2 hF2 hBb
          have tx : (s.programE sec k l != s.programE sec k l) = false := by simp
          go_wp2_with (first
            | (refine wpList_store_row rfl 57 (.tmp 9) (.tmp 97) rfl b _ rfl rfl 57 _ HBb.out ref_size rfl (rcells_all _ _ _ _) ?_))
          refine (sameNor_is (Hid.out HI2).n (Hid.out HI2).r).mono ?_
          rintro e w4 ⟨rfl, hF4⟩
          have HI4 := hide ((Hid.out HI2).frm hF4)
          clear hF4 HI2 HM m0 m1 m2 m3 m4
          go_wp2
          go_roundw
          case rel => exact ⟨j + 1, _, _, by omega, by omega, by go_num, HI4.out⟩
          case measure => simp [intOf]; omega
        by_cases d3 : kd = 3
        · subst d3
          go_wp2_with fail
          refine (program_is sec k AL cL l ((Hid.out HI).n.alloc _) ((H0.out.frm ((Frm.refl NoB wo).alloc _) (fun _ _ e => e)).rl) (fun hne a ha e => by have h1 := H0.out.bl hne a ha; have := HX.out.hp; have := HX.out.hq; rcases e with e | e <;> omega) H0.out.u (by omega)).mono ?_
          rintro e w1 ⟨rfl, hN1, hF1⟩
          have hM := (Hid.out HI).mid HX.out hN1 hF1
          have HM := hide hM
          have hB1 : wo.heap.size < w1.heap.size := Nat.lt_of_lt_of_le (by simp) hF1.size
          have hOp1 := HOp.out.frm hF1 (fun e => by rcases e with e | e <;> omega)
          obtain ⟨k0, k1, k2, k3, k4⟩ := op_cells5 hOp1
          have HOp1 := hide hOp1
          have H1 := hide (H0.out.frm ((Frm.refl NoB wo).alloc _) (fun _ _ e => e) |>.frm hF1 (fun i hi e => by have := HX.out.hp; have := HX.out.hq; rcases e with e | e <;> omega))
          have HOK := hide hN1.ok
          clear hM hN1 hF1 hOp1
          go_wp2_with (first
            | (refine wpList_load_row rfl 57 (.tmp 9) rfl b rfl 57 _ (0, 0) _ (Hid.out HM).b Try.underlying57 rfl ref_size ?_))
          refine (ref_program (w0 := w) sec k AL cL _ l rfl (Hid.out HM).r (Hid.out HM).bw ⟨(H1.out).rl, (H1.out).bl, (H1.out).u, (H1.out).ll, (H1.out).lc⟩ (fun k hk => hk.1.1) HOK.out).mono ?_
          rintro e w3 ⟨v2, rfl, hR2, hB2, hF2⟩
          obtain ⟨A2, c2, rfl⟩ := Kd.R_slice hR2.r
          have hI2 := (Hid.out HM).both HX.out hpB hqB hbB (by omega) hR2 hF2
          have HI2 := hide hI2
          obtain ⟨m0, m1, m2, m3, m4⟩ := rc_cells hI2.b
          simp only [rcells] at m0 m1 m2 m3 m4
          have hBb : Blk w3 b 57 (rcells v s) := (Hid.out HM).b.frm hF2 (fun e => e.1.2.2.2 rfl)
          have HBb := hide hBb
          clear hI2 hR2 hB2 hF2 hBb
          have tx : (s.programE sec k l != s.programE sec k l) = false := by simp
          go_wp2_with (first
            | (refine wpList_store_row rfl 57 (.tmp 9) (.tmp 97) rfl b _ rfl rfl 57 _ HBb.out ref_size rfl (rcells_all _ _ _ _) ?_))
          refine (sameNor_is (Hid.out HI2).n (Hid.out HI2).r).mono ?_
          rintro e w4 ⟨rfl, hF4⟩
          have HI4 := hide ((Hid.out HI2).frm hF4)
          clear hF4 HI2 HM m0 m1 m2 m3 m4
          go_wp2
          go_roundw
          case rel => exact ⟨j + 1, _, _, by omega, by omega, by go_num, HI4.out⟩
          case measure => simp [intOf]; omega
        by_cases d4 : kd = 4
        · subst d4
          go_wp2_with fail
          refine (program_is sec k AL cL l ((Hid.out HI).n.alloc _) ((H0.out.frm ((Frm.refl NoB wo).alloc _) (fun _ _ e => e)).rl) (fun hne a ha e => by have h1 := H0.out.bl hne a ha; have := HX.out.hp; have := HX.out.hq; rcases e with e | e <;> omega) H0.out.u (by omega)).mono ?_
          rintro e w1 ⟨rfl, hN1, hF1⟩
          have hM := (Hid.out HI).mid HX.out hN1 hF1
          have HM := hide hM
          have hB1 : wo.heap.size < w1.heap.size := Nat.lt_of_lt_of_le (by simp) hF1.size
          have hOp1 := HOp.out.frm hF1 (fun e => by rcases e with e | e <;> omega)
          obtain ⟨k0, k1, k2, k3, k4⟩ := op_cells5 hOp1
          have HOp1 := hide hOp1
          have H1 := hide (H0.out.frm ((Frm.refl NoB wo).alloc _) (fun _ _ e => e) |>.frm hF1 (fun i hi e => by have := HX.out.hp; have := HX.out.hq; rcases e with e | e <;> omega))
          have HOK := hide hN1.ok
          clear hM hN1 hF1 hOp1
          go_wp2_with (first
            | (refine wpList_load_row rfl 57 (.tmp 9) rfl b rfl 57 _ (0, 0) _ (Hid.out HM).b Try.underlying57 rfl ref_size ?_))
          refine (ref_program (w0 := w) sec k AL cL _ l rfl (Hid.out HM).r (Hid.out HM).bw ⟨(H1.out).rl, (H1.out).bl, (H1.out).u, (H1.out).ll, (H1.out).lc⟩ (fun k hk => hk.1.1) HOK.out).mono ?_
          rintro e w3 ⟨v2, rfl, hR2, hB2, hF2⟩
          obtain ⟨A2, c2, rfl⟩ := Kd.R_slice hR2.r
          have hI2 := (Hid.out HM).both HX.out hpB hqB hbB (by omega) hR2 hF2
          have HI2 := hide hI2
          obtain ⟨m0, m1, m2, m3, m4⟩ := rc_cells hI2.b
          simp only [rcells] at m0 m1 m2 m3 m4
          have hBb : Blk w3 b 57 (rcells v s) := (Hid.out HM).b.frm hF2 (fun e => e.1.2.2.2 rfl)
          have HBb := hide hBb
          clear hI2 hR2 hB2 hF2 hBb
          have tx : (s.programE sec k l != s.programE sec k l) = false := by simp
          go_wp2_with (first
            | (refine wpList_store_row rfl 57 (.tmp 9) (.tmp 97) rfl b _ rfl rfl 57 _ HBb.out ref_size rfl (rcells_all _ _ _ _) ?_))
          refine (sameNor_is (Hid.out HI2).n (Hid.out HI2).r).mono ?_
          rintro e w4 ⟨rfl, hF4⟩
          have HI4 := hide ((Hid.out HI2).frm hF4)
          clear hF4 HI2 HM m0 m1 m2 m3 m4
          go_wp2
          go_roundw
          case rel => exact ⟨j + 1, _, _, by omega, by omega, by go_num, HI4.out⟩
          case measure => simp [intOf]; omega
        by_cases d5 : kd = 5
        · subst d5
          go_wp2_with fail
          refine (erase_is sec ((Hid.out HI).n.alloc _)).mono ?_
          rintro e w1 ⟨rfl, hN1, hF1⟩
          have hM := (Hid.out HI).mid HX.out hN1 hF1
          have HM := hide hM
          have hB1 : wo.heap.size < w1.heap.size := Nat.lt_of_lt_of_le (by simp) hF1.size
          have hOp1 := HOp.out.frm hF1 (fun e => by rcases e with e | e <;> omega)
          obtain ⟨k0, k1, k2, k3, k4⟩ := op_cells5 hOp1
          have HOp1 := hide hOp1
          have H1 := hide (H0.out.frm ((Frm.refl NoB wo).alloc _) (fun _ _ e => e) |>.frm hF1 (fun i hi e => by have := HX.out.hp; have := HX.out.hq; rcases e with e | e <;> omega))
          have HOK := hide hN1.ok
          clear hM hN1 hF1 hOp1
          go_wp2_with (first
            | (refine wpList_load_row rfl 57 (.tmp 9) rfl b rfl 57 _ (0, 0) _ (Hid.out HM).b Try.underlying57 rfl ref_size ?_))
          refine (ref_erase (w0 := w) sec (Hid.out HM).r (Hid.out HM).bw HOK.out).mono ?_
          rintro e w3 ⟨v2, rfl, hR2, hB2, hF2⟩
          obtain ⟨A2, c2, rfl⟩ := Kd.R_slice hR2.r
          have hI2 := (Hid.out HM).both HX.out hpB hqB hbB (by omega) hR2 hF2
          have HI2 := hide hI2
          obtain ⟨m0, m1, m2, m3, m4⟩ := rc_cells hI2.b
          simp only [rcells] at m0 m1 m2 m3 m4
          have hBb : Blk w3 b 57 (rcells v s) := (Hid.out HM).b.frm hF2 (fun e => e.1.2.2.2 rfl)
          have HBb := hide hBb
          clear hI2 hR2 hB2 hF2 hBb
          have tx : (s.eraseE sec != s.eraseE sec) = false := by simp
          go_wp2_with (first
            | (refine wpList_store_row rfl 57 (.tmp 9) (.tmp 111) rfl b _ rfl rfl 57 _ HBb.out ref_size rfl (rcells_all _ _ _ _) ?_))
          refine (sameNor_is (Hid.out HI2).n (Hid.out HI2).r).mono ?_
          rintro e w4 ⟨rfl, hF4⟩
          have HI4 := hide ((Hid.out HI2).frm hF4)
          clear hF4 HI2 HM m0 m1 m2 m3 m4
          go_wp2
          go_roundw
          case rel => exact ⟨j + 1, _, _, by omega, by omega, by go_num, HI4.out⟩
          case measure => simp [intOf]; omega
        by_cases d6 : kd = 6
        · subst d6
          go_wp2_with fail
          refine (erase_is sec ((Hid.out HI).n.alloc _)).mono ?_
          rintro e w1 ⟨rfl, hN1, hF1⟩
          have hM := (Hid.out HI).mid HX.out hN1 hF1
          have HM := hide hM
          have hB1 : wo.heap.size < w1.heap.size := Nat.lt_of_lt_of_le (by simp) hF1.size
          have hOp1 := HOp.out.frm hF1 (fun e => by rcases e with e | e <;> omega)
          obtain ⟨k0, k1, k2, k3, k4⟩ := op_cells5 hOp1
          have HOp1 := hide hOp1
          have H1 := hide (H0.out.frm ((Frm.refl NoB wo).alloc _) (fun _ _ e => e) |>.frm hF1 (fun i hi e => by have := HX.out.hp; have := HX.out.hq; rcases e with e | e <;> omega))
          have HOK := hide hN1.ok
          clear hM hN1 hF1 hOp1
          go_wp2_with (first
            | (refine wpList_load_row rfl 57 (.tmp 9) rfl b rfl 57 _ (0, 0) _ (Hid.out HM).b Try.underlying57 rfl ref_size ?_))
          refine (ref_erase (w0 := w) sec (Hid.out HM).r (Hid.out HM).bw HOK.out).mono ?_
          rintro e w3 ⟨v2, rfl, hR2, hB2, hF2⟩
          obtain ⟨A2, c2, rfl⟩ := Kd.R_slice hR2.r
          have hI2 := (Hid.out HM).both HX.out hpB hqB hbB (by omega) hR2 hF2
          have HI2 := hide hI2
          obtain ⟨m0, m1, m2, m3, m4⟩ := rc_cells hI2.b
          simp only [rcells] at m0 m1 m2 m3 m4
          have hBb : Blk w3 b 57 (rcells v s) := (Hid.out HM).b.frm hF2 (fun e => e.1.2.2.2 rfl)
          have HBb := hide hBb
          clear hI2 hR2 hB2 hF2 hBb
          have tx : (s.eraseE sec != s.eraseE sec) = false := by simp
          go_wp2_with (first
            | (refine wpList_store_row rfl 57 (.tmp 9) (.tmp 111) rfl b _ rfl rfl 57 _ HBb.out ref_size rfl (rcells_all _ _ _ _) ?_))
          refine (sameNor_is (Hid.out HI2).n (Hid.out HI2).r).mono ?_
          rintro e w4 ⟨rfl, hF4⟩
          have HI4 := hide ((Hid.out HI2).frm hF4)
          clear hF4 HI2 HM m0 m1 m2 m3 m4
          go_wp2
          go_roundw
          case rel => exact ⟨j + 1, _, _, by omega, by omega, by go_num, HI4.out⟩
          case measure => simp [intOf]; omega
        by_cases d7 : kd = 7
        · subst d7
          go_wp2_with fail
          refine (rewrite_is sec k AL cL l ((Hid.out HI).n.alloc _) ((H0.out.frm ((Frm.refl NoB wo).alloc _) (fun _ _ e => e))).rl H0.out.u (by omega)).mono ?_
          rintro e w1 ⟨rfl, hN1, hF1⟩
          have hM := (Hid.out HI).mid HX.out hN1 hF1
          have HM := hide hM
          have hB1 : wo.heap.size < w1.heap.size := Nat.lt_of_lt_of_le (by simp) hF1.size
          have hOp1 := HOp.out.frm hF1 (fun e => by rcases e with e | e <;> omega)
          obtain ⟨k0, k1, k2, k3, k4⟩ := op_cells5 hOp1
          have HOp1 := hide hOp1
          have H1 := hide (H0.out.frm ((Frm.refl NoB wo).alloc _) (fun _ _ e => e) |>.frm hF1 (fun i hi e => by have := HX.out.hp; have := HX.out.hq; rcases e with e | e <;> omega))
          have HOK := hide hN1.ok
          clear hM hN1 hF1 hOp1
          go_wp2_with (first
            | (refine wpList_load_row rfl 57 (.tmp 9) rfl b rfl 57 _ (0, 0) _ (Hid.out HM).b Try.underlying57 rfl ref_size ?_))
          refine (ref_rewrite (w0 := w) sec k AL cL _ l rfl (Hid.out HM).r (Hid.out HM).bw ⟨(H1.out).rl, (H1.out).bl, (H1.out).u, (H1.out).ll, (H1.out).lc⟩ (fun k hk => hk.1.1) HOK.out).mono ?_
          rintro e w3 ⟨v2, rfl, hR2, hB2, hF2⟩
          obtain ⟨A2, c2, rfl⟩ := Kd.R_slice hR2.r
          have hI2 := (Hid.out HM).both HX.out hpB hqB hbB (by omega) hR2 hF2
          have HI2 := hide hI2
          obtain ⟨m0, m1, m2, m3, m4⟩ := rc_cells hI2.b
          simp only [rcells] at m0 m1 m2 m3 m4
          have hBb : Blk w3 b 57 (rcells v s) := (Hid.out HM).b.frm hF2 (fun e => e.1.2.2.2 rfl)
          have HBb := hide hBb
          clear hI2 hR2 hB2 hF2 hBb
          have tx : (s.rewriteE sec k l != s.rewriteE sec k l) = false := by simp
          go_wp2_with (first
            | (refine wpList_store_row rfl 57 (.tmp 9) (.tmp 132) rfl b _ rfl rfl 57 _ HBb.out ref_size rfl (rcells_all _ _ _ _) ?_))
          refine (sameNor_is (Hid.out HI2).n (Hid.out HI2).r).mono ?_
          rintro e w4 ⟨rfl, hF4⟩
          have HI4 := hide ((Hid.out HI2).frm hF4)
          clear hF4 HI2 HM m0 m1 m2 m3 m4
          go_wp2
          go_roundw
          case rel => exact ⟨j + 1, _, _, by omega, by omega, by go_num, HI4.out⟩
          case measure => simp [intOf]; omega
        by_cases d8 : kd = 8
        · subst d8
          go_wp2_with fail
          refine (arm_is k ((Hid.out HI).n.alloc _) q5).mono ?_
          rintro e w1 ⟨rfl, hN1, hF1⟩
          have hM := (Hid.out HI).mid HX.out hN1 hF1
          have HM := hide hM
          have hB1 : wo.heap.size < w1.heap.size := Nat.lt_of_lt_of_le (by simp) hF1.size
          have hOp1 := HOp.out.frm hF1 (fun e => by rcases e with e | e <;> omega)
          obtain ⟨k0, k1, k2, k3, k4⟩ := op_cells5 hOp1
          have HOp1 := hide hOp1
          have H1 := hide (H0.out.frm ((Frm.refl NoB wo).alloc _) (fun _ _ e => e) |>.frm hF1 (fun i hi e => by have := HX.out.hp; have := HX.out.hq; rcases e with e | e <;> omega))
          have HOK := hide hN1.ok
          clear hM hN1 hF1 hOp1
          go_wp2_with (first
            | (refine wpList_load_row rfl 57 (.tmp 9) rfl b rfl 57 _ (0, 0) _ (Hid.out HM).b Try.underlying57 rfl ref_size ?_))
          refine (ref_arm (w0 := w) k (Hid.out HM).r (Hid.out HM).bw HOK.out).mono ?_
          rintro e w3 ⟨v2, rfl, hR2, hB2, hF2⟩
          obtain ⟨A2, c2, rfl⟩ := Kd.R_slice hR2.r
          have hI2 := (Hid.out HM).both HX.out hpB hqB hbB (by omega) hR2 hF2
          have HI2 := hide hI2
          obtain ⟨m0, m1, m2, m3, m4⟩ := rc_cells hI2.b
          simp only [rcells] at m0 m1 m2 m3 m4
          have hBb : Blk w3 b 57 (rcells v s) := (Hid.out HM).b.frm hF2 (fun e => e.1.2.2.2 rfl)
          have HBb := hide hBb
          clear hI2 hR2 hB2 hF2 hBb

          go_wp2_with (first
            | (refine wpList_store_row rfl 57 (.tmp 9) (.tmp 143) rfl b _ rfl rfl 57 _ HBb.out ref_size rfl (rcells_all _ _ _ _) ?_))
          refine (sameNor_is (Hid.out HI2).n (Hid.out HI2).r).mono ?_
          rintro e w4 ⟨rfl, hF4⟩
          have HI4 := hide ((Hid.out HI2).frm hF4)
          clear hF4 HI2 HM m0 m1 m2 m3 m4
          go_wp2
          go_roundw
          case rel => exact ⟨j + 1, _, _, by omega, by omega, by go_num, HI4.out⟩
          case measure => simp [intOf]; omega
        by_cases d9 : kd = 9
        · subst d9
          go_wp2_with fail
          refine (crash_is AK cK keeps ((Hid.out HI).n.alloc _) ((H0.out.frm ((Frm.refl NoB wo).alloc _) (fun _ _ e => e))).rk (fun hne a ha e => by have h1 := H0.out.bk hne a ha; have := HX.out.hp; have := HX.out.hq; rcases e with e | e <;> omega) q8).mono ?_
          rintro e w1 ⟨rfl, hN1, hF1⟩
          have hM := (Hid.out HI).mid HX.out hN1 hF1
          have HM := hide hM
          have hB1 : wo.heap.size < w1.heap.size := Nat.lt_of_lt_of_le (by simp) hF1.size
          have hOp1 := HOp.out.frm hF1 (fun e => by rcases e with e | e <;> omega)
          obtain ⟨k0, k1, k2, k3, k4⟩ := op_cells5 hOp1
          have HOp1 := hide hOp1
          have H1 := hide (H0.out.frm ((Frm.refl NoB wo).alloc _) (fun _ _ e => e) |>.frm hF1 (fun i hi e => by have := HX.out.hp; have := HX.out.hq; rcases e with e | e <;> omega))
          have HOK := hide hN1.ok
          clear hM hN1 hF1 hOp1
          go_wp2_with (first
            | (refine wpList_load_row rfl 57 (.tmp 9) rfl b rfl 57 _ (0, 0) _ (Hid.out HM).b Try.underlying57 rfl ref_size ?_))
          refine (ref_crash (w0 := w) AK cK _ keeps rfl q9 (Hid.out HM).r (Hid.out HM).bw ⟨(H1.out).rk, (H1.out).bk, (H1.out).kl⟩ HOK.out).mono ?_
          rintro e w3 ⟨v2, rfl, hR2, hB2, hF2⟩
          obtain ⟨A2, c2, rfl⟩ := Kd.R_slice hR2.r
          have hI2 := (Hid.out HM).both HX.out hpB hqB hbB (by omega) hR2 hF2
          have HI2 := hide hI2
          obtain ⟨m0, m1, m2, m3, m4⟩ := rc_cells hI2.b
          simp only [rcells] at m0 m1 m2 m3 m4
          have hBb : Blk w3 b 57 (rcells v s) := (Hid.out HM).b.frm hF2 (fun e => e.1.2.2.2 rfl)
          have HBb := hide hBb
          clear hI2 hR2 hB2 hF2 hBb

          go_wp2_with (first
            | (refine wpList_store_row rfl 57 (.tmp 9) (.tmp 154) rfl b _ rfl rfl 57 _ HBb.out ref_size rfl (rcells_all _ _ _ _) ?_))
          refine (sameNor_is (Hid.out HI2).n (Hid.out HI2).r).mono ?_
          rintro e w4 ⟨rfl, hF4⟩
          have HI4 := hide ((Hid.out HI2).frm hF4)
          clear hF4 HI2 HM m0 m1 m2 m3 m4
          go_wp2
          go_roundw
          case rel => exact ⟨j + 1, _, _, by omega, by omega, by go_num, HI4.out⟩
          case measure => simp [intOf]; omega
        by_cases d10 : kd = 10
        · subst d10
          go_wp2_with fail
          refine (crash_is AK cK keeps ((Hid.out HI).n.alloc _) ((H0.out.frm ((Frm.refl NoB wo).alloc _) (fun _ _ e => e))).rk (fun hne a ha e => by have h1 := H0.out.bk hne a ha; have := HX.out.hp; have := HX.out.hq; rcases e with e | e <;> omega) q8).mono ?_
          rintro e w1 ⟨rfl, hN1, hF1⟩
          have hM := (Hid.out HI).mid HX.out hN1 hF1
          have HM := hide hM
          have hB1 : wo.heap.size < w1.heap.size := Nat.lt_of_lt_of_le (by simp) hF1.size
          have hOp1 := HOp.out.frm hF1 (fun e => by rcases e with e | e <;> omega)
          obtain ⟨k0, k1, k2, k3, k4⟩ := op_cells5 hOp1
          have HOp1 := hide hOp1
          have H1 := hide (H0.out.frm ((Frm.refl NoB wo).alloc _) (fun _ _ e => e) |>.frm hF1 (fun i hi e => by have := HX.out.hp; have := HX.out.hq; rcases e with e | e <;> omega))
          have HOK := hide hN1.ok
          clear hM hN1 hF1 hOp1
          go_wp2_with (first
            | (refine wpList_load_row rfl 57 (.tmp 9) rfl b rfl 57 _ (0, 0) _ (Hid.out HM).b Try.underlying57 rfl ref_size ?_))
          refine (ref_crash (w0 := w) AK cK _ keeps rfl q9 (Hid.out HM).r (Hid.out HM).bw ⟨(H1.out).rk, (H1.out).bk, (H1.out).kl⟩ HOK.out).mono ?_
          rintro e w3 ⟨v2, rfl, hR2, hB2, hF2⟩
          obtain ⟨A2, c2, rfl⟩ := Kd.R_slice hR2.r
          have hI2 := (Hid.out HM).both HX.out hpB hqB hbB (by omega) hR2 hF2
          have HI2 := hide hI2
          obtain ⟨m0, m1, m2, m3, m4⟩ := rc_cells hI2.b
          simp only [rcells] at m0 m1 m2 m3 m4
          have hBb : Blk w3 b 57 (rcells v s) := (Hid.out HM).b.frm hF2 (fun e => e.1.2.2.2 rfl)
          have HBb := hide hBb
          clear hI2 hR2 hB2 hF2 hBb

          go_wp2_with (first
            | (refine wpList_store_row rfl 57 (.tmp 9) (.tmp 154) rfl b _ rfl rfl 57 _ HBb.out ref_size rfl (rcells_all _ _ _ _) ?_))
          refine (sameNor_is (Hid.out HI2).n (Hid.out HI2).r).mono ?_
          rintro e w4 ⟨rfl, hF4⟩
          have HI4 := hide ((Hid.out HI2).frm hF4)
          clear hF4 HI2 HM m0 m1 m2 m3 m4
          go_wp2
          go_roundw
          case rel => exact ⟨j + 1, _, _, by omega, by omega, by go_num, HI4.out⟩
          case measure => simp [intOf]; omega
        by_cases d11 : kd = 11
        · subst d11
          go_wp2_with fail
          refine (read_is sec k ((Hid.out HI).n.alloc _)).mono ?_
          rintro e w' ⟨rfl, rfl⟩
          go_wp2_with (first
            | (refine wpList_load_row rfl 57 (.tmp 9) rfl b rfl 57 _ (0, 0) _ ((Hid.out HI).b.alloc _) Try.underlying57 rfl ref_size ?_))
          refine (ref_read (w0 := w) sec k ((Hid.out HI).alloc _).r).mono ?_
          rintro e w3 ⟨rfl, hb3⟩
          have hI2 := ((Hid.out HI).alloc _).frm (Frm.of_below hb3 NoB)
          have HI2 := hide hI2
          obtain ⟨m0, m1, m2, m3, m4⟩ := rc_cells hI2.b
          clear hI2 hb3
          have t1 : (s.read sec k != s.read sec k) = false := by simp
          have t2 : (s.up sec k 1 != s.up sec k 1) = false := by simp
          go_wp2_with fail
          refine (sameNor_is (Hid.out HI2).n (Hid.out HI2).r).mono ?_
          rintro e w4 ⟨rfl, hF4⟩
          have HI4 := hide ((Hid.out HI2).frm hF4)
          clear hF4 HI2 m0 m1 m2 m3 m4
          go_wp2
          go_roundw
          case rel => exact ⟨j + 1, _, _, by omega, by omega, by go_num, HI4.out⟩
          case measure => simp [intOf]; omega
        have hI2 := (Hid.out HI).alloc (.cells #[.int .i64 kd, .int .i64 sec, .int .i64 k, .slice AL l.length cL, .slice AK keeps.length cK] 30)
        have HI2 := hide hI2
        obtain ⟨m0, m1, m2, m3, m4⟩ := rc_cells hI2.b
        clear hI2
        have e1 : (kd == 1) = false := by rw [beq_eq_false_iff_ne]; exact d1
        have e2 : (kd == 2) = false := by rw [beq_eq_false_iff_ne]; exact d2
        have e3 : (kd == 3) = false := by rw [beq_eq_false_iff_ne]; exact d3
        have e4 : (kd == 4) = false := by rw [beq_eq_false_iff_ne]; exact d4
        have e5 : (kd == 5) = false := by rw [beq_eq_false_iff_ne]; exact d5
        have e6 : (kd == 6) = false := by rw [beq_eq_false_iff_ne]; exact d6
        have e7 : (kd == 7) = false := by rw [beq_eq_false_iff_ne]; exact d7
        have e8 : (kd == 8) = false := by rw [beq_eq_false_iff_ne]; exact d8
        have e9 : (kd == 9) = false := by rw [beq_eq_false_iff_ne]; exact d9
        have e10 : (kd == 10) = false := by rw [beq_eq_false_iff_ne]; exact d10
        have e11 : (kd == 11) = false := by rw [beq_eq_false_iff_ne]; exact d11
        clear d1 d2 d3 d4 d5 d6 d7 d8 d9 d10 d11
        go_wp2_with fail
        refine (sameNor_is (Hid.out HI2).n (Hid.out HI2).r).mono ?_
        rintro e w4 ⟨rfl, hF4⟩
        have HI4 := hide ((Hid.out HI2).frm hF4)
        clear hF4 HI2 m0 m1 m2 m3 m4
        go_wp2
        go_roundw
        case rel => exact ⟨j + 1, _, _, by omega, by omega, by go_num, HI4.out⟩
        case measure => simp [intOf]; omega
      · obtain rfl : j = 60 := by omega
        go_wp2_with fail
        refine (awake_is _).mono ?_
        rintro e wz ⟨rfl, hz⟩
        go_wp2
        go_ret
        exact ⟨rfl, (Hid.out HI).f.trans hz⟩
    · obtain rfl : j = ops.length := by omega
      go_wp2_with fail
      refine (awake_is _).mono ?_
      rintro e wz ⟨rfl, hz⟩
      go_wp2
      go_ret
      exact ⟨rfl, (Hid.out HI).f.trans hz⟩
end
end Go.Proofs.Ytlbnhmcejbidnaa
