/-
  The law FrameOnce: the walk.
-/
import Derived.Test.YtmahaihcmmmhbaaFrAw
import Derived.Test.YtmahaihcmmmhbaaR16
import Derived.Maps.OwnOps
import Derived.Maps.Views
namespace Go.Proofs.Ytmahaihcmmmhbaa
open Go.RowKit Go.Maps
theorem mlaw : Keyed Try.prog 3 := int_keyed Try.underlying3
theorem mzero (w : World) : (zeroValue 3).run Try.prog w = .ok (.int .i64 0) w := by kernel_rfl
/-- the map of what came -/
def MapIs (D : DataW Unit) (come : Nat → Bool) : Prop := IsMap D ∧ ∀ s : Nat, D.atKey (.int .i64 s) (.lit (.int .i64 0)) = .lit (.int .i64 (if come s = true then 1 else 0))
theorem mapIs0 : MapIs (.map []) (fun _ => false) := ⟨isMap_empty, fun s => rfl⟩
theorem MapIs.put {D : DataW Unit} {come : Nat → Bool} (h : MapIs D come) (s : Nat) : MapIs (D.put (.int .i64 s) (.lit (.int .i64 1))) (comeAnd come s) := by
  refine ⟨h.1.put _ _, fun k => ?_⟩
  unfold comeAnd
  by_cases e : k = s
  · subst e
    rw [atKey_put_same h.1 (show WideAt.IsKeyLit (.int .i64 (k : Int)) from trivial)]
    simp
  · rw [atKey_put_other (by intro e'; injection e' with e1 e2; exact e (by omega)), h.2 k, decide_eq_false e]
    simp
theorem map_frm {S : Nat → Prop} {w w' : World} {P : Program} {k : TypeId} {R : Value → Option (DataW Unit × List MemPlace)} {b n : Nat} {D : DataW Unit} (h : w.ownsMap P k R b n D) (hf : Frm S w w') (hn : ¬ S b) : w'.ownsMap P k R b n D := by
  have hlt := h.lt
  obtain ⟨es, clock, hb, rest⟩ := h
  exact ⟨es, clock, (hf.block b hlt hn).trans hb, rest⟩
theorem lit_int {D : DataW Unit} {l : Lit} {a c : Int} (h : D.atKey l (.lit (.int .i64 0)) = .lit (.int .i64 a)) (h' : D.atKey l (.lit (.int .i64 0)) = .lit (.int .i64 c)) : c = a := by
  rw [h] at h'
  injection h' with h'
  injection h' with _ h'
  exact h'.symm
def onceQ (xs : List Int) (i : Nat) : Nat := 1 + (xs.getD i 0 % 300).toNat
structure OnSt (w wr : World) (p bm i last seen : Nat) (come : Nat → Bool) (D : DataW Unit) : Prop where
  win : Win come last seen
  le : last ≤ 300
  bp : Blk wr p 25 #[.int .i64 last, .int .u64 seen]
  mp : wr.ownsMap Try.prog 3 (plainElem Try.prog 3) bm i D
  d : MapIs D come
  f : Frm NoB w wr
  lp : w.heap.size ≤ p
  lm : w.heap.size ≤ bm
  ne : p ≠ bm
def OnRel (w : World) (p bm n : Nat) (x5 x6 : Value) (wr : World) : Prop := ∃ (i last seen : Nat) (come : Nat → Bool) (D : DataW Unit), i ≤ n ∧ x6 = .int .i64 i ∧ x5 = .int .i64 last ∧ OnSt w wr p bm i last seen come D
set_option maxRecDepth 100000 in
set_option maxHeartbeats 4000000 in
theorem frameOnce_is (w : World) (A : Option Addr) (c : Nat) (xs : List Int) (hx : R16 w w.heap.size A xs) :
    Calls Try.prog 3 #[.slice A xs.length c] w fun e w' => e = .returned (.bool true) ∧ Frm NoB w w' := by
  have hmm := @run_makeMap Try.prog
  have hmb := hx.m
  obtain ⟨n, hn⟩ : ∃ n, min xs.length 200 = n := ⟨_, rfl⟩
  have hst : OnSt w ((w.alloc (.cells #[.int .i64 (0 : Nat), .int .u64 (0 : Nat)] 25)).alloc (.map #[] 0)) w.heap.size (w.heap.size + 1) 0 0 0 (fun _ => false) (.map []) :=
    ⟨win0, by omega, (Blk.new w _ _).alloc _, by
      have := World.ownsMap_made (H := Unit) (w.alloc (.cells #[.int .i64 (0 : Nat), .int .u64 (0 : Nat)] 25)) Try.prog 3 (plainElem Try.prog 3)
      rw [World.size_alloc] at this
      exact this, mapIs0, ((Frm.refl NoB w).alloc _).alloc _, Nat.le_refl _, by omega, by omega⟩
  have HST := hide hst
  have HX := hide hx
  obtain ⟨m, hm⟩ : ∃ m, xs.length = m := ⟨_, rfl⟩
  have HM := hide hm
  rw [hm] at hn hmb ⊢
  have hnm : n ≤ m := by omega
  have hn200 : n ≤ 200 := by omega
  have HN := hide hn
  clear hst hx hm hn
  go_enter Try.func3, Try.ntmps3
  go_wp2_with fail
  have HCX : Hid (∀ i W, i < m → Frm NoB w W → ∃ b o, A = some ⟨b, o, none⟩ ∧ W.cell? ⟨b, o + i, none⟩ = some (.int .u16 (xs.getD i 0))) := fun i W hi hf => by
    have hl := HM.out
    obtain ⟨b, o, rfl, hc⟩ := HX.out.r (ints_ne (by intro e; rw [e] at hl; simp at hl; omega))
    have h2 := hc i _ (ints_get (by omega))
    have h3 := World.block_lt_of_cell? w _ h2
    exact ⟨b, o, rfl, (hf.cell (p := ⟨b, o + i, none⟩) h3 (fun e => e)).trans h2⟩
  obtain ⟨q, hq⟩ : ∃ q, w.heap.size + 1 = q := ⟨_, rfl⟩
  obtain ⟨p, hp⟩ : ∃ p, w.heap.size = p := ⟨_, rfl⟩
  rw [hq, hp] at HST
  rw [hq, hp]
  clear hp hq
  go_loopw [5, 6] (fun x5 x6 wr => OnRel w p q n x5 x6 wr) (fun _ i _ => n - (intOf i).toNat)
  case atStart => exact ⟨0, 0, 0, _, _, by omega, rfl, rfl, HST.out⟩
  case round =>
    clear HST
    obtain ⟨i, last, seen, come, D, hi, rfl, rfl, hR⟩ := hrel
    by_cases hlt : i < n
    · obtain ⟨b, o, rfl, hcb⟩ := HCX.out i wr (by omega) hR.f
      have ux := HX.out.get i
      obtain ⟨x, hxx⟩ : ∃ x, xs.getD i 0 = x := ⟨_, rfl⟩
      rw [hxx] at hcb ux
      obtain ⟨Q, hQ⟩ : ∃ Q : Nat, (Q : Int) = 1 + x % 300 := ⟨(1 + x % 300).toNat, by omega⟩
      have hQ1 : 1 ≤ Q := by omega
      have hQ2 : Q ≤ 300 := by omega
      have q2 : IntKind.i64.wrap (x % 300) = x % 300 := IntWalk.i64_in _ (by omega)
      have q3 : Int.tmod x 300 = x % 300 := Int.tmod_eq_emod_of_nonneg (by omega)
      have HQ4 : Hid (1 + x % 300 = (Q : Int)) := by show _ = _; omega
      have i0 : (0 : Int) ≤ (i : Int) := by omega
      have i1 : (i : Int) < (m : Int) := by omega
      have d1 : decide ((i : Int) < (m : Int)) = true := decide_eq_true (by omega)
      have d2 : decide ((i : Int) < 200) = true := decide_eq_true (by omega)
      have hok := hR.win.ok hQ1
      clear hQ
      have hle := hR.le
      have HSM := hide (fun h => hR.win.same (seq := Q) h)
      have HNX := hide (fun h => hR.win.next (seq := Q) hQ1 h)
      have hat := hR.d.2 Q
      have hkey : keyOf Try.prog 3 (.int .i64 Q) = some (.int .i64 Q) := keyOf_int_mk Try.underlying3 (WalkArith.wf_i64 (by omega))
      have HKEY := hide hkey
      have z0 := hR.bp.cell 0
      have z1 := hR.bp.cell 1
      have hpl : p < wr.heap.size := hR.bp.lt
      have hql : q < wr.heap.size := hR.mp.lt
      have KO : Hid (∀ W, Calls Try.prog 9 #[.agg #[.int .i64 last, .int .u64 seen], .int .i64 Q] W (OncePost W last seen Q)) := fun W => once_is W last seen Q hR.win.lt (by omega) hQ1 (by omega)
      unfold OncePost winV at KO
      have HR := hide hR
      have hwl := hR.win.lt
      clear hxx
      by_cases hc : come Q = true
      · rw [hc] at hat
        rw [if_pos rfl] at hat
        have hokf : (onceN last seen Q).2.2 = false := by rw [hok, hc]; rfl
        have HAT := hide hat
        obtain ⟨e1, e2⟩ := hR.win.same hokf
        rw [e1, e2, hokf] at KO
        clear hR hokf e1 e2 hok hat hkey
        go_wp2_with fail
        rw [HQ4.out]
        refine (KO.out _).mono ?_
        rintro e w5 ⟨rfl, hf5⟩
        have HF5 := hide hf5
        have hP5 := HR.out.bp.frm hf5 (fun e => e)
        have HM5 := hide (map_frm HR.out.mp hf5 (fun e => e))
        have y0 := fun o => (hP5.alloc o).cell 0
        have y1 := fun o => (hP5.alloc o).cell 1
        have g0 := fun o => (hP5.alloc o).frozen 0
        have g1 := fun o => (hP5.alloc o).frozen 1
        have hp5 : p < w5.heap.size := hP5.lt
        have hq5 : q < w5.heap.size := HM5.out.lt
        have hne6 : w5.heap.size ≠ p := by omega
        have hnq : ¬ One q w5.heap.size := fun e => by have e : w5.heap.size = q := e; omega
        have hnp : ¬ One q p := fun e => HR.out.ne e
        have HP5 := hide hP5
        clear hf5 hP5 z0 z1 KO hp5 hq5
        go_wp2_with (first
          | (at_lookup; refine wpList_lookup_own_int _ rfl _ _ 26 rfl 3 3 .i64 mlaw Try.underlying26 Try.underlying3 (mzero _) q i D rfl (map_frm HM5.out ((Frm.refl NoB w5).alloc _) (fun e => e)) _ _ rfl HKEY.out ?_; intro c hat2 _; obtain rfl := lit_int HAT.out hat2; clear hat2))
        refine ⟨⟨i + 1, last, seen, come, D, by omega, by go_num, rfl, HR.out.win, HR.out.le, ?_, ?_, HR.out.d, ?_, HR.out.lp, HR.out.lm, HR.out.ne⟩, by simp [intOf]; omega⟩
        · have := ((HP5.out.alloc (.cells #[.int .i64 last, .int .u64 seen] 25)).set_ 0 (.int .i64 last)).set_ 1 (.int .u64 seen)
          simpa using this
        · exact (map_frm HM5.out ((((Frm.refl (One p) w5).alloc _).set1 0 _).set1 1 _) (fun e => HR.out.ne e.symm)).mono (by omega)
        · exact (((HR.out.f.trans HF5.out).alloc _).setCell (p := ⟨p, 0, none⟩) (.inr HR.out.lp) _).setCell (p := ⟨p, 1, none⟩) (.inr HR.out.lp) _
      · have hc : come Q = false := by simpa using hc
        rw [hc] at hat
        rw [if_neg (by decide)] at hat
        have HAT := hide hat
        by_cases h64 : last - Q < 64
        · have hokt : (onceN last seen Q).2.2 = true := by rw [hok, hc, decide_eq_true h64]; rfl
          have d64 : decide ((last : Int) - (Q : Int) < 64) = true := decide_eq_true (by omega)
          have w64 : IntKind.i64.wrap ((last : Int) - (Q : Int)) = (last : Int) - (Q : Int) := IntWalk.i64_in _ (by omega)
          obtain ⟨hwn, hmx⟩ := hR.win.next hQ1 hokt
          rw [hokt] at KO
          obtain ⟨L1, hL1⟩ : ∃ L1, (onceN last seen Q).1 = L1 := ⟨_, rfl⟩
          obtain ⟨S1, hS1⟩ : ∃ S1, (onceN last seen Q).2.1 = S1 := ⟨_, rfl⟩
          rw [hL1, hS1] at KO hwn
          rw [hL1] at hmx
          have hmax : max (last : Int) (Q : Int) = (L1 : Int) := by omega
          have hL3 : L1 ≤ 300 := by omega
          have HWN := hide hwn
          clear hR hokt hok hat hkey hwn hmx hL1 hS1
          go_wp2_with fail
          rw [HQ4.out]
          refine (KO.out _).mono ?_
          rintro e w5 ⟨rfl, hf5⟩
          have HF5 := hide hf5
          have hP5 := HR.out.bp.frm hf5 (fun e => e)
          have HM5 := hide (map_frm HR.out.mp hf5 (fun e => e))
          have y0 := fun o => (hP5.alloc o).cell 0
          have y1 := fun o => (hP5.alloc o).cell 1
          have g0 := fun o => (hP5.alloc o).frozen 0
          have g1 := fun o => (hP5.alloc o).frozen 1
          have hp5 : p < w5.heap.size := hP5.lt
          have hq5 : q < w5.heap.size := HM5.out.lt
          have hne6 : w5.heap.size ≠ p := by omega
          have hnq : ¬ One q w5.heap.size := fun e => by have e : w5.heap.size = q := e; omega
          have hnp : ¬ One q p := fun e => HR.out.ne e
          have HP5 := hide hP5
          clear hf5 hP5 z0 z1 KO hp5 hq5
          go_wp2_with (first
            | (at_lookup; refine wpList_lookup_own_int _ rfl _ _ 26 rfl 3 3 .i64 mlaw Try.underlying26 Try.underlying3 (mzero _) q i D rfl (map_frm HM5.out ((Frm.refl NoB w5).alloc _) (fun e => e)) _ _ rfl HKEY.out ?_; intro c hat2 _; obtain rfl := lit_int HAT.out hat2; clear hat2)
            | (at_mapUpdate; refine wpList_mapUpdate_own _ rfl _ _ _ 26 rfl 3 3 mlaw Try.underlying26 _ q i D rfl (map_frm HM5.out ((Frm.refl NoB w5).alloc _) (fun e => e)) (by unfold maxLen; omega) _ _ _ rfl rfl HKEY.out _ [] (plainElem_int Try.underlying3 (by decide)) ?_; intro w6 hown6 hg6; have hf6 := (Frm.refl (One q) (w5.alloc (.cells #[.int .i64 L1, .int .u64 S1] 25))).grown hg6 (fun g e _ => by injection e with e; exact e.symm); have HOWN6 := hide hown6; have HF6 := hide hf6; have x0 := (((Blk.new w5 25 #[.int .i64 L1, .int .u64 S1]).frm hf6 hnq).cell 0); have x1 := (((Blk.new w5 25 #[.int .i64 L1, .int .u64 S1]).frm hf6 hnq).cell 1); have y2 := ((HP5.out.alloc _).frm hf6 hnp).cell 0; have y3 := ((HP5.out.alloc _).frm hf6 hnp).cell 1; have g2 := ((HP5.out.alloc _).frm hf6 hnp).frozen 0; have g3 := ((HP5.out.alloc _).frm hf6 hnp).frozen 1; clear hown6 hg6 hf6))
          refine ⟨⟨i + 1, L1, S1, comeAnd come Q, _, by omega, by go_num, rfl, HWN.out, hL3, ?_, ?_, HR.out.d.put Q, ?_, HR.out.lp, HR.out.lm, HR.out.ne⟩, by simp [intOf]; omega⟩
          · have := (((HP5.out.alloc _).frm HF6.out hnp).set_ 0 (.int .i64 L1)).set_ 1 (.int .u64 S1)
            simpa using this
          · exact map_frm HOWN6.out (((Frm.refl (One p) w6).set1 0 _).set1 1 _) (fun e => HR.out.ne e.symm)
          · have hf6 : Frm NoB w w6 := ((HR.out.f.trans HF5.out).alloc _).then_ HF6.out (fun k hk e => by have e : k = q := e; have := HR.out.lm; omega)
            exact (hf6.setCell (p := ⟨p, 0, none⟩) (.inr HR.out.lp) _).setCell (p := ⟨p, 1, none⟩) (.inr HR.out.lp) _
        · have hokf : (onceN last seen Q).2.2 = false := by rw [hok, hc, decide_eq_false h64]; rfl
          have d64 : decide ((last : Int) - (Q : Int) < 64) = false := decide_eq_false (by omega)
          have w64 : IntKind.i64.wrap ((last : Int) - (Q : Int)) = (last : Int) - (Q : Int) := IntWalk.i64_in _ (by omega)
          obtain ⟨e1, e2⟩ := hR.win.same hokf
          rw [e1, e2, hokf] at KO
          clear hR hokf e1 e2 hok hat hkey
          go_wp2_with fail
          rw [HQ4.out]
          refine (KO.out _).mono ?_
          rintro e w5 ⟨rfl, hf5⟩
          have HF5 := hide hf5
          have hP5 := HR.out.bp.frm hf5 (fun e => e)
          have HM5 := hide (map_frm HR.out.mp hf5 (fun e => e))
          have y0 := fun o => (hP5.alloc o).cell 0
          have y1 := fun o => (hP5.alloc o).cell 1
          have g0 := fun o => (hP5.alloc o).frozen 0
          have g1 := fun o => (hP5.alloc o).frozen 1
          have hp5 : p < w5.heap.size := hP5.lt
          have hq5 : q < w5.heap.size := HM5.out.lt
          have hne6 : w5.heap.size ≠ p := by omega
          have hnq : ¬ One q w5.heap.size := fun e => by have e : w5.heap.size = q := e; omega
          have hnp : ¬ One q p := fun e => HR.out.ne e
          have HP5 := hide hP5
          clear hf5 hP5 z0 z1 KO hp5 hq5
          go_wp2_with (first
            | (at_lookup; refine wpList_lookup_own_int _ rfl _ _ 26 rfl 3 3 .i64 mlaw Try.underlying26 Try.underlying3 (mzero _) q i D rfl (map_frm HM5.out ((Frm.refl NoB w5).alloc _) (fun e => e)) _ _ rfl HKEY.out ?_; intro c hat2 _; obtain rfl := lit_int HAT.out hat2; clear hat2))
          refine ⟨⟨i + 1, last, seen, come, D, by omega, by go_num, rfl, HR.out.win, HR.out.le, ?_, ?_, HR.out.d, ?_, HR.out.lp, HR.out.lm, HR.out.ne⟩, by simp [intOf]; omega⟩
          · have := ((HP5.out.alloc (.cells #[.int .i64 last, .int .u64 seen] 25)).set_ 0 (.int .i64 last)).set_ 1 (.int .u64 seen)
            simpa using this
          · exact (map_frm HM5.out ((((Frm.refl (One p) w5).alloc _).set1 0 _).set1 1 _) (fun e => HR.out.ne e.symm)).mono (by omega)
          · exact (((HR.out.f.trans HF5.out).alloc _).setCell (p := ⟨p, 0, none⟩) (.inr HR.out.lp) _).setCell (p := ⟨p, 1, none⟩) (.inr HR.out.lp) _
    · have hin : i = n := by omega
      have HF := hide hR.f
      clear hR
      by_cases hm2 : (i : Int) < (m : Int)
      · have d1 : decide ((i : Int) < (m : Int)) = true := decide_eq_true hm2
        have d2 : decide ((i : Int) < 200) = false := decide_eq_false (by have := HN.out; omega)
        clear hin hlt
        go_wp2_with fail
        refine (awake_is _).mono ?_
        rintro e w9 ⟨rfl, hf9⟩
        go_wp2
        go_ret
        exact ⟨rfl, HF.out.trans hf9⟩
      · have d1 : decide ((i : Int) < (m : Int)) = false := decide_eq_false hm2
        clear hin hlt
        go_wp2_with fail
        refine (awake_is _).mono ?_
        rintro e w9 ⟨rfl, hf9⟩
        go_wp2
        go_ret
        exact ⟨rfl, HF.out.trans hf9⟩
end Go.Proofs.Ytmahaihcmmmhbaa
