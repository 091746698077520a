/-
  Texts of this claim, joined: RefE, AndP, SeqP, PieceP, DrvP, Drv1, RefD, SameNor, RefF, Drv2, RangeL, RoundOp, Pieces, Marks.
-/
import Derived.Deep.RegionHeld3
import Derived.IntWalk
import Derived.RangeFuncNested
import Derived.RangeFuncBound
import Derived.RangeFuncCalls
import Derived.RangeFuncLeaves
import Derived.OwnWalkIn
import Derived.TacticsInMore
import Derived.LoopNIn
import Derived.LoopIn
import Derived.OrdersIn
import Derived.Deep.QuietTactic
import Derived.BigQuiet
import Derived.Shelf.RegionOpen
import Derived.Test.YtplngfphklpicaaDpJ3
/-
  The document's flash, by value: Erase, walked by hand.
-/
namespace Go.Proofs.Ytplngfphklpicaa
open Go.RowKit Go.Proofs.YtplngfphklpicaaW.PrintWords Go.Proofs.Ytplngfphklpicaa.PDrivePlays
theorem ref_size : (Try.prog.info? 65).map (·.size) = some 5 := by kernel_rfl
theorem Blk.new2 (w : World) (X : Obj) (t : TypeId) (cs : Array Value) : Blk ((w.alloc X).alloc (.cells cs t)) (w.heap.size + 1) t cs := by
  have := Blk.new (w.alloc X) t cs
  rwa [World.size_alloc] at this
theorem results_cell_tmp_row {P : Program} {fn : Func} {p u : Tmp} {ty : TypeId} (h : fn.results = #[.cell p ty, .tmp u]) (tmps : Array Value) (w : World) (g : Nat) (t : TypeId) (cs : Array Value) (fr : Nat × Nat) (d : TypeDesc)
    (hp : tmps.getD p undef = .pointer (some ⟨g, 0, none⟩)) (hg : w.heap[g]? = some (.cells cs t fr))
    (hu : P.underlying ty = some d) (hd : (match d with | .struct _ | .array _ _ => true | _ => false) = true) (hi : (P.info? ty).map (·.size) = some cs.size) :
    (results fn tmps).run P w = .ok (.tuple #[.agg cs, tmps.getD u undef]) w := by
  rw [results_cell_tmp h, hp]
  simp [asAddr, run_loadVar_row w g t ty cs fr d hg hu hd hi, Result.andThen]
theorem Blk.below {w w' : World} {g : Nat} {t : TypeId} {cs : Array Value} (h : Blk w g t cs) (hb : Below w.heap.size w w') : Blk w' g t cs := (hb.block g h.lt).trans h
/-- the cells of a flash by value -/
def rcells (v : Value) (s : NorS) : Array Value := #[v, .int .i64 s.guard, .int .i64 s.arm, .bool s.down, .int .i64 s.half]
/-- the cells of none -/
def rzero : Array Value := #[.slice none 0 0, .int .i64 0, .int .i64 0, .bool false, .int .i64 0]
theorem rzero_all : rzero.all (·.oneCell') = true := by kernel_rfl
theorem rcells_all (A : Option Addr) (n c : Nat) (s : NorS) : (rcells (.slice A n c) s).all (·.oneCell') = true := by simp [rcells, Value.oneCell']
theorem ret_agg2 {a b c d : Value} (h : a = b) (h' : c = d) : Ending.returned (.tuple #[a, c]) = .returned (.tuple #[b, d]) := by rw [h, h']
theorem setRow_keep {S : Nat → Prop} {w w' : World} (h : Frm S w w') {g : Nat} (hg : S g ∨ w.heap.size ≤ g) (cs : Array Value) : Frm S w (w'.setRow g cs) := h.setRow hg cs
theorem below_setRow {n : Nat} {w0 w : World} (h : Below n w0 w) {g : Nat} (hg : n ≤ g) (cs : Array Value) : Below n w0 (w.setRow g cs) :=
  ⟨h.os, h.tape, h.output, by simpa using h.size, fun k hk => (setRow_other w g k cs (by omega)).trans (h.block k hk)⟩
theorem two_boxes {w w1 : World} {a b : Array Value} {T : TypeId} (hb : Below ((w.alloc (.cells a T)).alloc (.cells b T)).heap.size ((w.alloc (.cells a T)).alloc (.cells b T)) w1) :
    Blk w1 w.heap.size T a ∧ Blk w1 (w.heap.size + 1) T b ∧ Frm NoB w w1 :=
  ⟨((Blk.new w T a).alloc _).below hb, (Blk.new2 w _ T b).below hb, (((Frm.refl NoB w).alloc _).alloc _).trans (Frm.of_below hb NoB)⟩
section
variable {w0 w : World} {P : Nat → Prop} {v : Value} {s : NorS}
theorem ref_step (h : Rf w0 w P v s) (hB : Below w0.heap.size w0 w) :
    Calls Try.prog 65 #[refV v s] w fun e w' => ∃ v', e = .returned (.tuple #[refV v' s.step, .bool s.steps]) ∧ Rf w0 w' (fun k => P k ∨ w.heap.size ≤ k) v' s.step ∧ Below w0.heap.size w0 w' ∧ Frm P w w' := by
  refine (blockhouseref04_Nor_step.calls P v s.l s.guard s.arm s.down s.half _ _ _ _ _ _ w0 w hB h.r (rf_step h.ok)).mono ?_
  rintro e w' ⟨v', rfl, hr, hb, hk⟩
  exact ⟨v', rfl, ⟨hr, h.ok.step⟩, hb, frm_kept hB hb hk⟩
theorem ref_own (h : Rf w0 w P v s) (hB : Below w0.heap.size w0 w) :
    Calls Try.prog 57 #[refV v s] w fun e w' => ∃ v', e = .returned (refV v' s) ∧ Rf w0 w' (fun k => w.heap.size ≤ k) v' s ∧ Below w.heap.size w w' := by
  obtain ⟨A0, c0, rfl⟩ := Kd.R_slice h.r
  obtain ⟨-, hl, hC⟩ := Kd.R_reads' h.r
  refine (blockhouseref04_Nor_own.calls A0 c0 s.l s.guard s.arm s.down s.half _ _ _ _ _ w hC hl (rf_own _ h.ok.small _ _ _ _)).mono ?_
  rintro e w' ⟨v', rfl, hr, hb⟩
  exact ⟨v', rfl, ⟨Kd.R_lower (Kd.R_mono (Kd.R_bound hr) (fun k hk => hk.2.1)) hB.size, h.ok⟩, hb⟩

set_option maxRecDepth 100000 in
set_option maxHeartbeats 1000000 in
theorem ref_erase_bad (sec : Int) (h : Rf w0 w P v s) (hB : Below w0.heap.size w0 w) (hu : ¬ s.up sec 0 0 = 0) :
    Calls Try.prog 55 #[refV v s, .int .i64 sec] w (RfPostE w0 w P (s.erase sec) (s.eraseE sec)) := by
  have E : Hid (s.erase sec = s) := by show _ = _; unfold NorS.erase; rw [if_neg hu]
  have E' : Hid (s.eraseE sec = s.up sec 0 0) := by show _ = _; unfold NorS.eraseE; rw [if_neg hu]
  have hw0 := hB.size
  have H := hide h
  have HB := hide hB
  obtain ⟨A, c, rfl⟩ := Kd.R_slice h.r
  by_cases hd : s.down = true
  · have U : Hid (s.up sec 0 0 = 40) := NorS.up_down hd _ _ _
    clear hu h hB
    unfold refV
    go_enter Try.func55, Try.ntmps55
    go_wp2
    refine bodyPost_ret (results_cell_tmp_row rfl _ _ (w.heap.size + 1) 65 _ (0, 0) _ rfl (Blk.new2 _ _ _ _) Try.underlying65 rfl ref_size) rfl ⟨.slice A s.l.length c, ret_agg2 ?_ ?_, ?_, ?_, ?_⟩
    · rw [E.out, ← hd]; rfl
    · rw [E'.out, U.out]; rfl
    · rw [E.out]; exact (H.out.frm (((Frm.refl NoB w).alloc _).alloc _) (fun _ _ e => e)).mono (fun _ hk => .inl hk)
    · exact below_alloc (below_alloc HB.out _) _
    · exact ((Frm.refl P w).alloc _).alloc _
  · have hd0 : s.down = false := by simpa using hd
    have hn : ¬ s.there sec 0 0 = true := fun e => hu (NorS.up_ok hd e)
    have U : Hid (s.up sec 0 0 = 2) := NorS.up_arg hd hn
    have hcs : sec < 0 ∨ (s.n : Int) ≤ sec := by rw [NorS.there_iff] at hn; omega
    clear hu h hB hd hn
    unfold refV
    rw [hd0]
    have HD := hide hd0
    clear hd0
    by_cases h1 : sec < 0
    · go_enter Try.func55, Try.ntmps55
      go_wp2
      refine bodyPost_ret (results_cell_tmp_row rfl _ _ (w.heap.size + 1) 65 _ (0, 0) _ rfl (Blk.new2 _ _ _ _) Try.underlying65 rfl ref_size) rfl ⟨.slice A s.l.length c, ret_agg2 ?_ ?_, ?_, ?_, ?_⟩
      · rw [E.out, ← HD.out]; rfl
      · rw [E'.out, U.out]; rfl
      · rw [E.out]; exact (H.out.frm (((Frm.refl NoB w).alloc _).alloc _) (fun _ _ e => e)).mono (fun _ hk => .inl hk)
      · exact below_alloc (below_alloc HB.out _) _
      · exact ((Frm.refl P w).alloc _).alloc _
    · have h2 : (s.n : Int) ≤ sec := by omega
      go_enter Try.func55, Try.ntmps55
      go_wp2_with fail
      have K := fun (W : World) (hf : Frm NoB w W) => ref_sectors (H.out.frm hf (fun _ _ e => e))
      simp only [refV, HD.out] at K
      refine (K _ (((Frm.refl NoB w).alloc _).alloc _)).mono ?_
      clear K
      rintro e w1 ⟨rfl, hb⟩
      obtain ⟨hX, hY, hF⟩ := two_boxes hb
      have HX := hide hX
      have HY := hide hY
      have HF := hide hF
      clear hb hX hY hF
      go_wp2_with (first
        | (refine wpList_load_row rfl 65 (.tmp 2) rfl w.heap.size rfl 65 _ (0, 0) _ HX.out Try.underlying65 rfl ref_size ?_)
        | (refine wpList_store_row rfl 65 (.tmp 4) (.tmp 19) rfl (w.heap.size + 1) _ rfl rfl 65 _ HY.out ref_size rfl (rcells_all _ _ _ { s with down := false }) ?_))
      refine bodyPost_ret (results_cell_tmp_row rfl _ _ (w.heap.size + 1) 65 _ (0, 0) _ rfl ((Hid.out HY).setRow _) Try.underlying65 rfl ref_size) rfl ⟨.slice A s.l.length c, ret_agg2 ?_ ?_, ?_, ?_, ?_⟩
      · rw [E.out, ← HD.out]; rfl
      · rw [E'.out, U.out]; rfl
      · rw [E.out]; exact (H.out.frm (S := NoB) ((Hid.out HF).setRow (.inr (by omega)) _) (fun _ _ e => e)).mono (fun _ hk => .inl hk)
      · exact below_setRow (below_step HB.out ((Hid.out HF).below (fun _ _ e => e))) (by omega) _
      · exact ((Hid.out HF).mono (fun _ _ e => e.elim)).setRow (.inr (by omega)) _

/-- what a call that may write the flash's words leaves: the boxes -/
theorem two_boxes_kept {S : Nat → Prop} {w w1 : World} {a b : Array Value} {T : TypeId} (hb : Frm S ((w.alloc (.cells a T)).alloc (.cells b T)) w1) (hs : ∀ k, S k → k < w.heap.size) :
    Blk w1 w.heap.size T a ∧ Blk w1 (w.heap.size + 1) T b ∧ Frm S w w1 := by
  refine ⟨((Blk.new w T a).alloc _).frm hb (fun e => by have := hs _ e; omega), (Blk.new2 w _ T b).frm hb (fun e => by have := hs _ e; omega), (((Frm.refl NoB w).alloc _).alloc _).mono (fun _ _ e => e.elim) |>.trans hb⟩

set_option maxRecDepth 100000 in
set_option maxHeartbeats 1000000 in
theorem ref_erase_fail (sec : Int) (h : Rf w0 w P v s) (hB : Below w0.heap.size w0 w) (hu : s.up sec 0 0 = 0) (hs : s.steps = false) (hok : (s.erase sec).Ok) :
    Calls Try.prog 55 #[refV v s, .int .i64 sec] w (RfPostE w0 w P (s.erase sec) (s.eraseE sec)) := by
  have E : Hid (s.erase sec = { s.step with half := sec }) := by show _ = _; unfold NorS.erase; rw [if_pos hu, if_neg (by simp [hs])]
  have E' : Hid (s.eraseE sec = 40) := by show _ = _; unfold NorS.eraseE; rw [if_pos hu, if_neg (by simp [hs])]
  have hw0 := hB.size
  have H := hide h
  have HB := hide hB
  have HO := hide hok
  obtain ⟨A, c, rfl⟩ := Kd.R_slice h.r
  obtain ⟨hd0, h0, h2, -, -⟩ := NorS.up_zero hu
  have HS := hide hs
  have h1 : ¬ sec < 0 := by omega
  have h3 : ¬ (s.n : Int) ≤ sec := by omega
  clear hu h hB hs hok h0
  unfold refV
  rw [hd0]
  have HD := hide hd0
  clear hd0
  go_enter Try.func55, Try.ntmps55
  go_wp2_with fail
  have K := fun (W : World) (hf : Frm NoB w W) => ref_sectors (H.out.frm hf (fun _ _ e => e))
  simp only [refV, HD.out] at K
  refine (K _ (((Frm.refl NoB w).alloc _).alloc _)).mono ?_
  clear K
  rintro e w1 ⟨rfl, hb⟩
  obtain ⟨hX, hY, hF⟩ := two_boxes hb
  have hszb : w.heap.size + 2 ≤ w1.heap.size := by have := hY.lt; omega
  have HX := hide hX
  have HY := hide hY
  have HF := hide hF
  clear hb hX hY hF
  go_wp2_with (first
    | (refine wpList_load_row rfl 65 (.tmp 2) rfl w.heap.size rfl 65 _ (0, 0) _ HX.out Try.underlying65 rfl ref_size ?_))
  have K := ref_step (H.out.small.frm (Hid.out HF) (fun _ _ e => e)) (below_step HB.out ((Hid.out HF).below (fun _ _ e => e)))
  simp only [refV, HD.out, HS.out] at K
  refine K.mono ?_
  clear K
  rintro e w2 ⟨v2, rfl, hR2, hB2, hF2⟩
  obtain ⟨A2, c2, rfl⟩ := Kd.R_slice hR2.r
  have HX2 := hide ((Hid.out HX).frm hF2 (fun e => by have := e.2; omega))
  have HY2 := hide ((Hid.out HY).frm hF2 (fun e => by have := e.2; omega))
  have hx3 : Blk (w2.setRow w.heap.size (rcells (.slice A2 s.step.l.length c2) s.step)) w.heap.size 65 (rcells (.slice A2 s.step.l.length c2) s.step) := (Hid.out HX2).setRow _
  have c4 := hx3.cell 4
  have f4 := hx3.frozen 4
  simp only [rcells] at c4 f4
  have HX3 := hide hx3
  have HR2 := hide hR2
  have HB2 := hide hB2
  have HF2 := hide hF2
  have hsz := hF2.size
  have hsz1 := (Hid.out HF).size
  have hlt := (Hid.out HY2).lt
  clear hx3 hR2 hB2 hF2 HX HY
  go_wp2_with (first
    | (refine wpList_store_row rfl 65 (.tmp 2) (.tmp 23) rfl w.heap.size _ rfl rfl 65 _ HX2.out ref_size rfl (rcells_all _ _ _ s.step) ?_)
    | (refine wpList_load_row rfl 65 (.tmp 2) rfl w.heap.size rfl 65 _ (0, 0) _ ((Hid.out HX3).set_ 4 _) Try.underlying65 rfl ref_size ?_)
    | (refine wpList_store_row rfl 65 (.tmp 4) (.tmp 29) rfl (w.heap.size + 1) _ rfl rfl 65 _ (((Hid.out HY2).setRow_far _ (by omega)).far (p := ⟨w.heap.size, 4, none⟩) (by simp) _) ref_size rfl (by exact rcells_all _ _ _ { s.step with half := sec }) ?_))
  have hF3 : Frm P w w2 := ((Hid.out HF).mono (fun _ _ e => e.elim)).trans (HF2.out.mono (fun _ _ e => e.1))
  refine bodyPost_ret (results_cell_tmp_row rfl _ _ (w.heap.size + 1) 65 (rcells (.slice A2 s.step.l.length c2) { s.step with half := sec }) (0, 0) _ rfl (((((Hid.out HY2).setRow_far _ (by omega)).far (p := ⟨w.heap.size, 4, none⟩) (by simp) _)).setRow _) Try.underlying65 rfl ref_size) rfl ⟨.slice A2 s.step.l.length c2, ret_agg2 ?_ ?_, ?_, ?_, ?_⟩
  · rw [E.out]; rfl
  · rw [E'.out]; rfl
  · have hr := HR2.out.small
    have ho := HO.out
    rw [E.out] at ho ⊢
    refine ⟨Kd.R_mono (Kd.R_step hr.r (fun k hk hlt2 => ?_)) (fun k hk => hk.1.imp (fun e => e.1) (fun e => by omega)), ho⟩
    have hk1 : k ≠ w.heap.size ∧ k ≠ w.heap.size + 1 := by
      rcases hk.1 with e | e
      · omega
      · have := (Hid.out HF).size; have := hszb; omega
    rw [setRow_other _ _ _ _ hk1.2, Below.heap_setCell _ _ _ _ (by simpa using hk1.1), setRow_other _ _ _ _ hk1.1]
  · refine below_setRow (below_set (below_setRow HB2.out (by omega) _) (by omega)) (by omega) _
  · exact (((hF3.setRow (.inr (by omega)) _).setCell (p := ⟨w.heap.size, 4, none⟩) (.inr (by simp)) _)).setRow (.inr (by omega)) _

/-- what is still to be laid -/
structure LayTo (l0 : List Int) (S : Nat) (l : List Int) (j : Nat) : Prop where
  e : NorS.lay l0 (S * 64) (List.replicate 64 4294967295) = NorS.lay l (S * 64 + j) (List.replicate (64 - j) 4294967295)
theorem LayTo.next {l0 : List Int} {S : Nat} {l : List Int} {j : Nat} (h : LayTo l0 S l j) (hj : j < 64) : LayTo l0 S (l.set (S * 64 + j) 4294967295) (j + 1) := by
  refine ⟨h.e.trans ?_⟩
  rw [show 64 - j = (64 - (j + 1)) + 1 from by omega, List.replicate_succ]
  rfl
theorem LayTo.all {l0 : List Int} {S : Nat} {l : List Int} (h : LayTo l0 S l 64) : NorS.lay l0 (S * 64) (List.replicate 64 4294967295) = l := h.e
/-- behind j words -/
def EraseRel (w0 w : World) (P : Nat → Prop) (g c : Nat) (s : NorS) (S : Nat) (i : Value) (wr : World) : Prop :=
  ∃ (j : Nat) (l : List Int), j ≤ 64 ∧ i = .int .i64 j ∧ Blk wr w.heap.size 65 (rcells (.slice (some ⟨g, 0, none⟩) s.l.length c) s) ∧ Blk wr (w.heap.size + 1) 65 rzero ∧
    Kd.R (Kd.int .u32) 48 wr w0.heap.size (fun k => k = g) (.slice (some ⟨g, 0, none⟩) l.length c) l ∧ Frm P w wr ∧ Below w0.heap.size w0 wr ∧ l.length = s.l.length ∧
    LayTo s.l S l j

set_option maxRecDepth 100000 in
set_option maxHeartbeats 1000000 in
theorem ref_erase_ok (sec : Int) (h : Rf w0 w P v s) (hB : Below w0.heap.size w0 w) (hu : s.up sec 0 0 = 0) (hs : s.steps = true) (hok : (s.erase sec).Ok) :
    Calls Try.prog 55 #[refV v s, .int .i64 sec] w (RfPostE w0 w P (s.erase sec) (s.eraseE sec)) := by
  have E : Hid (s.erase sec = { s.step with l := NorS.lay s.l (NorS.at_ sec 0) (List.replicate 64 4294967295) }) := by show _ = _; unfold NorS.erase; rw [if_pos hu, if_pos hs]
  have E' : Hid (s.eraseE sec = 0) := by show _ = _; unfold NorS.eraseE; rw [if_pos hu, if_pos hs]
  have hw0 := hB.size
  have H := hide h
  have HB := hide hB
  have HO := hide hok
  obtain ⟨A, c, rfl⟩ := Kd.R_slice h.r
  obtain ⟨hd0, h0, h2, -, -⟩ := NorS.up_zero hu
  have hlen := h.ok.len
  have hn2 := h.ok.n2
  have hn1 := h.ok.n1
  have HS := hide hs
  obtain ⟨S, rfl⟩ := Int.eq_ofNat_of_zero_le h0
  have b0 : decide ((S : Int) < 0) = false := by simp
  have h3 : ¬ (s.n : Int) ≤ S := by omega
  clear hu h hB hs hok h0
  unfold refV
  rw [hd0]
  have HD := hide hd0
  have HL := hide hlen
  clear hd0 hlen
  go_enter Try.func55, Try.ntmps55
  go_wp2_with fail
  have K := fun (W : World) (hf : Frm NoB w W) => ref_sectors (H.out.frm hf (fun _ _ e => e))
  simp only [refV, HD.out] at K
  refine (K _ (((Frm.refl NoB w).alloc _).alloc _)).mono ?_
  clear K
  rintro e w1 ⟨rfl, hb⟩
  obtain ⟨hX, hY, hF⟩ := two_boxes hb
  have hszb : w.heap.size + 2 ≤ w1.heap.size := by have := hY.lt; omega
  have HX := hide hX
  have HY := hide hY
  have HF := hide hF
  clear hb hX hY hF
  go_wp2_with (first
    | (refine wpList_load_row rfl 65 (.tmp 2) rfl w.heap.size rfl 65 _ (0, 0) _ HX.out Try.underlying65 rfl ref_size ?_))
  have K := ref_step (H.out.small.frm (Hid.out HF) (fun _ _ e => e)) (below_step HB.out ((Hid.out HF).below (fun _ _ e => e)))
  simp only [refV, HD.out, HS.out] at K
  refine K.mono ?_
  clear K
  rintro e w2 ⟨v2, rfl, hR2, hB2, hF2⟩
  obtain ⟨A2, c2, rfl⟩ := Kd.R_slice hR2.r
  have HX2 := hide ((Hid.out HX).frm hF2 (fun e => by have := e.2; omega))
  have HY2 := hide ((Hid.out HY).frm hF2 (fun e => by have := e.2; omega))
  have HX3 := hide ((Hid.out HX2).setRow (rcells (.slice A2 s.step.l.length c2) s.step))
  have hsz := hF2.size
  have hR3 : Rf w0 (w2.setRow w.heap.size (rcells (.slice A2 s.step.l.length c2) s.step)) (fun k => P k ∧ k < w.heap.size ∨ w1.heap.size ≤ k) (.slice A2 s.step.l.length c2) s.step :=
    hR2.frm (S := fun k => k = w.heap.size) (Frm.setRow (S := fun k => k = w.heap.size) (Frm.refl _ w2) (g := w.heap.size) (.inl rfl) _) (fun k hk e => by rcases hk with hk | hk <;> omega)
  have HR3 := hide hR3
  have HB3 := hide (below_setRow hB2 (show w0.heap.size ≤ w.heap.size by omega) (rcells (.slice A2 s.step.l.length c2) s.step))
  have HF3 := hide ((((Hid.out HF).mono (fun _ _ e => e.elim)).trans (hF2.mono (fun _ _ e => e.1)) : Frm P w w2).setRow (.inr (Nat.le_refl _)) (rcells (.slice A2 s.step.l.length c2) s.step))
  have HY3 := hide ((Hid.out HY2).setRow_far (rcells (.slice A2 s.step.l.length c2) s.step) (show w.heap.size + 1 ≠ w.heap.size by omega))
  clear hR2 hB2 hF2 HX HY hR3
  go_wp2_with (first
    | (refine wpList_store_row rfl 65 (.tmp 2) (.tmp 23) rfl w.heap.size _ rfl rfl 65 _ HX2.out ref_size rfl (rcells_all _ _ _ s.step) ?_)
    | (refine wpList_load_row rfl 65 (.tmp 2) rfl w.heap.size rfl 65 _ (0, 0) _ HX3.out Try.underlying65 rfl ref_size ?_))
  refine (ref_own HR3.out HB3.out).mono ?_
  rintro e w4 ⟨v4, rfl, hR4, hb4⟩
  obtain ⟨g, c4, rfl, hg1, hg2, -⟩ := Kd.R_form hR4.r (by rw [NorS.step_l, HL.out]; omega)
  have hgb : w.heap.size + 2 ≤ g := by
    have h1 := hR4.r.1 g (by simp [Value.ownBlock])
    simp at h1; omega
  have HX4 := hide ((Hid.out HX3).below hb4)
  have HY4 := hide ((Hid.out HY3).below hb4)
  have HF4 := hide ((HF3.out : Frm P w _).trans (Frm.of_below hb4 P))
  have HB4 := hide (below_step HB3.out hb4)
  have HX5 := hide ((Hid.out HX4).setRow (rcells (.slice (some ⟨g, 0, none⟩) s.step.l.length c4) s.step))
  have HY5 := hide ((Hid.out HY4).setRow_far (rcells (.slice (some ⟨g, 0, none⟩) s.step.l.length c4) s.step) (show w.heap.size + 1 ≠ w.heap.size by omega))
  have HF5 := hide ((HF4.out : Frm P w _).setRow (.inr (Nat.le_refl _)) (rcells (.slice (some ⟨g, 0, none⟩) s.step.l.length c4) s.step))
  have HB5 := hide (below_setRow HB4.out (show w0.heap.size ≤ w.heap.size by omega) (rcells (.slice (some ⟨g, 0, none⟩) s.step.l.length c4) s.step))
  have hR5 : Kd.R (Kd.int .u32) 48 (w4.setRow w.heap.size (rcells (.slice (some ⟨g, 0, none⟩) s.step.l.length c4) s.step)) w0.heap.size (fun k => k = g) (.slice (some ⟨g, 0, none⟩) s.step.l.length c4) s.step.l :=
    Kd.R_step (Kd.R_of_own (Kd.own_of_R hR4.r) (fun k hk => by simpa [Value.ownBlock] using hk.symm)) (fun k hk hlt => setRow_other _ _ _ _ (by omega))
  have HR5 := hide hR5
  have HSL : Hid (s.step.l = s.l) := NorS.step_l s
  clear hR4 hb4 HX2 HY2 HX3 HY3 HR3 HB3 HF3 hR5
  go_wp2_with (first
    | (refine wpList_store_row rfl 65 (.tmp 2) (.tmp 31) rfl w.heap.size _ rfl rfl 65 _ HX4.out ref_size rfl (rcells_all _ _ _ s.step) ?_))
  go_loopw [7] (fun i wr => EraseRel w0 w P g c4 s.step S i wr) (fun i _ => 64 - (intOf i).toNat)
  case atStart => exact ⟨0, s.step.l, by omega, rfl, HX5.out, HY5.out, HR5.out, HF5.out, HB5.out, rfl, ⟨rfl⟩⟩
  case round =>
    clear HX5 HY5 HR5 HF5 HB5 HX4 HY4
    obtain ⟨j, l, hj, rfl, hX, hY, hR, hF, hBw, hl, hlay⟩ := hrel
    have HR := hide hR
    have HX := hide hX
    have HY := hide hY
    have HFw := hide hF
    have HBw := hide hBw
    have HLl := hide hl
    have HLy := hide hlay
    have hll : l.length = 64 * s.n := by rw [hl, HSL.out, HL.out]
    by_cases hlt : j < 64
    · have hc0 := hX.cell 0
      simp only [rcells] at hc0
      have hc0' : wr.cell? ⟨w.heap.size, 0, none⟩ = some (.slice (some ⟨g, 0, none⟩) l.length c4) := by rw [hc0, hl]; rfl
      have hrc := Kd.R_cell 0 hR (S * 64 + j : Nat) (by omega) (by omega)
      rw [Int.toNat_natCast] at hrc
      obtain ⟨hcj, hfj⟩ := hrc
      have hl1 : (l.length : Int) = 64 * s.n := by omega
      have hl2 : S * 64 + j < l.length := by omega
      have hll2 : l.length ≤ 65536 := by omega
      have hp := (Kd.R_put hR (S * 64 + j : Nat) 4294967295).1
      rw [Int.toNat_natCast] at hp
      have HP := hide hp
      clear hX hY hR hF hBw hl hlay hll hc0 hp hl1
      go_wp2
      go_roundw
      case rel =>
        have hR2 := HP.out
        refine ⟨j + 1, l.set (S * 64 + j) 4294967295, by omega, by go_num, (Hid.out HX).far (p := ⟨g, _, none⟩) (by simp; omega) _, (Hid.out HY).far (p := ⟨g, _, none⟩) (by simp; omega) _, ?_, (Hid.out HFw).setCell (p := ⟨g, _, none⟩) (.inr (by simp; omega)) _, below_set (Hid.out HBw) (by omega), ?_, LayTo.next HLy.out hlt⟩
        · rw [List.length_set]; exact hR2
        · rw [List.length_set]; exact HLl.out
      case measure => simp [intOf]; omega
    · obtain rfl : j = 64 := by omega
      have hlt2 : w.heap.size + 1 < wr.heap.size := hY.lt
      clear hX hY hR hF hBw hl hlay hll
      go_wp2_with (first
        | (refine wpList_load_row rfl 65 (.tmp 2) rfl w.heap.size rfl 65 _ (0, 0) _ HX.out Try.underlying65 rfl ref_size ?_)
        | (refine wpList_store_row rfl 65 (.tmp 4) (.tmp 43) rfl (w.heap.size + 1) _ rfl rfl 65 _ HY.out ref_size rfl (rcells_all _ _ _ s.step) ?_))
      refine bodyPost_ret (results_cell_tmp_row rfl _ _ (w.heap.size + 1) 65 (rcells (.slice (some ⟨g, 0, none⟩) s.step.l.length c4) s.step) (0, 0) _ rfl ((Hid.out HY).setRow _) Try.underlying65 rfl ref_size) rfl ⟨.slice (some ⟨g, 0, none⟩) s.step.l.length c4, ret_agg2 ?_ ?_, ?_, ?_, ?_⟩
      · rw [E.out]; rfl
      · rw [E'.out]; rfl
      · have ho := HO.out
        have e1 : NorS.at_ (S : Int) 0 = S * 64 := by simp [NorS.at_]
        rw [E.out, e1, ← HSL.out, HLy.out.all] at ho ⊢
        refine ⟨Kd.R_mono (Kd.R_step (w1 := wr.setRow (w.heap.size + 1) _) (HLl.out ▸ HR.out) (fun k hk hlt3 => setRow_other _ _ _ _ (by omega))) (fun k hk => .inr (by omega)), ho⟩
      · exact below_setRow HBw.out (by omega) _
      · exact (HFw.out : Frm P w wr).setRow (.inr (by omega)) _
theorem ref_erase (sec : Int) (h : Rf w0 w P v s) (hB : Below w0.heap.size w0 w) (hok : (s.erase sec).Ok) :
    Calls Try.prog 55 #[refV v s, .int .i64 sec] w (RfPostE w0 w P (s.erase sec) (s.eraseE sec)) := by
  by_cases hu : s.up sec 0 0 = 0
  · by_cases hs : s.steps = true
    · exact ref_erase_ok sec h hB hu hs hok
    · exact ref_erase_fail sec h hB hu (by simpa using hs) hok
  · exact ref_erase_bad sec h hB hu
end
end Go.Proofs.Ytplngfphklpicaa

/-
  Plain: a flash that is up, and not armed: what is programmed.
-/
namespace Go.Proofs.Ytplngfphklpicaa
namespace NorS
/-- words and-ed onto a list from i on -/
def andL : List Int → Nat → List Int → List Int
  | l, _, [] => l
  | l, i, x :: r => andL (l.set i (wand (l.getD i 0) x)) (i + 1) r
theorem andL_length (xs : List Int) : ∀ (l : List Int) (i : Nat), (andL l i xs).length = l.length := by
  induction xs with
  | nil => intro l i; rfl
  | cons x r ih => intro l i; rw [andL, ih]; simp
theorem getD_set (l : List Int) (i j : Nat) (x : Int) (hi : i < l.length) : (l.set i x).getD j 0 = if i = j then x else l.getD j 0 := by
  simp only [List.getD_eq_getElem?_getD, List.getElem?_set]
  split
  · rename_i h; subst h; simp [hi]
  · rfl
theorem andL_get (xs : List Int) : ∀ (l : List Int) (i j : Nat), i + xs.length ≤ l.length →
    (andL l i xs).getD j 0 = if i ≤ j ∧ j < i + xs.length then wand (l.getD j 0) (xs.getD (j - i) 0) else l.getD j 0 := by
  induction xs with
  | nil => intro l i j h; rw [andL, if_neg (show ¬ (i ≤ j ∧ j < i + ([] : List Int).length) from by simp only [List.length_nil]; omega)]
  | cons x r ih =>
    intro l i j h
    simp only [List.length_cons] at h ⊢
    rw [andL, ih _ _ _ (by simp; omega), getD_set _ _ _ _ (by omega)]
    by_cases e : i = j
    · subst e
      rw [if_neg (by omega), if_pos rfl, if_pos (by omega), Nat.sub_self]; try rfl
    · rw [if_neg e]
      by_cases h1 : i + 1 ≤ j ∧ j < i + 1 + r.length
      · rw [if_pos h1, if_pos (by omega)]
        congr 1
        rw [show j - i = (j - (i + 1)) + 1 from by omega]
        simp
      · rw [if_neg h1, if_neg (by omega)]
theorem ext_getD {a b : List Int} (hl : a.length = b.length) (h : ∀ j, j < a.length → a.getD j 0 = b.getD j 0) : a = b := by
  apply List.ext_getElem hl
  intro j h1 h2
  have := h j h1
  simpa [h1, h2] using this
theorem andL_thrice (l xs ys : List Int) (i : Nat) (hx : i + xs.length ≤ l.length) (hy : i + ys.length ≤ l.length) :
    andL (andL (andL l i xs) i ys) i xs = andL (andL l i ys) i xs := by
  apply ext_getD (by simp only [andL_length])
  intro j _
  rw [andL_get _ _ _ _ (by simpa only [andL_length] using hx), andL_get _ _ _ _ (by simpa only [andL_length] using hy), andL_get _ _ _ _ hx, andL_get _ _ _ _ (by simpa only [andL_length] using hx), andL_get _ _ _ _ hy]
  split
  · split
    · rw [wand_right (wand _ _), wand_idem, wand_right]
    · rw [wand_idem]
  · rfl
/-- up, and not armed -/
structure Up (s : NorS) : Prop where
  d : s.down = false
  a : s.arm = -1
  h : s.half = -1
theorem crash_up (s : NorS) (ks : List Bool) : (s.crash ks).Up := ⟨rfl, rfl, rfl⟩
theorem Up.steps {s : NorS} (h : s.Up) : s.steps = true := by unfold NorS.steps; rw [h.a]; rfl
theorem Up.step {s : NorS} (h : s.Up) : s.step = s := by
  unfold NorS.step
  rw [if_neg (by rw [h.a]; decide)]
  rw [h.a]
  cases s; simp_all
  exact h.a.symm
theorem Up.crash {s : NorS} (h : s.Up) (ks : List Bool) : s.crash ks = s := by
  unfold NorS.crash
  rw [if_neg (by rw [h.h]; decide)]
  have h1 := h.d; have h2 := h.a; have h3 := h.h
  cases s; simp_all
theorem Up.mid {s : NorS} (h : s.Up) (l : List Int) : (s.mid l).Up := ⟨h.d, h.a, h.h⟩
theorem Up.prog (xs : List Int) : ∀ {s : NorS} (h : s.Up) (i : Nat), s.prog i xs = s.mid (andL s.l i xs) ∧ s.progs xs = true := by
  induction xs with
  | nil => intro s h i; exact ⟨rfl, rfl⟩
  | cons x r ih =>
    intro s h i
    unfold NorS.prog progs
    rw [if_pos h.steps, if_pos h.steps, h.step]
    have h2 := h.mid (s.l.set i (wand (s.wd i) x))
    obtain ⟨e1, _⟩ := ih h2 (i + 1)
    exact ⟨e1, (ih h 0).2⟩
theorem Up.fits {s : NorS} (h : s.Up) {sec k : Int} {m : Int} (h0 : 0 ≤ sec) (h1 : sec < s.n) (h2 : 0 ≤ k) (h3 : m ≤ 64) (h4 : k ≤ 64 - m) : s.up sec k m = 0 := by
  unfold NorS.up there
  rw [if_neg (by rw [h.d]; simp), if_pos]
  simp only [Bool.and_eq_true, decide_eq_true_eq]
  exact ⟨⟨⟨⟨h0, h1⟩, h2⟩, h3⟩, h4⟩
theorem Up.program {s : NorS} (h : s.Up) {sec k : Int} {xs : List Int} (hu : s.up sec k xs.length = 0) : s.program sec k xs = s.mid (andL s.l (at_ sec k) xs) ∧ s.programE sec k xs = 0 := by
  unfold NorS.program programE
  rw [if_pos hu, if_pos hu, (h.prog xs 0).2, (h.prog xs _).1]
  exact ⟨rfl, rfl⟩
theorem step_guard (s : NorS) : s.step.guard = s.guard := by unfold NorS.step; split <;> rfl
theorem prog_fix' (xs : List Int) : ∀ (a : NorS) (i : Nat), (prog a i xs).n = a.n ∧ (prog a i xs).guard = a.guard := by
  induction xs with
  | nil => intro a i; exact ⟨rfl, rfl⟩
  | cons x r ih =>
    intro a i
    unfold NorS.prog
    split
    · obtain ⟨h1, h2⟩ := ih (a.step.put i (wand (a.wd i) x)) (i + 1)
      exact ⟨h1.trans (step_n a), h2.trans (step_guard a)⟩
    · exact ⟨step_n a, step_guard a⟩
end NorS
end Go.Proofs.Ytplngfphklpicaa

/-
  Plain: words that are programmed one behind the other; how many of them, till the power fails.
-/
namespace Go.Proofs.Ytplngfphklpicaa
namespace NorS
theorem prog_append (xs ys : List Int) : ∀ (s : NorS) (i : Nat), s.prog i (xs ++ ys) = if s.progs xs = true then (s.prog i xs).prog (i + xs.length) ys else s.prog i xs := by
  induction xs with
  | nil => intro s i; simp [NorS.prog, progs]
  | cons x r ih =>
    intro s i
    show (if s.steps = true then _ else _) = if (if s.steps = true then _ else _) = true then (if s.steps = true then _ else _ : NorS).prog _ _ else (if s.steps = true then _ else _)
    by_cases hs : s.steps = true
    · rw [if_pos hs, if_pos hs, if_pos hs, List.append_eq, ih, progs_put, show i + 1 + r.length = i + (x :: r).length from by simp; omega]
    · rw [if_neg hs, if_neg hs, if_neg hs, if_neg (by simp)]
theorem progs_append (xs ys : List Int) : ∀ (s : NorS) (i : Nat), s.progs (xs ++ ys) = (s.progs xs && (s.prog i xs).progs ys) := by
  induction xs with
  | nil => intro s i; simp [NorS.prog, progs]
  | cons x r ih =>
    intro s i
    show (if s.steps = true then _ else _) = ((if s.steps = true then _ else _) && (if s.steps = true then _ else _ : NorS).progs _)
    by_cases hs : s.steps = true
    · rw [if_pos hs, if_pos hs, if_pos hs, List.append_eq, ih s.step i]
      congr 1
      have e : ∀ (zs : List Int) (a b : NorS) (k k' : Nat), a.arm = b.arm → (a.prog k zs).arm = (b.prog k' zs).arm := by
        intro zs
        induction zs with
        | nil => intro a b k k' h; exact h
        | cons z t ih2 =>
          intro a b k k' h
          have hst : a.steps = b.steps := by unfold NorS.steps; rw [h]
          have hsa : a.step.arm = b.step.arm := by unfold NorS.step; rw [h]; split <;> rfl
          show (if a.steps = true then _ else _ : NorS).arm = (if b.steps = true then _ else _ : NorS).arm
          rw [hst]
          split
          · exact ih2 _ _ _ _ hsa
          · exact hsa
      have e2 : ∀ (zs : List Int) (a b : NorS), a.arm = b.arm → a.progs zs = b.progs zs := by
        intro zs
        induction zs with
        | nil => intro a b h; rfl
        | cons z t ih2 =>
          intro a b h
          have hst : a.steps = b.steps := by unfold NorS.steps; rw [h]
          have hsa : a.step.arm = b.step.arm := by unfold NorS.step; rw [h]; split <;> rfl
          show (if a.steps = true then _ else _) = if b.steps = true then _ else _
          rw [hst, ih2 _ _ hsa]
      exact e2 ys _ _ (e r _ _ _ _ rfl)
    · rw [if_neg hs, if_neg hs, if_neg hs]; rfl
/-- how many of m words are programmed -/
def doneN (s : NorS) (m : Nat) : Nat := if s.arm < 0 then m else min s.arm.toNat m
theorem doneN_le (s : NorS) (m : Nat) : s.doneN m ≤ m := by unfold doneN; split <;> omega
theorem steps_arm {s : NorS} : s.steps = true ↔ s.arm ≠ 0 := by unfold NorS.steps; simp
theorem step_arm {s : NorS} (ha : -1 ≤ s.arm) : s.step.arm = if s.arm ≤ 0 then -1 else s.arm - 1 := by
  unfold NorS.step
  split
  · rename_i h; rw [h]; rfl
  · show max _ _ = _; split <;> omega
theorem doneN_step {s : NorS} (ha : -1 ≤ s.arm) (h : s.arm ≠ 0) (m : Nat) : s.doneN (m + 1) = s.step.doneN m + 1 := by
  unfold doneN
  rw [step_arm ha]
  by_cases h0 : s.arm < 0
  · rw [if_pos h0, if_pos (by split <;> omega)]
  · rw [if_neg h0, if_neg (show ¬ s.arm ≤ 0 by omega), if_neg (by omega)]; omega
theorem step_arm_lo {s : NorS} (ha : -1 ≤ s.arm) : -1 ≤ s.step.arm := by rw [step_arm ha]; split <;> omega
theorem prog_l (xs : List Int) : ∀ (s : NorS) (i : Nat), -1 ≤ s.arm → (s.prog i xs).l = andL s.l i (xs.take (s.doneN xs.length)) := by
  induction xs with
  | nil => intro s i ha; simp [NorS.prog, andL]
  | cons x r ih =>
    intro s i ha
    show (if s.steps = true then _ else _ : NorS).l = _
    by_cases hs : s.steps = true
    · rw [if_pos hs, ih (s.step.put i (wand (s.wd i) x)) (i + 1) (step_arm_lo ha)]
      have := doneN_step ha (steps_arm.1 hs) r.length
      rw [List.length_cons, this, List.take_succ_cons]
      show andL (s.step.l.set i _) _ _ = andL (s.l.set i _) _ _
      rw [step_l]
      rfl
    · have h0 : s.arm = 0 := Classical.not_not.1 (fun e => hs (steps_arm.2 e))
      rw [if_neg hs, step_l]
      have : s.doneN (x :: r).length = 0 := by unfold doneN; rw [h0]; simp
      rw [this]; rfl
theorem progs_iff (xs : List Int) : ∀ (s : NorS), -1 ≤ s.arm → (s.progs xs = true ↔ s.doneN xs.length = xs.length) := by
  induction xs with
  | nil => intro s ha; unfold doneN; simp [progs]
  | cons x r ih =>
    intro s ha
    show (if s.steps = true then _ else _) = true ↔ _
    by_cases hs : s.steps = true
    · rw [if_pos hs, ih _ (step_arm_lo ha), List.length_cons, doneN_step ha (steps_arm.1 hs)]; omega
    · have h0 : s.arm = 0 := Classical.not_not.1 (fun e => hs (steps_arm.2 e))
      rw [if_neg hs]
      have : s.doneN (x :: r).length = 0 := by unfold doneN; rw [h0]; simp
      rw [this]; simp
theorem step_down (s : NorS) : s.step.down = (s.down || !s.steps) := by
  unfold NorS.step NorS.steps
  split
  · rename_i h; rw [h]; simp
  · rename_i h; simp [h]
theorem prog_down (xs : List Int) : ∀ (s : NorS) (i : Nat), (s.prog i xs).down = (s.down || !s.progs xs) := by
  induction xs with
  | nil => intro s i; simp [NorS.prog, progs]
  | cons x r ih =>
    intro s i
    show (if s.steps = true then _ else _ : NorS).down = (s.down || !(if s.steps = true then _ else _))
    by_cases hs : s.steps = true
    · rw [if_pos hs, if_pos hs, ih, progs_put]
      show (s.step.down || _) = _
      rw [step_down, hs]; simp
    · rw [if_neg hs, if_neg hs, step_down]
      have : s.steps = false := by simpa using hs
      rw [this]
theorem step_half (s : NorS) : s.step.half = s.half := by unfold NorS.step; split <;> rfl
theorem prog_same (xs : List Int) : ∀ (s : NorS) (i : Nat), (s.prog i xs).n = s.n ∧ (s.prog i xs).guard = s.guard ∧ (s.prog i xs).half = s.half := by
  induction xs with
  | nil => intro s i; exact ⟨rfl, rfl, rfl⟩
  | cons x r ih =>
    intro s i
    show (if s.steps = true then _ else _ : NorS).n = _ ∧ (if s.steps = true then _ else _ : NorS).guard = _ ∧ (if s.steps = true then _ else _ : NorS).half = _
    by_cases hs : s.steps = true
    · rw [if_pos hs]
      obtain ⟨a, b, c⟩ := ih (s.step.put i (wand (s.wd i) x)) (i + 1)
      exact ⟨a.trans (step_n s), b.trans (step_guard s), c.trans (step_half s)⟩
    · rw [if_neg hs]; exact ⟨step_n s, step_guard s, step_half s⟩
theorem Ok.prog' (xs : List Int) : ∀ (s : NorS) (i : Nat), s.Ok → (s.prog i xs).Ok := by
  induction xs with
  | nil => intro s i h; exact h
  | cons x r ih =>
    intro s i h
    show (if s.steps = true then _ else _ : NorS).Ok
    by_cases hs : s.steps = true
    · rw [if_pos hs]; exact ih _ _ (h.step.put _ (wand_u32 (h.wd _)))
    · rw [if_neg hs]; exact h.step
end NorS
end Go.Proofs.Ytplngfphklpicaa

/-
  Plain: words from a place on, sector by sector.
-/
namespace Go.Proofs.Ytplngfphklpicaa
/-- where piece j begins, of 'many' words from 'a' on (its end: where the next one begins) -/
def pcur (a many j : Nat) : Nat := min (a + many) (if j = 0 then a else (a / 64 + j) * 64)
/-- how many pieces there are -/
def pnum (a many : Nat) : Nat := if many = 0 then 0 else (a % 64 + many + 63) / 64
/-- how many words piece j has -/
def plen (a many j : Nat) : Nat := pcur a many (j + 1) - pcur a many j
theorem pcur_zero (a many : Nat) : pcur a many 0 = a := by unfold pcur; simp
theorem pcur_last (a many : Nat) : pcur a many (pnum a many) = a + many := by
  unfold pcur pnum
  split
  · simp; omega
  · rw [if_neg (by omega)]; omega
theorem pcur_le (a many j : Nat) : pcur a many j ≤ a + many := by unfold pcur; omega
theorem pcur_ge (a many j : Nat) : a ≤ pcur a many j := by unfold pcur; split <;> omega
theorem pnum_lt {a many j : Nat} : j < pnum a many ↔ pcur a many j < a + many := by
  unfold pcur pnum
  split
  · simp; split <;> omega
  · split
    · rename_i h1 h2; subst h2; omega
    · omega
theorem plen_eq {a many j : Nat} (h : j < pnum a many) : plen a many j = min (a + many - pcur a many j) (64 - pcur a many j % 64) := by
  have h' := pnum_lt.1 h
  unfold plen
  unfold pcur at h' ⊢
  rw [if_neg (show j + 1 ≠ 0 by omega)]
  split at h'
  · rename_i hj; subst hj; rw [if_pos rfl]; omega
  · rename_i hj; rw [if_neg hj]; omega
theorem pcur_next {a many j : Nat} (h : j < pnum a many) : pcur a many (j + 1) = pcur a many j + plen a many j := by
  have h' := pnum_lt.1 h
  unfold plen
  unfold pcur at h' ⊢
  rw [if_neg (show j + 1 ≠ 0 by omega)]
  split at h'
  · rename_i hj; subst hj; rw [if_pos rfl]; omega
  · rename_i hj; rw [if_neg hj]; omega
theorem plen_pos {a many j : Nat} (h : j < pnum a many) : 1 ≤ plen a many j := by
  have h' := pnum_lt.1 h
  rw [plen_eq h]; omega
theorem plen_le {a many j : Nat} (h : j < pnum a many) : pcur a many j % 64 + plen a many j ≤ 64 := by
  rw [plen_eq h]; omega
end Go.Proofs.Ytplngfphklpicaa

/-
  Plain: what a drive does, over a flash.
-/
namespace Go.Proofs.Ytplngfphklpicaa
/-- A drive: its first sector, how many. -/
structure DrvS where
  first : Nat
  many : Nat
namespace DrvS
structure Ok (d : DrvS) (s : NorS) : Prop where
  m : 1 ≤ d.many
  n : d.first + d.many ≤ s.n
/-- the place of its first word -/
def base (d : DrvS) : Nat := d.first * 64
def rdE (d : DrvS) (s : NorS) (a m : Int) : Int := if 0 ≤ a ∧ 0 ≤ m ∧ a ≤ d.many * 64 ∧ m ≤ d.many * 64 - a then (if s.down = true then 40 else 0) else 2
def words (d : DrvS) (s : NorS) (a m : Nat) : List Int := (s.l.drop (d.base + a)).take m
def rd (d : DrvS) (s : NorS) (a m : Int) : List Int := if d.rdE s a m = 0 then d.words s a.toNat m.toNat else []
/-- would a bit have to be set? -/
def sets (d : DrvS) (s : NorS) (a : Nat) (l : List Int) : Bool := (List.range l.length).any fun i => !(wand (l.getD i 0) (s.wd (d.base + a + i)) == l.getD i 0)
def wrE (d : DrvS) (s : NorS) (a : Int) (l : List Int) : Int :=
  if d.rdE s a l.length = 0 then (if d.sets s a.toNat l = true then 50 else if s.progs l = true then 0 else 40) else d.rdE s a l.length
def wr (d : DrvS) (s : NorS) (a : Int) (l : List Int) : NorS :=
  if d.rdE s a l.length = 0 then (if d.sets s a.toNat l = true then s else s.prog (d.base + a.toNat) l) else s
def erE (d : DrvS) (s : NorS) (sec : Int) : Int := if 0 ≤ sec ∧ sec < d.many then s.eraseE (d.first + sec) else 2
def er (d : DrvS) (s : NorS) (sec : Int) : NorS := if 0 ≤ sec ∧ sec < d.many then s.erase (d.first + sec) else s
def blank (d : DrvS) (s : NorS) (a m : Int) : Bool := decide (d.rdE s a m = 0) && (d.rd s a m).all (fun x => x == 4294967295)

theorem rdE_zero {d : DrvS} {s : NorS} {a m : Int} (h : d.rdE s a m = 0) : s.down = false ∧ 0 ≤ a ∧ 0 ≤ m ∧ a ≤ d.many * 64 ∧ m ≤ d.many * 64 - a := by
  unfold rdE at h
  split at h
  · split at h
    · cases h
    · exact ⟨by rename_i h2; simpa using h2, by assumption⟩
  · cases h
theorem rdE_ok {d : DrvS} {s : NorS} {a m : Int} (hd : s.down = false) (h : 0 ≤ a ∧ 0 ≤ m ∧ a ≤ d.many * 64 ∧ m ≤ d.many * 64 - a) : d.rdE s a m = 0 := by
  unfold rdE; rw [if_pos h, if_neg (by rw [hd]; simp)]
theorem words_length {d : DrvS} {s : NorS} (hs : s.Ok) (hd : d.Ok s) {a m : Nat} (h : a + m ≤ d.many * 64) : (d.words s a m).length = m := by
  have := hs.len; have := hd.n
  unfold words base
  simp
  have : (d.first + d.many) * 64 ≤ s.n * 64 := Nat.mul_le_mul_right _ hd.n
  omega
theorem words_get {d : DrvS} {s : NorS} {a m i : Nat} (h : i < m) : (d.words s a m).getD i 0 = s.wd (d.base + a + i) := by
  unfold words NorS.wd
  simp only [List.getD_eq_getElem?_getD]
  rw [List.getElem?_take_of_lt h, List.getElem?_drop]
theorem words_u32 {d : DrvS} {s : NorS} (hs : s.Ok) (a m : Nat) : U32 (d.words s a m) := (hs.u.drop _).take _
/-- what was written is read -/
theorem readback {d : DrvS} {s : NorS} (hs : s.Ok) (hd : d.Ok s) {a : Nat} {l : List Int} (hl : a + l.length ≤ d.many * 64) (hset : d.sets s a l = false) (hp : s.progs l = true) :
    d.words (s.prog (d.base + a) l) a l.length = l := by
  have hlen := hs.len
  have h1 : (d.first + d.many) * 64 ≤ s.n * 64 := Nat.mul_le_mul_right _ hd.n
  have hb : d.base = d.first * 64 := rfl
  have hd' : d.Ok (s.prog (d.base + a) l) := ⟨hd.m, by rw [(NorS.prog_same l s _).1]; exact hd.n⟩
  apply NorS.ext_getD
  · exact words_length (NorS.Ok.prog' l s _ hs) hd' hl
  · intro i hi
    rw [words_length (NorS.Ok.prog' l s _ hs) hd' hl] at hi
    rw [words_get hi]
    unfold NorS.wd
    rw [NorS.prog_l l s _ hs.a0, (NorS.progs_iff l s hs.a0).1 hp, List.take_length, NorS.andL_get _ _ _ _ (by omega), if_pos (by omega)]
    have h2 : (List.range l.length).any (fun i => !(wand (l.getD i 0) (s.wd (d.base + a + i)) == l.getD i 0)) = false := hset
    rw [List.any_eq_false] at h2
    have h3 := h2 i (List.mem_range.2 hi)
    simp only [Bool.not_eq_true', Bool.not_eq_false, beq_iff_eq, Bool.not_eq_true] at h3
    rw [show d.base + a + i - (d.base + a) = i from by omega]
    have h4 : wand (l.getD i 0) (s.wd (d.base + a + i)) = l.getD i 0 := by simpa using h3
    unfold NorS.wd at h4
    unfold wand at h4 ⊢
    rw [Nat.and_comm]; exact h4
end DrvS
end Go.Proofs.Ytplngfphklpicaa

/-
  The drive: how it lies in memory; Open, Part, Sectors, Size, there, Erase.
-/
namespace Go.Proofs.Ytplngfphklpicaa
open Go.RowKit

/-- A drive in memory: block g. -/
def drvCells (p : Nat) (d : DrvS) : Array Value := #[.pointer (some ⟨p, 0, none⟩), .int .i64 d.first, .int .i64 d.many]
structure DrvAt (w : World) (g p : Nat) (d : DrvS) : Prop where
  b : Blk w g 26 (drvCells p d)
namespace DrvAt
variable {w w' : World} {g p : Nat} {d : DrvS}
theorem c0 (h : DrvAt w g p d) : w.cell? ⟨g, 0, none⟩ = some (.pointer (some ⟨p, 0, none⟩)) := h.b.cell 0
theorem c1 (h : DrvAt w g p d) : w.cell? ⟨g, 1, none⟩ = some (.int .i64 d.first) := h.b.cell 1
theorem c2 (h : DrvAt w g p d) : w.cell? ⟨g, 2, none⟩ = some (.int .i64 d.many) := h.b.cell 2
theorem frm {S : Nat → Prop} (h : DrvAt w g p d) (hf : Frm S w w') (hs : ¬ S g) : DrvAt w' g p d := ⟨h.b.frm hf hs⟩
theorem lt (h : DrvAt w g p d) : g < w.heap.size := h.b.lt
theorem ne {p' q c : Nat} {s : NorS} (h : DrvAt w g p d) (hn : NorAt w p' q c s) : g ≠ p' ∧ g ≠ q := by
  refine ⟨?_, ?_⟩
  · rintro rfl
    exact absurd (h.b.inj hn.blk).2 (by decide)
  · rintro rfl
    obtain ⟨cs, hb⟩ := hn.blkq
    exact absurd (h.b.inj hb).2 (by decide)
theorem two {p' q c : Nat} {s : NorS} (h : DrvAt w g p d) (hn : NorAt w p' q c s) : ¬ Two p' q g := fun e => by
  have := h.ne hn
  rcases e with e | e
  · exact this.1 e
  · exact this.2 e
end DrvAt
/-- No drive: nil, or one that Open did not make. -/
def NoDrv (w : World) (v : Value) : Prop := v = .pointer none ∨ ∃ g, v = .pointer (some ⟨g, 0, none⟩) ∧ w.cell? ⟨g, 0, none⟩ = some (.pointer none)

theorem dnone_no (v : Value) (w : World) (h : NoDrv w v) : Calls Try.prog 43 #[v] w fun e w' => e = .returned (.bool true) ∧ w = w' := by
  rcases h with rfl | ⟨g, rfl, hc⟩
  all_goals
    go_enter Try.func43, Try.ntmps43
    go_wp2
    go_ret
    exact ⟨rfl, rfl⟩
/-- are there so many from a place on, of some? -/
def withinB (a m k : Int) : Bool := decide (0 ≤ a ∧ 0 ≤ m ∧ a ≤ k ∧ m ≤ k - a)
theorem within_true {a m k : Int} (h : 0 ≤ a ∧ 0 ≤ m ∧ a ≤ k ∧ m ≤ k - a) : withinB a m k = true := decide_eq_true h
theorem within_false {a m k : Int} (h : ¬ (0 ≤ a ∧ 0 ≤ m ∧ a ≤ k ∧ m ≤ k - a)) : withinB a m k = false := decide_eq_false h
theorem within_is (a m k : Int) (w : World) (hk : 0 ≤ k) (hk2 : k ≤ 9223372036854775807) :
    Calls Try.prog 44 #[.int .i64 a, .int .i64 m, .int .i64 k] w fun e w' => e = .returned (.bool (withinB a m k)) ∧ w = w' := by
  have H : Hid (∀ b : Bool, (b = true ↔ (0 ≤ a ∧ 0 ≤ m ∧ a ≤ k ∧ m ≤ k - a)) → b = withinB a m k) := fun b hb => by rw [Bool.eq_iff_iff, hb]; simp [withinB]
  go_enter Try.func44, Try.ntmps44
  go_wp2
  all_goals
    go_ret
    refine ⟨ret_bool (H.out _ ?_), rfl⟩
    simp
    try omega
section
variable {w : World} {g p q c : Nat} {s : NorS} {d : DrvS}
theorem dnone_is (h : DrvAt w g p d) : Calls Try.prog 43 #[.pointer (some ⟨g, 0, none⟩)] w fun e w' => e = .returned (.bool false) ∧ w = w' := by
  have h0 := h.c0
  clear h
  go_enter Try.func43, Try.ntmps43
  go_wp2
  go_ret
  exact ⟨rfl, rfl⟩
theorem dsectors_is (h : DrvAt w g p d) : Calls Try.prog 14 #[.pointer (some ⟨g, 0, none⟩)] w fun e w' => e = .returned (.int .i64 d.many) ∧ w = w' := by
  have h2 := h.c2
  have H := hide h
  clear h
  go_enter Try.func14, Try.ntmps14
  go_wp2_with (go_at_call 43; refine (dnone_is H.out).mono ?_; rintro e w' ⟨rfl, rfl⟩)
  go_ret
  exact ⟨rfl, rfl⟩
theorem dsize_is (h : DrvAt w g p d) (hd : d.many ≤ 1024) : Calls Try.prog 15 #[.pointer (some ⟨g, 0, none⟩)] w fun e w' => e = .returned (.int .i64 ((d.many : Int) * 64)) ∧ w = w' := by
  have H := hide h
  clear h
  go_enter Try.func15, Try.ntmps15
  go_wp2_with (go_at_call 14; refine (dsectors_is H.out).mono ?_; rintro e w' ⟨rfl, rfl⟩)
  go_ret
  exact ⟨rfl, rfl⟩
/-- what 'there' tells -/
def DrvS.thereE (d : DrvS) (a m : Int) : Int := if 0 ≤ a ∧ 0 ≤ m ∧ a ≤ d.many * 64 ∧ m ≤ d.many * 64 - a then 0 else 2
theorem dthere_is (a m : Int) (h : DrvAt w g p d) (hd : d.many ≤ 1024) : Calls Try.prog 40 #[.pointer (some ⟨g, 0, none⟩), .int .i64 a, .int .i64 m] w fun e w' => e = .returned (.int .i64 (d.thereE a m)) ∧ w = w' := by
  have H := hide h
  clear h
  by_cases ht : 0 ≤ a ∧ 0 ≤ m ∧ a ≤ d.many * 64 ∧ m ≤ d.many * 64 - a
  · have E : Hid (d.thereE a m = 0) := by show _ = _; unfold DrvS.thereE; rw [if_pos ht]
    have e0 : withinB a m ((d.many : Int) * 64) = true := within_true ht
    have E0 := hide e0
    clear ht e0
    go_enter Try.func40, Try.ntmps40
    go_wp2_with (first
      | (go_at_call 43; refine (dnone_is H.out).mono ?_; rintro e w' ⟨rfl, rfl⟩)
      | (go_at_call 15; refine (dsize_is H.out hd).mono ?_; rintro e w' ⟨rfl, rfl⟩)
      | (go_at_call 44; refine (within_is _ _ _ _ (by omega) (by omega)).mono ?_; rw [E0.out]; rintro e w' ⟨rfl, rfl⟩))
    go_ret
    exact ⟨ret_int E.out.symm, rfl⟩
  · have E : Hid (d.thereE a m = 2) := by show _ = _; unfold DrvS.thereE; rw [if_neg ht]
    have e0 : withinB a m ((d.many : Int) * 64) = false := within_false ht
    have E0 := hide e0
    clear ht e0
    go_enter Try.func40, Try.ntmps40
    go_wp2_with (first
      | (go_at_call 43; refine (dnone_is H.out).mono ?_; rintro e w' ⟨rfl, rfl⟩)
      | (go_at_call 15; refine (dsize_is H.out hd).mono ?_; rintro e w' ⟨rfl, rfl⟩)
      | (go_at_call 44; refine (within_is _ _ _ _ (by omega) (by omega)).mono ?_; rw [E0.out]; rintro e w' ⟨rfl, rfl⟩))
    go_ret
    exact ⟨ret_int E.out.symm, rfl⟩
theorem dthere_no (a m : Int) (v : Value) (h : NoDrv w v) : Calls Try.prog 40 #[v, .int .i64 a, .int .i64 m] w fun e w' => e = .returned (.int .i64 1) ∧ w = w' := by
  have H := hide h
  clear h
  go_enter Try.func40, Try.ntmps40
  go_wp2_with (go_at_call 43; refine (dnone_no _ _ H.out).mono ?_; rintro e w' ⟨rfl, rfl⟩)
  go_ret
  exact ⟨rfl, rfl⟩
theorem dsectors_no (v : Value) (h : NoDrv w v) : Calls Try.prog 14 #[v] w fun e w' => e = .returned (.int .i64 0) ∧ w = w' := by
  have H := hide h
  clear h
  go_enter Try.func14, Try.ntmps14
  go_wp2_with (go_at_call 43; refine (dnone_no _ _ H.out).mono ?_; rintro e w' ⟨rfl, rfl⟩)
  go_ret
  exact ⟨rfl, rfl⟩
theorem dsize_no (v : Value) (h : NoDrv w v) : Calls Try.prog 15 #[v] w fun e w' => e = .returned (.int .i64 0) ∧ w = w' := by
  have H := hide h
  clear h
  go_enter Try.func15, Try.ntmps15
  go_wp2_with (go_at_call 14; refine (dsectors_no _ H.out).mono ?_; rintro e w' ⟨rfl, rfl⟩)
  go_ret
  exact ⟨rfl, rfl⟩
/-- Open of sectors that there are -/
theorem dopen_is (a m : Nat) (h : NorAt w p q c s) (hm : 1 ≤ m) (ham : a + m ≤ s.n) :
    Calls Try.prog 16 #[.pointer (some ⟨p, 0, none⟩), .int .i64 a, .int .i64 m] w fun e w' => e = .returned (.tuple #[.pointer (some ⟨w.heap.size, 0, none⟩), .int .i64 0]) ∧ w' = w.alloc (.cells (drvCells p ⟨a, m⟩) 26) := by
  have hn := h.ok.n2
  have hn1 := h.n0
  have H := hide h
  clear h
  have e0 : withinB a m s.n = true := within_true (by omega)
  have E0 := hide e0
  have m1 : decide ((m : Int) < 1) = false := by simp; omega
  clear e0
  go_enter Try.func16, Try.ntmps16
  go_wp2_with (first
    | (go_at_call 50; refine (sectors_is H.out).mono ?_; rintro e w' ⟨rfl, rfl⟩)
    | (go_at_call 44; refine (within_is _ _ _ _ (by omega) (by omega)).mono ?_; rw [E0.out]; rintro e w' ⟨rfl, rfl⟩))
  go_ret2
  exact ⟨rfl, rfl⟩
theorem dopen_bad (a m : Int) (h : NorAt w p q c s) (hb : ¬ (1 ≤ m ∧ 0 ≤ a ∧ a ≤ s.n ∧ m ≤ s.n - a)) :
    Calls Try.prog 16 #[.pointer (some ⟨p, 0, none⟩), .int .i64 a, .int .i64 m] w fun e w' => e = .returned (.tuple #[.pointer none, .int .i64 2]) ∧ w = w' := by
  have hn := h.ok.n2
  have hn1 := h.n0
  have H := hide h
  have HB := hide hb
  clear h hb
  by_cases hm : m < 1
  · go_enter Try.func16, Try.ntmps16
    go_wp2_with (first
      | (go_at_call 50; refine (sectors_is H.out).mono ?_; rintro e w' ⟨rfl, rfl⟩))
    go_ret2
    exact ⟨rfl, rfl⟩
  · have e0 : withinB a m s.n = false := within_false (by have := HB.out; omega)
    have E0 := hide e0
    clear e0
    go_enter Try.func16, Try.ntmps16
    go_wp2_with (first
      | (go_at_call 50; refine (sectors_is H.out).mono ?_; rintro e w' ⟨rfl, rfl⟩)
      | (go_at_call 44; refine (within_is _ _ _ _ (by omega) (by omega)).mono ?_; rw [E0.out]; rintro e w' ⟨rfl, rfl⟩))
    go_ret2
    exact ⟨rfl, rfl⟩
theorem dopen_no (a m : Int) (v : Value) (h : NoNor w v) :
    Calls Try.prog 16 #[v, .int .i64 a, .int .i64 m] w fun e w' => e = .returned (.tuple #[.pointer none, .int .i64 1]) ∧ w = w' := by
  have H := hide h
  clear h
  go_enter Try.func16, Try.ntmps16
  go_wp2_with (first
    | (go_at_call 50; refine (sectors_no _ H.out).mono ?_; rintro e w' ⟨rfl, rfl⟩))
  go_ret2
  exact ⟨rfl, rfl⟩
end
end Go.Proofs.Ytplngfphklpicaa

/-
  Plain, and contracts: the document's drive, out of the printed ones.
-/
namespace Go.Proofs.Ytplngfphklpicaa
open Go.RowKit Go.Proofs.YtplngfphklpicaaW.PrintWords Go.Proofs.Ytplngfphklpicaa.PDrivePlays
/-- the document's drive -/
def drvV (d : DrvS) : Value := .agg #[.int .i64 d.first, .int .i64 d.many]
theorem words_next {d : DrvS} {s : NorS} (hs : s.Ok) (hd : d.Ok s) {a i : Nat} (h : a + i < d.many * 64) : d.words s a i ++ [s.wd (d.base + a + i)] = d.words s a (i + 1) := by
  have hl := hs.len; have hn := hd.n
  have h1 : (d.first + d.many) * 64 ≤ s.n * 64 := Nat.mul_le_mul_right _ hn
  have hb : d.base = d.first * 64 := rfl
  unfold DrvS.words
  have hlt : i < (s.l.drop (d.base + a)).length := by rw [List.length_drop]; omega
  rw [List.take_succ_eq_append_getElem hlt, List.getElem_drop]
  unfold NorS.wd
  rw [List.getD_eq_getElem?_getD, List.getElem?_eq_getElem (by omega)]; rfl
theorem wd_read {d : DrvS} {s : NorS} (hd : d.Ok s) (hdn : s.down = false) {a : Nat} (h : a < d.many * 64) : s.read ((d.first : Int) + Int.tdiv (a : Int) 64) (Int.tmod (a : Int) 64) = s.wd (d.base + a) := by
  have hn := hd.n
  have e1 : Int.tdiv (a : Int) 64 = ((a / 64 : Nat) : Int) := by rw [Int.tdiv_eq_ediv_of_nonneg (by omega)]; omega
  have e2 : Int.tmod (a : Int) 64 = ((a % 64 : Nat) : Int) := by rw [Int.tmod_eq_emod_of_nonneg (by omega)]; omega
  have hb : d.base = d.first * 64 := rfl
  rw [e1, e2]
  have hu : s.up ((d.first : Int) + ((a / 64 : Nat) : Int)) ((a % 64 : Nat) : Int) 1 = 0 := NorS.up_ok (by rw [hdn]; simp) (NorS.there_iff.2 ⟨by omega, by omega, by omega, by omega, by omega⟩)
  unfold NorS.read
  rw [if_pos hu]
  congr 1
  unfold NorS.at_
  omega
theorem dread_l0 (k : Nat) (x2 x3 : Int) (x10 : List Int) (x11 y0 y1 : Int) (z0 : List Int) (z1 z2 : Int) (z3 : Bool) (z4 : Int) : blockhouseref05_Drive_Read.l0 (k + 1) x2 x3 x10 x11 y0 y1 z0 z1 z2 z3 z4 = (if x11 < x3 then ((blockhouseref04_Nor_Read.f z0 z1 z2 z3 z4 (wrap64 (y0 + (wrap64 (Int.tdiv (wrap64 (x2 + x11)) 64)))) (Int.tmod (wrap64 (x2 + x11)) 64)).bind fun bt => (if x10.length < 35184372088832 then (blockhouseref05_Drive_Read.l0 k x2 x3 (x10 ++ [bt.1]) (wrap64 (x11 + 1)) y0 y1 z0 z1 z2 z3 z4) else (none))) else (some (x10, 0))) := rfl
theorem dread_j0 (k : Nat) (x2 x3 : Int) (b : Bool) (y0 y1 : Int) (z0 : List Int) (z1 z2 : Int) (z3 : Bool) (z4 : Int) : blockhouseref05_Drive_Read.j0 (k + 1) x2 x3 b y0 y1 z0 z1 z2 z3 z4 = (if b = true then (some (([] : List Int), 2)) else (if z3 = true then (some (([] : List Int), 40)) else (blockhouseref05_Drive_Read.l0 k x2 x3 ([] : List Int) 0 y0 y1 z0 z1 z2 z3 z4))) := rfl
theorem nat_w64 {n : Nat} (h : n ≤ 1000000) : wrap64 (n : Int) = (n : Int) := w64 (by omega) (by omega)
theorem rf_dread_loop {d : DrvS} {s : NorS} (hs : s.Ok) (hd : d.Ok s) (hdn : s.down = false) {a m : Nat} (h : a + m ≤ d.many * 64) : ∀ (j i k : Nat), m = i + j → j < k →
    blockhouseref05_Drive_Read.l0 k a m (d.words s a i) i d.first d.many s.l s.guard s.arm s.down s.half = some (d.words s a m, 0) := by
  have hn2 := hs.n2; have hn := hd.n
  intro j
  induction j with
  | zero =>
    intro i k hj hk
    obtain ⟨k, rfl⟩ : ∃ q, k = q + 1 := ⟨k - 1, by omega⟩
    rw [dread_l0]
    rw [if_neg (by omega), show i = m from by omega]
  | succ j ih =>
    intro i k hj hk
    obtain ⟨k, rfl⟩ : ∃ q, k = q + 1 := ⟨k - 1, by omega⟩
    rw [dread_l0]
    have c1 : (i : Int) < (m : Int) := by omega
    have c2 : a + i < d.many * 64 := by omega
    have c3 : (d.words s a i).length < 35184372088832 := by rw [DrvS.words_length hs hd (by omega)]; omega
    have c4 := ih (i + 1) k (by omega) (by omega)
    have e4 : wrap64 ((i : Int) + 1) = ((i + 1 : Nat) : Int) := nat_w64 (n := i + 1) (by omega)
    have e0 : wrap64 ((a : Int) + i) = ((a + i : Nat) : Int) := nat_w64 (n := a + i) (by omega)
    obtain ⟨q, hq⟩ : ∃ q, (a + i) / 64 = q := ⟨_, rfl⟩
    have hq2 : q ≤ 1024 := by clear e0 e4; omega
    have e3 : wrap64 ((d.first : Int) + q) = (d.first : Int) + q := nat_w64 (n := d.first + q) (by clear e0 e4; omega)
    have e2 : wrap64 (q : Int) = (q : Int) := nat_w64 (by clear e0 e4 e3; omega)
    have e1 : Int.tdiv ((a + i : Nat) : Int) 64 = (q : Int) := by clear e0 e4 e2 e3; rw [Int.tdiv_eq_ediv_of_nonneg (by omega)]; omega
    rw [if_pos c1, e0, e1, e2, e3, rf_read hs, ← e1]
    simp only [Option.bind_some]
    rw [wd_read hd hdn c2, if_pos c3, e4, ← Nat.add_assoc, words_next hs hd c2]
    exact c4
theorem rf_dread {d : DrvS} {s : NorS} (hs : s.Ok) (hd : d.Ok s) (a m : Int) (ha : -9223372036854775808 ≤ a ∧ a ≤ 9223372036854775807) (hm : -9223372036854775808 ≤ m ∧ m ≤ 9223372036854775807) :
    ∃ k0, ∀ k, k0 ≤ k → blockhouseref05_Drive_Read.f k d.first d.many s.l s.guard s.arm s.down s.half a m = some (d.rd s a m, d.rdE s a m) := by
  have hn2 := hs.n2; have hn := hd.n
  refine ⟨m.toNat + 3, fun k hk => ?_⟩
  obtain ⟨k, rfl⟩ : ∃ q, k = q + 1 := ⟨k - 1, by omega⟩
  unfold blockhouseref05_Drive_Read.f
  have e0 : wrap64 ((d.many : Int) * 64) = (d.many : Int) * 64 := w64 (by omega) (by omega)
  rw [e0]
  have bad : ¬ (0 ≤ a ∧ 0 ≤ m ∧ a ≤ d.many * 64 ∧ m ≤ d.many * 64 - a) → some (([] : List Int), (2 : Int)) = some (d.rd s a m, d.rdE s a m) := fun h => by
    have e : d.rdE s a m = 2 := by unfold DrvS.rdE; rw [if_neg h]
    unfold DrvS.rd
    rw [e, if_neg (by decide)]
  by_cases h1 : a < 0
  · rw [if_pos h1]; rw [dread_j0, if_pos rfl]; exact bad (by omega)
  rw [if_neg h1]
  by_cases h2 : m < 0
  · rw [if_pos h2]; rw [dread_j0, if_pos rfl]; exact bad (by omega)
  rw [if_neg h2]
  by_cases h3 : a > (d.many : Int) * 64
  · rw [if_pos h3]; rw [dread_j0, if_pos rfl]; exact bad (by omega)
  rw [if_neg h3, w64 (by omega) (by omega)]
  rw [dread_j0]
  by_cases h4 : m > (d.many : Int) * 64 - a
  · rw [decide_eq_true h4, if_pos rfl]; exact bad (by omega)
  rw [decide_eq_false h4, if_neg (by simp)]
  obtain ⟨A, rfl⟩ := Int.eq_ofNat_of_zero_le (a := a) (by omega)
  obtain ⟨M, rfl⟩ := Int.eq_ofNat_of_zero_le (a := m) (by omega)
  by_cases hdn : s.down = true
  · rw [if_pos hdn]
    have e : d.rdE s A M = 40 := by unfold DrvS.rdE; rw [if_pos (by omega), if_pos hdn]
    unfold DrvS.rd
    rw [e, if_neg (by decide)]
  · rw [if_neg hdn]
    have hdn' : s.down = false := by simpa using hdn
    have e : d.rdE s A M = 0 := DrvS.rdE_ok hdn' (by omega)
    have hl := rf_dread_loop hs hd hdn' (a := A) (m := M) (by omega) M 0 k (by omega) (by omega)
    have e5 : d.words s A 0 = [] := by unfold DrvS.words; rw [List.take_zero]
    rw [e5] at hl
    have e6 : d.rd s A M = d.words s A M := by unfold DrvS.rd; rw [e, if_pos rfl, Int.toNat_natCast, Int.toNat_natCast]
    rw [e6, e]
    exact hl
theorem rf_blank_loop (l : List Int) (e : Int) (hl : l.length ≤ 1000000) : ∀ (j i k : Nat), l.length = i + j → j < k → blockhouseref05_Drive_Blank.l0 k l e i = some ((l.drop i).all (fun x => x == 4294967295) && (e == 0)) := by
  intro j
  induction j with
  | zero =>
    intro i k hj hk
    obtain ⟨k, rfl⟩ : ∃ q, k = q + 1 := ⟨k - 1, by omega⟩
    simp only [blockhouseref05_Drive_Blank.l0]
    rw [if_neg (by omega), List.drop_of_length_le (by omega)]; rfl
  | succ j ih =>
    intro i k hj hk
    obtain ⟨k, rfl⟩ : ∃ q, k = q + 1 := ⟨k - 1, by omega⟩
    simp only [blockhouseref05_Drive_Blank.l0]
    have e4 : wrap64 ((i : Int) + 1) = ((i + 1 : Nat) : Int) := by rw [w64 (by omega) (by omega)]; rfl
    rw [if_pos (by omega), if_pos (by omega), drop_at (show i < l.length by omega), List.all_cons]
    by_cases h : rd l (i : Int) = 4294967295
    · rw [if_pos h, e4, ih (i + 1) k (by omega) (by omega), h]; rfl
    · rw [if_neg h, beq_eq_false_iff_ne.2 h]; rfl
theorem rf_dblank {d : DrvS} {s : NorS} (hs : s.Ok) (hd : d.Ok s) (a m : Int) (ha : -9223372036854775808 ≤ a ∧ a ≤ 9223372036854775807) (hm : -9223372036854775808 ≤ m ∧ m ≤ 9223372036854775807) :
    ∃ k, blockhouseref05_Drive_Blank.f k d.first d.many s.l s.guard s.arm s.down s.half a m = some (d.blank s a m) := by
  obtain ⟨k0, h⟩ := rf_dread hs hd a m ha hm
  have hn2 := hs.n2; have hn := hd.n
  have hl : (d.rd s a m).length ≤ 1000000 := by
    unfold DrvS.rd
    split
    · rename_i he
      obtain ⟨-, h1, h2, h3, h4⟩ := DrvS.rdE_zero he
      rw [DrvS.words_length hs hd (by omega)]; omega
    · simp
  refine ⟨k0 + (d.rd s a m).length + 1, ?_⟩
  unfold blockhouseref05_Drive_Blank.f
  rw [h _ (by omega)]
  simp only [Option.bind_some]
  have := rf_blank_loop (d.rd s a m) (d.rdE s a m) hl (d.rd s a m).length 0 (k0 + (d.rd s a m).length + 1) (by omega) (by omega)
  rw [List.drop_zero] at this
  refine this.trans ?_
  unfold DrvS.blank
  rw [Bool.and_comm]; rfl
section
variable {w0 w : World} {P : Nat → Prop} {v : Value} {s : NorS} {d : DrvS}
theorem ref_dread (a m : Int) (ha : -9223372036854775808 ≤ a ∧ a ≤ 9223372036854775807) (hm : -9223372036854775808 ≤ m ∧ m ≤ 9223372036854775807) (h : Rf w0 w P v s) (hd : d.Ok s) :
    Calls Try.prog 33 #[drvV d, refV v s, .int .i64 a, .int .i64 m] w fun e w' => ∃ A c, e = .returned (.tuple #[.slice A (d.rd s a m).length c, .int .i64 (d.rdE s a m)]) ∧ Rd w' A (ints .u32 (d.rd s a m)) ∧ (d.rd s a m).length ≤ c ∧ Below w.heap.size w w' := by
  obtain ⟨A0, c0, rfl⟩ := Kd.R_slice h.r
  obtain ⟨-, hl, hC⟩ := Kd.R_reads' h.r
  obtain ⟨k, hf⟩ := rf_dread h.ok hd a m ha hm
  refine (blockhouseref05_Drive_Read.calls k d.first d.many A0 c0 s.l s.guard s.arm s.down s.half a m _ _ w hC hl (hf k (Nat.le_refl _))).mono ?_
  rintro e w' ⟨v', rfl, hr, hb⟩
  obtain ⟨A1, c1, rfl, h1, -, h2⟩ := Rd.of_own (Kd.own_of_R hr)
  exact ⟨A1, c1, rfl, h1, h2, hb⟩
theorem ref_dblank (a m : Int) (ha : -9223372036854775808 ≤ a ∧ a ≤ 9223372036854775807) (hm : -9223372036854775808 ≤ m ∧ m ≤ 9223372036854775807) (h : Rf w0 w P v s) (hd : d.Ok s) :
    Calls Try.prog 38 #[drvV d, refV v s, .int .i64 a, .int .i64 m] w fun e w' => e = .returned (.bool (d.blank s a m)) ∧ Below w.heap.size w w' := by
  obtain ⟨A0, c0, rfl⟩ := Kd.R_slice h.r
  obtain ⟨-, hl, hC⟩ := Kd.R_reads' h.r
  obtain ⟨k, hf⟩ := rf_dblank h.ok hd a m ha hm
  exact blockhouseref05_Drive_Blank.calls k d.first d.many A0 c0 s.l s.guard s.arm s.down s.half a m _ w hC hl hf
end
end Go.Proofs.Ytplngfphklpicaa

/-
  SameNor: a flash beside the document's flash of the same plain model.
-/
namespace Go.Proofs.Ytplngfphklpicaa
open Go.RowKit Go.Proofs.YtplngfphklpicaaW.PrintWords Go.Proofs.Ytplngfphklpicaa.PDrivePlays
section
variable {w0 w : World} {P : Nat → Prop} {v : Value} {s : NorS} {p q c : Nat}
/-- behind j sectors, or places -/
structure SnRel (w : World) (v : Value) (s : NorS) (n : Nat) (i : Value) (wr : World) (j : Nat) : Prop where
  le : j ≤ n
  i : i = .int .i64 j
  b : Blk wr w.heap.size 65 (rcells v s)
  f : Frm NoB w wr
def SnAt (w : World) (v : Value) (s : NorS) (n : Nat) (i : Value) (wr : World) : Prop := ∃ j, SnRel w v s n i wr j

theorem rc_cells {w : World} {g : Nat} {t : TypeId} {v : Value} {s : NorS} (h : Blk w g t (rcells v s)) : w.cell? ⟨g, 0, none⟩ = some v ∧ w.cell? ⟨g, 1, none⟩ = some (.int .i64 s.guard) ∧ w.cell? ⟨g, 2, none⟩ = some (.int .i64 s.arm) ∧ w.cell? ⟨g, 3, none⟩ = some (.bool s.down) ∧ w.cell? ⟨g, 4, none⟩ = some (.int .i64 s.half) :=
  ⟨h.cell 0, h.cell 1, h.cell 2, h.cell 3, h.cell 4⟩
set_option maxRecDepth 100000 in
set_option maxHeartbeats 2000000 in
theorem sameNor_is (h : NorAt w p q c s) (hr : Rf w0 w P v s) :
    Calls Try.prog 39 #[.pointer (some ⟨p, 0, none⟩), refV v s] w fun e w' => e = .returned (.bool true) ∧ Frm NoB w w' := by
  have H := hide h
  have HR := hide hr
  have hn2 := h.ok.n2
  clear h hr
  have n1 : (((s.n : Nat) : Int) != ((s.n : Nat) : Int)) = false := by simp
  have n2 : (s.guard != s.guard) = false := by simp
  have n3 : (s.down != s.down) = false := by simp
  have hB := Blk.new w 65 (rcells v s)
  obtain ⟨m0, m1, m2, m3, m4⟩ := rc_cells hB
  have HB := hide hB
  clear hB
  unfold refV
  go_enter Try.func39, Try.ntmps39
  go_wp2
  go_region_held3 (fun w' => w'.cell? ⟨w.heap.size, 0, none⟩ = some v ∧ w'.cell? ⟨w.heap.size, 1, none⟩ = some (.int .i64 s.guard) ∧ w'.cell? ⟨w.heap.size, 2, none⟩ = some (.int .i64 s.arm) ∧ w'.cell? ⟨w.heap.size, 3, none⟩ = some (.bool s.down) ∧ w'.cell? ⟨w.heap.size, 4, none⟩ = some (.int .i64 s.half)) (go_keep)
    (first
      | (go_at_call 50; refine (sectors_is ((Hid.out H).alloc _).drew).mono ?_; rintro e w' ⟨rfl, rfl⟩)
      | (go_at_call 53; refine (ref_sectors (HR.out.frm (((Frm.refl NoB w).alloc _).drew) (fun _ _ e => e))).mono ?_; rintro e w1 ⟨rfl, hb⟩; have hF1 := (((Frm.refl NoB w).alloc _).drew).trans (Frm.of_below hb NoB); have hB1 := (Blk.drew HB.out).below hb; obtain ⟨m0, m1, m2, m3, m4⟩ := rc_cells hB1; have N1 := hide ((Hid.out H).frm hF1 (fun e => e) (fun e => e)); have HB1 := hide hB1; have HF1 := hide hF1; clear hb hB1 hF1)
      | (go_at_call 60; refine (guard_is (Hid.out N1)).mono ?_; rintro e w' ⟨rfl, rfl⟩)
      | (go_at_call 22; refine (down_is (Hid.out N1)).mono ?_; rintro e w' ⟨rfl, rfl⟩))
  clear m0 m1 m2 m3 m4
  have HB1' := HB1
  go_wp2
  go_loopw [5] (fun i wr => SnAt w v s s.n i wr) (fun i _ => s.n - (intOf i).toNat)
  case atStart => exact ⟨0, by omega, rfl, HB1.out, HF1.out⟩
  case round =>
    obtain ⟨j, hj, rfl, hb, hf⟩ := hrel
    have HBr := hide hb
    have HFr := hide hf
    clear hb hf
    go_wp2_with (first
      | (refine wpList_load_row rfl 65 (.tmp 3) rfl w.heap.size rfl 65 _ (0, 0) _ HBr.out Try.underlying65 rfl ref_size ?_))
    refine (ref_sectors (HR.out.frm HFr.out (fun _ _ e => e))).mono ?_
    rintro e w2 ⟨rfl, hb2⟩
    have HB2 := hide ((Hid.out HBr).below hb2)
    have HF2 := hide ((HFr.out : Frm NoB w wr).trans (Frm.of_below hb2 NoB))
    clear hb2 HBr HFr
    by_cases hlt : j < s.n
    · go_wp2
      obtain ⟨wo, rfl⟩ : ∃ wo : World, wo = w2 := ⟨_, rfl⟩
      go_loopw [6] (fun i wr => SnAt w v s 64 i wr) (fun i _ => 64 - (intOf i).toNat)
      case atStart => exact ⟨0, by omega, rfl, HB2.out, HF2.out⟩
      case round =>
        obtain ⟨k, hk, rfl, hb, hf⟩ := hrel
        have HBr := hide hb
        have HFr := hide hf
        clear hb hf
        by_cases hlt2 : k < 64
        · go_wp2_with (first
            | (go_at_call 42; refine (read_is _ _ ((Hid.out H).frm HFr.out (fun e => e) (fun e => e))).mono ?_; rintro e w' ⟨rfl, rfl⟩)
            | (refine wpList_load_row rfl 65 (.tmp 3) rfl w.heap.size rfl 65 _ (0, 0) _ HBr.out Try.underlying65 rfl ref_size ?_))
          refine (ref_read _ _ (HR.out.frm HFr.out (fun _ _ e => e))).mono ?_
          rintro e w3 ⟨rfl, hb3⟩
          have HB3 := hide ((Hid.out HBr).below hb3)
          have HF3 := hide ((HFr.out : Frm NoB w _).trans (Frm.of_below hb3 NoB))
          clear hb3 HBr HFr
          have t1 : (s.read j k != s.read j k) = false := by simp
          have t2 : (s.up j k 1 != s.up j k 1) = false := by simp
          go_wp2
          go_roundw
          case rel => exact ⟨k + 1, by omega, by go_num, HB3.out, HF3.out⟩
          case measure => simp [intOf]; omega
        · go_wp2
          go_roundw
          case rel => exact ⟨j + 1, by omega, by go_num, HBr.out, HFr.out⟩
          case measure => simp [intOf]; omega
    · go_wp2
      go_ret
      exact ⟨rfl, HF2.out⟩
end
end Go.Proofs.Ytplngfphklpicaa

/-
  The document's drive: Open, Part, Erase, walked by hand.
-/
namespace Go.Proofs.Ytplngfphklpicaa
open Go.RowKit Go.Proofs.YtplngfphklpicaaW.PrintWords Go.Proofs.Ytplngfphklpicaa.PDrivePlays
theorem drv_size : (Try.prog.info? 69).map (·.size) = some 2 := by kernel_rfl
theorem Blk.new3 (w : World) (X : Obj) (t : TypeId) (cs : Array Value) (k : Nat) (hk : k = w.heap.size + 1) : Blk ((w.alloc X).alloc (.cells cs t)) k t cs := by subst hk; exact Blk.new2 w X t cs
theorem two_boxes2 {w w1 : World} {a b : Array Value} {T U : TypeId} (hb : Frm NoB ((w.alloc (.cells a T)).alloc (.cells b U)) w1) :
    Blk w1 w.heap.size T a ∧ Blk w1 (w.heap.size + 1) U b ∧ Frm NoB w w1 :=
  ⟨((Blk.new w T a).alloc _).frm hb (fun e => e), (Blk.new2 w _ U b).frm hb (fun e => e), (((Frm.refl NoB w).alloc _).alloc _).trans hb⟩
theorem dcells_all (a b : Int) : (#[Value.int .i64 a, .int .i64 b]).all (·.oneCell') = true := by simp [Value.oneCell']
section
variable {w0 w : World} {P : Nat → Prop} {v : Value} {s : NorS} {d : DrvS}
set_option maxRecDepth 100000 in
set_option maxHeartbeats 1000000 in
theorem ref_dopen_bad (a m : Int) (h : Rf w0 w P v s) (hb : ¬ (1 ≤ m ∧ 0 ≤ a ∧ a ≤ s.n ∧ m ≤ s.n - a)) :
    Calls Try.prog 29 #[refV v s, .int .i64 a, .int .i64 m] w fun e w' => e = .returned (.tuple #[.agg #[.int .i64 0, .int .i64 0], .int .i64 2]) ∧ Frm NoB w w' := by
  obtain ⟨A, c, rfl⟩ := Kd.R_slice h.r
  have n2 := h.ok.n2
  have H := hide h
  clear h
  by_cases h1 : m < 1
  · have z1 : decide (m < 1) = true := decide_eq_true h1
    clear h1 hb
    unfold refV
    go_enter Try.func29, Try.ntmps29
    go_wp2
    refine bodyPost_ret (results_cell_tmp_row rfl _ _ (w.heap.size + 1) 69 _ (0, 0) _ rfl (Blk.new2 _ _ _ _) Try.underlying69 rfl drv_size) rfl ⟨rfl, ((Frm.refl NoB w).alloc _).alloc _⟩
  have z1 : decide (m < 1) = false := decide_eq_false h1
  by_cases h2 : a < 0
  · have z2 : decide (a < 0) = true := decide_eq_true h2
    clear h1 h2 hb
    unfold refV
    go_enter Try.func29, Try.ntmps29
    go_wp2
    refine bodyPost_ret (results_cell_tmp_row rfl _ _ (w.heap.size + 1) 69 _ (0, 0) _ rfl (Blk.new2 _ _ _ _) Try.underlying69 rfl drv_size) rfl ⟨rfl, ((Frm.refl NoB w).alloc _).alloc _⟩
  have z2 : decide (a < 0) = false := decide_eq_false h2
  by_cases h3 : (s.n : Int) < a
  · have z3 : decide ((s.n : Int) < a) = true := decide_eq_true h3
    clear h1 h2 h3 hb
    unfold refV
    go_enter Try.func29, Try.ntmps29
    go_wp2_with fail
    have K := fun (W : World) (hf : Frm NoB w W) => ref_sectors (H.out.frm hf (fun _ _ e => e))
    simp only [refV] at K
    refine (K _ (((Frm.refl NoB w).alloc _).alloc _)).mono ?_
    clear K
    rintro e w1 ⟨rfl, hb1⟩
    obtain ⟨hX, hY, hF⟩ := two_boxes2 (Frm.of_below hb1 NoB)
    have HX := hide hX
    have HY := hide hY
    have HF := hide hF
    clear hb1 hX hY hF
    have y0 := Blk.cell HY.out 0
    have y1 := Blk.cell HY.out 1
    have x0 := Blk.frozen HY.out 0
    have x1 := Blk.frozen HY.out 1
    go_wp2_with (first
      | (refine wpList_store_row rfl 69 (.tmp 6) (.tmp 28) rfl (w.heap.size + 1) _ rfl rfl 69 _ HY.out drv_size rfl (dcells_all _ _) ?_))
    refine bodyPost_ret (results_cell_tmp_row rfl _ _ (w.heap.size + 1) 69 #[.int .i64 0, .int .i64 0] (0, 0) _ rfl (Blk.setRow HY.out _) Try.underlying69 rfl drv_size) rfl ⟨rfl, (Hid.out HF).setRow (.inr (by omega)) _⟩
  · have z3 : decide ((s.n : Int) < a) = false := decide_eq_false h3
    have z4 : decide ((s.n : Int) - a < m) = true := decide_eq_true (by omega)
    have wr : IntKind.i64.wrap ((s.n : Int) - a) = (s.n : Int) - a := IntWalk.i64_in _ (by omega)
    clear h1 h2 h3 hb
    unfold refV
    go_enter Try.func29, Try.ntmps29
    go_wp2_with fail
    have K := fun (W : World) (hf : Frm NoB w W) => ref_sectors (H.out.frm hf (fun _ _ e => e))
    simp only [refV] at K
    refine (K _ (((Frm.refl NoB w).alloc _).alloc _)).mono ?_
    clear K
    rintro e w1 ⟨rfl, hb1⟩
    obtain ⟨hX, hY, hF⟩ := two_boxes2 (Frm.of_below hb1 NoB)
    have HX := hide hX
    have HY := hide hY
    have HF := hide hF
    clear hb1 hX hY hF
    obtain ⟨m0, m1, m2, m3, m4⟩ := rc_cells HX.out
    go_wp2_with fail
    have K := fun (W : World) (hf : Frm NoB w W) => ref_sectors (H.out.frm hf (fun _ _ e => e))
    simp only [refV] at K
    refine (K _ HF.out).mono ?_
    clear K
    rintro e w2 ⟨rfl, hb1⟩
    have hf2 := Frm.of_below hb1 NoB
    have HY := hide (Blk.frm HY.out hf2 (fun e => e))
    have HF := hide ((Hid.out HF).trans hf2)
    clear hb1 hf2
    have y0 := Blk.cell HY.out 0
    have y1 := Blk.cell HY.out 1
    have x0 := Blk.frozen HY.out 0
    have x1 := Blk.frozen HY.out 1
    go_wp2_with (first
      | (refine wpList_store_row rfl 69 (.tmp 6) (.tmp 28) rfl (w.heap.size + 1) _ rfl rfl 69 _ HY.out drv_size rfl (dcells_all _ _) ?_))
    refine bodyPost_ret (results_cell_tmp_row rfl _ _ (w.heap.size + 1) 69 #[.int .i64 0, .int .i64 0] (0, 0) _ rfl (Blk.setRow HY.out _) Try.underlying69 rfl drv_size) rfl ⟨rfl, (Hid.out HF).setRow (.inr (by omega)) _⟩
set_option maxRecDepth 100000 in
set_option maxHeartbeats 1000000 in
theorem ref_dopen_is (a m : Nat) (h : Rf w0 w P v s) (hm : 1 ≤ m) (ham : a + m ≤ s.n) :
    Calls Try.prog 29 #[refV v s, .int .i64 a, .int .i64 m] w fun e w' => e = .returned (.tuple #[drvV ⟨a, m⟩, .int .i64 0]) ∧ Frm NoB w w' := by
  obtain ⟨A, c, rfl⟩ := Kd.R_slice h.r
  have n2 := h.ok.n2
  have H := hide h
  have z1 : decide ((m : Int) < 1) = false := decide_eq_false (by omega)
  have z2 : decide ((a : Int) < 0) = false := decide_eq_false (by omega)
  have z3 : decide ((s.n : Int) < (a : Int)) = false := decide_eq_false (by omega)
  have z3' : decide (s.n < a) = false := decide_eq_false (by omega)
  have z4 : decide ((s.n : Int) - (a : Int) < (m : Int)) = false := decide_eq_false (by omega)
  have wr : IntKind.i64.wrap ((s.n : Int) - (a : Int)) = (s.n : Int) - (a : Int) := IntWalk.i64_in _ (by omega)
  clear h hm ham
  unfold refV
  go_enter Try.func29, Try.ntmps29
  go_wp2_with fail
  have K := fun (W : World) (hf : Frm NoB w W) => ref_sectors (H.out.frm hf (fun _ _ e => e))
  simp only [refV] at K
  refine (K _ (((Frm.refl NoB w).alloc _).alloc _)).mono ?_
  clear K
  rintro e w1 ⟨rfl, hb1⟩
  obtain ⟨hX, hY, hF⟩ := two_boxes2 (Frm.of_below hb1 NoB)
  have HX := hide hX
  have HY := hide hY
  have HF := hide hF
  clear hb1 hX hY hF
  obtain ⟨m0, m1, m2, m3, m4⟩ := rc_cells HX.out
  go_wp2_with fail
  have K := fun (W : World) (hf : Frm NoB w W) => ref_sectors (H.out.frm hf (fun _ _ e => e))
  simp only [refV] at K
  refine (K _ HF.out).mono ?_
  clear K
  rintro e w2 ⟨rfl, hb1⟩
  have hf2 := Frm.of_below hb1 NoB
  have HY := hide (Blk.frm HY.out hf2 (fun e => e))
  have HF := hide ((Hid.out HF).trans hf2)
  clear hb1 hf2
  have y0 := Blk.cell HY.out 0
  have y1 := Blk.cell HY.out 1
  have x0 := Blk.frozen HY.out 0
  have x1 := Blk.frozen HY.out 1
  go_wp2_with (first
    | (refine wpList_store_row rfl 69 (.tmp 6) (.tmp 31) rfl (w.heap.size + 1) _ rfl rfl 69 _ HY.out drv_size rfl (dcells_all _ _) ?_))
  refine bodyPost_ret (results_cell_tmp_row rfl _ _ (w.heap.size + 1) 69 #[.int .i64 a, .int .i64 m] (0, 0) _ rfl (Blk.setRow HY.out _) Try.underlying69 rfl drv_size) rfl ⟨rfl, (Hid.out HF).setRow (.inr (by omega)) _⟩
theorem ref_dpart_is (a m : Nat) (hd : d.first + d.many ≤ 1024) (hm : 1 ≤ m) (ham : a + m ≤ d.many) (w : World) :
    Calls Try.prog 30 #[drvV d, .int .i64 a, .int .i64 m] w fun e w' => e = .returned (.tuple #[drvV ⟨d.first + a, m⟩, .int .i64 0]) ∧ Frm NoB w w' := by
  have hf : blockhouseref05_Drive_Part.f d.first d.many a m = some (((d.first + a : Nat) : Int), (m : Int), 0) := by
    unfold blockhouseref05_Drive_Part.f
    have e1 : wrap64 ((d.many : Int) - a) = (d.many : Int) - a := w64 (by omega) (by omega)
    have e2 : wrap64 ((d.first : Int) + a) = ((d.first + a : Nat) : Int) := nat_w64 (n := d.first + a) (by omega)
    rw [if_neg (by clear e1 e2; omega), if_neg (by clear e1 e2; omega), if_neg (by clear e1 e2; omega), e1, if_neg (by clear e1 e2; omega), e2]
  refine (blockhouseref05_Drive_Part.calls d.first d.many a m _ _ _ w hf).mono ?_
  rintro e w' ⟨rfl, hb⟩
  exact ⟨rfl, Frm.of_below hb NoB⟩
theorem ref_dpart_bad (a m : Int) (hd : d.first + d.many ≤ 1024) (hb : ¬ (1 ≤ m ∧ 0 ≤ a ∧ a ≤ d.many ∧ m ≤ d.many - a)) (w : World) :
    Calls Try.prog 30 #[drvV d, .int .i64 a, .int .i64 m] w fun e w' => e = .returned (.tuple #[.agg #[.int .i64 0, .int .i64 0], .int .i64 2]) ∧ Frm NoB w w' := by
  have hf : blockhouseref05_Drive_Part.f d.first d.many a m = some (0, 0, 2) := by
    unfold blockhouseref05_Drive_Part.f
    by_cases h1 : m < 1
    · rw [if_pos h1]
    rw [if_neg h1]
    by_cases h2 : a < 0
    · rw [if_pos h2]
    rw [if_neg h2]
    by_cases h3 : a > d.many
    · rw [if_pos h3]
    rw [if_neg h3, w64 (by omega) (by omega), if_pos (by omega)]
  refine (blockhouseref05_Drive_Part.calls d.first d.many a m _ _ _ w hf).mono ?_
  rintro e w' ⟨rfl, hb⟩
  exact ⟨rfl, Frm.of_below hb NoB⟩
/-- the boxes of a call of the document's drive: the drive, the flash, the result -/
structure Boxes (w W : World) (d : DrvS) (v : Value) (s : NorS) (r : Array Value) : Prop where
  d : Blk W w.heap.size 69 #[.int .i64 d.first, .int .i64 d.many]
  n : Blk W (w.heap.size + 1) 65 (rcells v s)
  r : Blk W (w.heap.size + 2) 65 r
theorem Boxes.new (w : World) (d : DrvS) (v : Value) (s : NorS) : Boxes w (((w.alloc (.cells #[.int .i64 d.first, .int .i64 d.many] 69)).alloc (.cells (rcells v s) 65)).alloc (.cells rzero 65)) d v s rzero := by
  refine ⟨((Blk.new w _ _).alloc _).alloc _, (Blk.new2 w _ _ _).alloc _, ?_⟩
  have := Blk.new2 (w.alloc (.cells #[.int .i64 d.first, .int .i64 d.many] 69)) (.cells (rcells v s) 65) 65 rzero
  simp only [World.size_alloc] at this
  exact this
theorem Boxes.frm {S : Nat → Prop} {w W W' : World} {d : DrvS} {v : Value} {s : NorS} {r : Array Value} (h : Boxes w W d v s r) (hf : Frm S W W') (hs : ∀ k, S k → k < w.heap.size ∨ w.heap.size + 3 ≤ k) : Boxes w W' d v s r :=
  ⟨h.d.frm hf (fun e => by have := hs _ e; omega), h.n.frm hf (fun e => by have := hs _ e; omega), h.r.frm hf (fun e => by have := hs _ e; omega)⟩
theorem boxes_frm (w : World) (d : DrvS) (v : Value) (s : NorS) : Frm NoB w (((w.alloc (.cells #[.int .i64 d.first, .int .i64 d.many] 69)).alloc (.cells (rcells v s) 65)).alloc (.cells rzero 65)) :=
  (((Frm.refl NoB w).alloc _).alloc _).alloc _
set_option maxRecDepth 100000 in
set_option maxHeartbeats 1000000 in
theorem ref_derase_bad (sec : Int) (h : Rf w0 w P v s) (hB : Below w0.heap.size w0 w) (hb : ¬ (0 ≤ sec ∧ sec < d.many)) :
    Calls Try.prog 32 #[drvV d, refV v s, .int .i64 sec] w (RfPostE w0 w P (d.er s sec) (d.erE s sec)) := by
  have E : Hid (d.er s sec = s) := by show _ = _; unfold DrvS.er; rw [if_neg hb]
  have E' : Hid (d.erE s sec = 2) := by show _ = _; unfold DrvS.erE; rw [if_neg hb]
  have hw0 := hB.size
  have H := hide h
  have HB := hide hB
  obtain ⟨A, c, rfl⟩ := Kd.R_slice h.r
  have hc : sec < 0 ∨ (d.many : Int) ≤ sec := by omega
  clear hb h hB
  unfold refV drvV
  rcases hc with hc | hc
  · have z1 : decide (sec < 0) = true := decide_eq_true hc
    clear hc
    go_enter Try.func32, Try.ntmps32
    go_wp2
    have hr := Blk.new2 (((w.alloc (.cells #[.int .i64 d.first, .int .i64 d.many] 69)))) (.cells (rcells (.slice A s.l.length c) s) 65) 65 (rcells (.slice A s.l.length c) s)
    simp only [World.size_alloc] at hr
    refine bodyPost_ret (results_cell_tmp_row rfl _ _ (w.heap.size + 1 + 1) 65 _ (0, 0) _ rfl hr Try.underlying65 rfl ref_size) rfl ⟨.slice A s.l.length c, ret_agg2 ?_ ?_, ?_, ?_, ?_⟩
    · rw [E.out]; rfl
    · rw [E'.out]; rfl
    · rw [E.out]; exact (H.out.frm ((((Frm.refl NoB w).alloc _).alloc _).alloc _) (fun _ _ e => e)).mono (fun _ hk => .inl hk)
    · exact below_alloc (below_alloc (below_alloc HB.out _) _) _
    · exact (((Frm.refl P w).alloc _).alloc _).alloc _
  · have z1 : decide (sec < 0) = false := decide_eq_false (by omega)
    have z2 : decide ((d.many : Int) ≤ sec) = true := decide_eq_true hc
    clear hc
    go_enter Try.func32, Try.ntmps32
    go_wp2
    have hr := Blk.new2 (((w.alloc (.cells #[.int .i64 d.first, .int .i64 d.many] 69)))) (.cells (rcells (.slice A s.l.length c) s) 65) 65 (rcells (.slice A s.l.length c) s)
    simp only [World.size_alloc] at hr
    refine bodyPost_ret (results_cell_tmp_row rfl _ _ (w.heap.size + 1 + 1) 65 _ (0, 0) _ rfl hr Try.underlying65 rfl ref_size) rfl ⟨.slice A s.l.length c, ret_agg2 ?_ ?_, ?_, ?_, ?_⟩
    · rw [E.out]; rfl
    · rw [E'.out]; rfl
    · rw [E.out]; exact (H.out.frm ((((Frm.refl NoB w).alloc _).alloc _).alloc _) (fun _ _ e => e)).mono (fun _ hk => .inl hk)
    · exact below_alloc (below_alloc (below_alloc HB.out _) _) _
    · exact (((Frm.refl P w).alloc _).alloc _).alloc _
set_option maxRecDepth 100000 in
set_option maxHeartbeats 1000000 in
theorem ref_derase_ok (sec : Int) (h : Rf w0 w P v s) (hB : Below w0.heap.size w0 w) (hd : d.first + d.many ≤ 1024) (hb : 0 ≤ sec ∧ sec < d.many) (hok : (d.er s sec).Ok) :
    Calls Try.prog 32 #[drvV d, refV v s, .int .i64 sec] w (RfPostE w0 w P (d.er s sec) (d.erE s sec)) := by
  have e1 : d.er s sec = s.erase (d.first + sec) := by unfold DrvS.er; rw [if_pos hb]
  have e2 : d.erE s sec = s.eraseE (d.first + sec) := by unfold DrvS.erE; rw [if_pos hb]
  rw [e1] at hok ⊢
  rw [e2]
  have hw0 := hB.size
  have H := hide h
  have HB := hide hB
  have HOK := hide hok
  obtain ⟨A, c, rfl⟩ := Kd.R_slice h.r
  have z1 : decide (sec < 0) = false := decide_eq_false (by omega)
  have z2 : decide ((d.many : Int) ≤ sec) = false := decide_eq_false (by omega)
  have wq : IntKind.i64.wrap ((d.first : Int) + sec) = (d.first : Int) + sec := IntWalk.i64_in _ (by omega)
  clear h hB hok hb e1 e2
  unfold refV drvV
  have K := fun (W : World) (hf : Frm NoB w W) => ref_erase (w0 := w0) (w := W) ((d.first : Int) + sec) (H.out.small.frm hf (fun _ _ e => e)) (below_step HB.out (hf.below (fun _ _ e => e))) HOK.out
  have HK := hide K
  clear K
  go_enter Try.func32, Try.ntmps32
  go_wp2_with fail
  have K := HK.out _ (boxes_frm w d (.slice A s.l.length c) s)
  simp only [refV, rcells, rzero] at K
  refine K.mono ?_
  clear K
  rintro e w2 ⟨v2, rfl, hR2, hB2, hF2⟩
  obtain ⟨A2, c2, rfl⟩ := Kd.R_slice hR2.r
  have hbx := (Boxes.new w d (.slice A s.l.length c) s).frm hF2 (fun k hk => .inl hk.2)
  have HX := hide hbx
  have HR2 := hide hR2
  have HB2 := hide hB2
  have HF2 := hide ((boxes_frm w d (.slice A s.l.length c) s).mono (fun _ _ e => e.elim) |>.trans (hF2.mono (fun k _ e => e.1)) : Frm P w w2)
  have hsz := hF2.size
  simp only [World.size_alloc] at hsz
  clear hbx hR2 hB2 hF2
  go_wp2_with (first
    | (refine wpList_store_row rfl 65 (.tmp 6) (.tmp 23) rfl (w.heap.size + 1 + 1) _ rfl rfl 65 _ (Boxes.r HX.out) ref_size rfl (rcells_all _ _ _ _) ?_))
  have hff : Frm (fun k => k = w.heap.size + 1 + 1) w2 (w2.setRow (w.heap.size + 1 + 1) (rcells (.slice A2 (s.erase ((d.first : Int) + sec)).l.length c2) (s.erase ((d.first : Int) + sec)))) := Frm.setRow (S := fun k => k = w.heap.size + 1 + 1) (Frm.refl _ w2) (g := w.heap.size + 1 + 1) (.inl rfl) _
  have hr2 := HR2.out.mono (Q := fun k => (P k ∧ k < w.heap.size) ∨ w.heap.size + 3 ≤ k) (fun k hk => by
    rcases hk with hk | hk
    · exact .inl hk
    · simp only [World.size_alloc] at hk; exact .inr (by omega))
  refine bodyPost_ret (results_cell_tmp_row rfl _ _ (w.heap.size + 1 + 1) 65 (rcells (.slice A2 (s.erase ((d.first : Int) + sec)).l.length c2) (s.erase ((d.first : Int) + sec))) (0, 0) _ rfl (Blk.setRow (Boxes.r HX.out) _) Try.underlying65 rfl ref_size) rfl ⟨.slice A2 (s.erase ((d.first : Int) + sec)).l.length c2, rfl, ?_, below_setRow HB2.out (by omega) _, HF2.out.setRow (.inr (by omega)) _⟩
  exact (hr2.frm hff (fun k hk e => by rcases hk with hk | hk <;> omega)).mono (fun k hk => by rcases hk with hk | hk; exact .inl hk.1; exact .inr (by omega))
theorem ref_derase (sec : Int) (h : Rf w0 w P v s) (hB : Below w0.heap.size w0 w) (hd : d.first + d.many ≤ 1024) (hok : (d.er s sec).Ok) :
    Calls Try.prog 32 #[drvV d, refV v s, .int .i64 sec] w (RfPostE w0 w P (d.er s sec) (d.erE s sec)) := by
  by_cases hb : 0 ≤ sec ∧ sec < d.many
  · exact ref_derase_ok sec h hB hd hb hok
  · exact ref_derase_bad sec h hB hb
end
end Go.Proofs.Ytplngfphklpicaa

/-
  The drive: Part, Erase, pieces.
-/
namespace Go.Proofs.Ytplngfphklpicaa
open Go.RowKit
section
variable {w : World} {g p q c : Nat} {s : NorS} {d : DrvS}
theorem dpart_is (a m : Nat) (h : DrvAt w g p d) (hd : d.first + d.many ≤ 1024) (hm : 1 ≤ m) (ham : a + m ≤ d.many) :
    Calls Try.prog 10 #[.pointer (some ⟨g, 0, none⟩), .int .i64 a, .int .i64 m] w fun e w' => ∃ g', e = .returned (.tuple #[.pointer (some ⟨g', 0, none⟩), .int .i64 0]) ∧ DrvAt w' g' p ⟨d.first + a, m⟩ ∧ w.heap.size ≤ g' ∧ Frm NoB w w' := by
  have c0 := h.c0; have c1 := h.c1; have c2 := h.c2
  have H := hide h
  clear h
  have e0 : withinB a m d.many = true := within_true (by omega)
  have E0 := hide e0
  have m1 : decide ((m : Int) < 1) = false := by simp; omega
  have hw1 : IntKind.i64.wrap ((d.first : Int) + a) = (d.first : Int) + a := IntWalk.i64_in _ (by omega)
  clear e0
  go_enter Try.func10, Try.ntmps10
  go_wp2_with (first
    | (go_at_call 43; refine (dnone_is H.out).mono ?_; rintro e w' ⟨rfl, rfl⟩)
    | (go_at_call 44; refine (within_is _ _ _ _ (by omega) (by omega)).mono ?_; rw [E0.out]; rintro e w' ⟨rfl, rfl⟩))
  go_region_held3 (fun w' => w'.cell? ⟨g, 0, none⟩ = some (.pointer (some ⟨p, 0, none⟩)) ∧ w'.cell? ⟨g, 1, none⟩ = some (.int .i64 d.first)) (go_keep) (fail)
  all_goals
    go_wp2
    go_ret2
    refine ⟨_, rfl, ⟨?_⟩, Nat.le_refl _, ((Frm.refl NoB w).drew).alloc _⟩
    exact Blk.new w.drew 26 (drvCells p ⟨d.first + a, m⟩)
theorem dpart_bad (a m : Int) (h : DrvAt w g p d) (hd : d.first + d.many ≤ 1024) (hb : ¬ (1 ≤ m ∧ 0 ≤ a ∧ a ≤ d.many ∧ m ≤ d.many - a)) :
    Calls Try.prog 10 #[.pointer (some ⟨g, 0, none⟩), .int .i64 a, .int .i64 m] w fun e w' => e = .returned (.tuple #[.pointer none, .int .i64 2]) ∧ w = w' := by
  have c0 := h.c0; have c1 := h.c1; have c2 := h.c2
  have H := hide h
  have HB := hide hb
  clear h hb
  by_cases hm : m < 1
  · go_enter Try.func10, Try.ntmps10
    go_wp2_with (first
      | (go_at_call 43; refine (dnone_is H.out).mono ?_; rintro e w' ⟨rfl, rfl⟩))
    go_ret2
    exact ⟨rfl, rfl⟩
  · have e0 : withinB a m d.many = false := within_false (by have := HB.out; omega)
    have E0 := hide e0
    clear e0
    go_enter Try.func10, Try.ntmps10
    go_wp2_with (first
      | (go_at_call 43; refine (dnone_is H.out).mono ?_; rintro e w' ⟨rfl, rfl⟩)
      | (go_at_call 44; refine (within_is _ _ _ _ (by omega) (by omega)).mono ?_; rw [E0.out]; rintro e w' ⟨rfl, rfl⟩))
    go_ret2
    exact ⟨rfl, rfl⟩
theorem dpart_no (a m : Int) (v : Value) (h : NoDrv w v) :
    Calls Try.prog 10 #[v, .int .i64 a, .int .i64 m] w fun e w' => e = .returned (.tuple #[.pointer none, .int .i64 1]) ∧ w = w' := by
  have H := hide h
  clear h
  go_enter Try.func10, Try.ntmps10
  go_wp2_with (go_at_call 43; refine (dnone_no _ _ H.out).mono ?_; rintro e w' ⟨rfl, rfl⟩)
  go_ret2
  exact ⟨rfl, rfl⟩
theorem derase_is (sec : Int) (h : DrvAt w g p d) (hn : NorAt w p q c s) (hd : d.first + d.many ≤ 1024) (hs : -9223372036854775808 ≤ sec) :
    Calls Try.prog 12 #[.pointer (some ⟨g, 0, none⟩), .int .i64 sec] w fun e w' => e = .returned (.int .i64 (d.erE s sec)) ∧ NorAt w' p q c (d.er s sec) ∧ Frm (Two p q) w w' := by
  have c0 := h.c0; have c1 := h.c1; have c2 := h.c2
  have H := hide h
  have HN := hide hn
  clear h hn
  by_cases hb : 0 ≤ sec ∧ sec < d.many
  · have E : Hid (d.er s sec = s.erase (d.first + sec)) := by show _ = _; unfold DrvS.er; rw [if_pos hb]
    have E' : Hid (d.erE s sec = s.eraseE (d.first + sec)) := by show _ = _; unfold DrvS.erE; rw [if_pos hb]
    obtain ⟨h0, h1⟩ := hb
    have hw1 : IntKind.i64.wrap ((d.first : Int) + sec) = (d.first : Int) + sec := IntWalk.i64_in _ (by omega)
    have HND := hide ((Hid.out HN).drew)
    go_enter Try.func12, Try.ntmps12
    go_wp2_with (first
      | (go_at_call 43; refine (dnone_is H.out).mono ?_; rintro e w' ⟨rfl, rfl⟩))
    go_region_held3 (fun w' => w'.cell? ⟨g, 0, none⟩ = some (.pointer (some ⟨p, 0, none⟩)) ∧ w'.cell? ⟨g, 1, none⟩ = some (.int .i64 d.first)) (go_keep)
      (first
        | (go_at_call 47; refine (erase_is _ HND.out).mono ?_; rintro e w1 ⟨rfl, hN1, hF1⟩; have D1 := H.out.frm (((Frm.refl _ w).drew).trans hF1) (H.out.two HN.out); have d0 := D1.c0; have d1 := D1.c1))
    all_goals
      have HN1 := hide hN1
      clear hN1 D1 d0 d1
      go_wp2
      go_ret
      exact ⟨ret_int E'.out.symm, by rw [E.out]; exact HN1.out, ((Frm.refl _ w).drew).trans hF1⟩
  · have E : Hid (d.er s sec = s) := by show _ = _; unfold DrvS.er; rw [if_neg hb]
    have E' : Hid (d.erE s sec = 2) := by show _ = _; unfold DrvS.erE; rw [if_neg hb]
    have hcs : sec < 0 ∨ (d.many : Int) ≤ sec := by omega
    clear hb
    by_cases h1 : sec < 0
    · go_enter Try.func12, Try.ntmps12
      go_wp2_with (first
        | (go_at_call 43; refine (dnone_is H.out).mono ?_; rintro e w' ⟨rfl, rfl⟩))
      go_ret
      exact ⟨ret_int E'.out.symm, by rw [E.out]; exact HN.out, Frm.refl _ _⟩
    · have h2 : (d.many : Int) ≤ sec := by omega
      go_enter Try.func12, Try.ntmps12
      go_wp2_with (first
        | (go_at_call 43; refine (dnone_is H.out).mono ?_; rintro e w' ⟨rfl, rfl⟩))
      go_ret
      exact ⟨ret_int E'.out.symm, by rw [E.out]; exact HN.out, Frm.refl _ _⟩
theorem derase_no (sec : Int) (v : Value) (h : NoDrv w v) :
    Calls Try.prog 12 #[v, .int .i64 sec] w fun e w' => e = .returned (.int .i64 1) ∧ w = w' := by
  have H := hide h
  clear h
  go_enter Try.func12, Try.ntmps12
  go_wp2_with (go_at_call 43; refine (dnone_no _ _ H.out).mono ?_; rintro e w' ⟨rfl, rfl⟩)
  go_ret
  exact ⟨rfl, rfl⟩
/-- the iterator of words from a place on: three boxes -/
theorem dpieces_is (a m : Int) (g : Nat) :
    Calls Try.prog 41 #[.pointer (some ⟨g, 0, none⟩), .int .i64 a, .int .i64 m] w fun e w' =>
      e = .returned (.func (.func 61) #[] #[.pointer (some ⟨w.heap.size + 2, 0, none⟩), .pointer (some ⟨w.heap.size + 1, 0, none⟩), .pointer (some ⟨w.heap.size, 0, none⟩)]) ∧
      w' = ((w.alloc (.cells #[.pointer (some ⟨g, 0, none⟩)] 23)).alloc (.cells #[.int .i64 a] 3)).alloc (.cells #[.int .i64 m] 3) := by
  go_enter Try.func41, Try.ntmps41
  go_wp2
  go_ret
  exact ⟨rfl, rfl⟩
end
end Go.Proofs.Ytplngfphklpicaa

/-
  A range over a function whose iterator tells a given list, and may write blocks of its own (U), and reads blocks that the body keeps (V).
-/
namespace Go.Proofs.Ytplngfphklpicaa
open Go.RowKit

/-- blocks of T are as they were -/
def Keep (T : Nat → Prop) (A B : World) : Prop := A.heap.size ≤ B.heap.size ∧ ∀ k, T k → k < A.heap.size → B.heap[k]? = A.heap[k]?
theorem Keep.refl (T : Nat → Prop) (A : World) : Keep T A A := ⟨Nat.le_refl _, fun _ _ _ => rfl⟩
theorem Keep.trans {T : Nat → Prop} {A B C : World} (h : Keep T A B) (k : Keep T B C) : Keep T A C :=
  ⟨Nat.le_trans h.1 k.1, fun i hi hl => (k.2 i hi (Nat.lt_of_lt_of_le hl h.1)).trans (h.2 i hi hl)⟩
theorem Keep.mono {T T' : Nat → Prop} {A B : World} (h : Keep T A B) (hs : ∀ k, T' k → T k) : Keep T' A B := ⟨h.1, fun i hi hl => h.2 i (hs i hi) hl⟩
theorem Keep.of_frm {S T : Nat → Prop} {A B : World} (h : Frm S A B) (hs : ∀ k, T k → ¬ S k) : Keep T A B := ⟨h.size, fun i hi hl => h.block i hl (hs i hi)⟩
theorem Frm.putObj {S : Nat → Prop} {w W : World} (h : Frm S w W) {l : Nat} (o : Obj) (hl : S l ∨ w.heap.size ≤ l) : Frm S w (W.putObj l o) :=
  h.grown (grownBy_putObj' W l o) (fun g e hg => by cases e; rcases hl with hl | hl; exact hl; omega)

/-- An iterator that tells the list 'full', one by one. -/
def SeqL {α : Type} (F : Fence) (n : Nat) (P : Program) (g : Nat) (lb : Array Value) (encs : α → Array Value) (U V : Nat → Prop) (full : List α) (w : World) : Prop :=
  ∀ (l : Nat) (J Jx : List α → World → Prop) (W : World), Frm NoB w W → (∀ s A B, J s A → Frm U A B → J s B) → (∀ s A B, Jx s A → Frm U A B → Jx s B) →
    (∀ pre x W1, J pre W1 → (pre ++ [x]) <+: full → YieldAt F (n - 1) P l (encs x) W1 fun e W' =>
      (e = .returned (.bool true) ∧ J (pre ++ [x]) W' ∧ Keep (fun k => U k ∨ V k) W1 W') ∨ (e = .returned (.bool false) ∧ Jx (pre ++ [x]) W')) →
    J [] W →
    CallsIn F n P g (#[.func (.yield l) #[] #[]] ++ lb) W fun e W' => (∃ v, e = .returned v) ∧ (J full W' ∨ (∃ pre, pre <+: full ∧ Jx pre W'))

/-- How the body of a round may be left. -/
def postL {α : Type} (T L : Nat → Prop) (I : List α → World → Prop) (Ix : Code → List α → World → Prop) (xs : List α) (W : World) : Exit → Act → World → Prop
  | .normal, _, W' => Keep T W W' ∧ I xs W'
  | .ret, _, W' => Keep L W W' ∧ Ix .ret xs W'
  | .exit id, _, W' => Keep L W W' ∧ Ix (.exit id) xs W'
  | .goto t, _, W' => Keep L W W' ∧ Ix (.goto t) xs W'
  | .panic _, _, _ => False
  | .outgrown, _, _ => False

/-- the loop's own two blocks -/
def LoopB (B : Nat) : Nat → Prop := fun k => k = B ∨ k = B + 1

variable {F : Fence} {n : Nat} {P : Program}

theorem wpIn_rangeL {α : Type} {g : Operand} {ps : Array Tmp} {assign body : Code} {Q : Exit → Act → World → Prop} {a : Act} {w : World}
    (hro : F.round = none) (h1 : 1 ≤ n) {gf : Nat} {lb : Array Value} (hg : a.eval g = .func (.func gf) #[] lb) (hFg : F.fn gf) (eg : ∀ args w, (callFunc gf args).run P w = .ok (.enter gf args) w)
    {encs : α → Array Value} {U V : Nat → Prop} {full : List α} (hseq : SeqL F (n - 1) P gf lb encs U V full w) (hU : ∀ k, U k → k < w.heap.size) (hps : ∀ x, (encs x).size = ps.size)
    (I : List α → World → Prop) (Ix : Code → List α → World → Prop)
    (hI : ∀ s A B, I s A → Frm (fun k => U k ∨ LoopB w.heap.size k) A B → I s B) (hIx : ∀ c s A B, Ix c s A → Frm (fun k => U k ∨ LoopB w.heap.size k) A B → Ix c s B) (h0 : I [] w)
    (Ax : α → Act → World → Prop) (hAx : ∀ x a' A B, Ax x a' A → Frm (fun k => U k ∨ LoopB w.heap.size k) A B → Ax x a' B)
    (hassign : ∀ (l : Nat) (pre : List α) (x : α) (W : World) (K : Act → World → Prop), w.heap.size + 1 < W.heap.size → I pre W → (∀ a' W', Keep (fun k => (U k ∨ V k) ∨ LoopB w.heap.size k) W W' → I pre W' → Ax x a' W' → K a' W') →
      assign.wpIn (F.inRound l) (n - 1 - 1) P (Exit.then K (fun _ _ _ => False)) { tmps := (ps.zip (encs x)).foldl (fun t (p, v) => t.setIfInBounds p v) a.tmps, defers := [] } W)
    (hbody : ∀ (l : Nat) (pre : List α) (x : α) (a' : Act) (W : World), w.heap.size + 1 < W.heap.size → I pre W → Ax x a' W → (pre ++ [x]) <+: full → body.wpIn (F.inRound l) (n - 1 - 1) P (postL (fun k => (U k ∨ V k) ∨ LoopB w.heap.size k) (LoopB w.heap.size) I Ix (pre ++ [x]) W) a' W)
    (hV : ∀ k, V k → k < w.heap.size)
    (hdone : ∀ (W : World), I full W → W.heap[w.heap.size]? = some (.deferred (some [])) → Q .normal { a with defers := { target := .collected w.heap.size, args := #[] } :: a.defers } W)
    (hstop : ∀ (c : Code) (pre : List α) (W : World), pre <+: full → Ix c pre W → W.heap[w.heap.size]? = some (.deferred (some [])) → c.wpIn F n P Q { a with defers := { target := .collected w.heap.size, args := #[] } :: a.defers } W) :
    (Code.rangeFunc g ps assign body).wpIn F n P Q a w := by
  refine wpIn_rangeFunc ?_
  intro fn hfn
  rw [hro]
  obtain ⟨rec, hrec⟩ : ∃ rec : LoopState → Option Code → Loop, rec = fun st pe => { state := st, pending := pe, fn, tmps := a.tmps, params := ps, assign, body, defers := w.heap.size } := ⟨_, rfl⟩
  obtain ⟨W1, hW1⟩ : ∃ W1, (w.alloc (.deferred (some []))).alloc (.loop (rec .ready none)) = W1 := ⟨_, rfl⟩
  have hL1 : W1.heap[w.heap.size + 1]? = some (.loop (rec .ready none)) := by
    rw [← hW1]; have := World.alloc_heap_new (w.alloc (.deferred (some []))) (.loop (rec .ready none)); rwa [World.size_alloc] at this
  have hK1 : W1.heap[w.heap.size]? = some (.deferred (some [])) := by
    rw [← hW1]; exact (Below.heap_alloc _ _ _ (by simp)).trans (World.alloc_heap_new w _)
  have hF1 : ∀ S, Frm S w W1 := fun S => by rw [← hW1]; exact ((Frm.refl S w).alloc _).alloc _
  have hI1 : I [] W1 := hI _ _ _ h0 (hF1 _)
  refine ⟨w.heap.size + 1, [{ target := .collected w.heap.size, args := #[] }], W1, { target := .fn (.func gf) lb, args := #[.func (.yield (w.heap.size + 1)) #[] #[]] }, W1, gf,
    #[.func (.yield (w.heap.size + 1)) #[] #[]] ++ lb, W1, ?_, ?_, ?_, ?_, fun _ => h1, ?_⟩
  · rw [← hW1, hrec]; exact run_enterLoop_outer _ _ _ _ _
  · simp only [resolve, hg]
    simp [go_sem]
  · intro f' hf'; simp [Target.leads] at hf'; subst hf'; exact hFg
  · simp [invoke, go_sem, eg]
  · have keepB : ∀ {A B : World}, Frm U A B → ∀ {k : Nat} {o : Obj}, (k = w.heap.size ∨ k = w.heap.size + 1) → A.heap[k]? = some o → B.heap[k]? = some o := fun hf k o hk ho =>
      (hf.block k (Array.getElem?_eq_some_iff.1 ho).1 (fun e => by have := hU k e; omega)).trans ho
    have hput : ∀ (W : World) (o : Obj), Frm (fun k => U k ∨ LoopB w.heap.size k) W (W.putObj (w.heap.size + 1) o) := fun W o => (Frm.refl _ W).putObj o (.inl (.inr (.inr rfl)))
    refine (hseq (w.heap.size + 1)
      (fun pre W => I pre W ∧ W.heap[w.heap.size + 1]? = some (.loop (rec .ready none)) ∧ W.heap[w.heap.size]? = some (.deferred (some [])))
      (fun pre W => ∃ c, Ix c pre W ∧ W.heap[w.heap.size + 1]? = some (.loop (rec .done (some c))) ∧ W.heap[w.heap.size]? = some (.deferred (some [])))
      W1 (hF1 _)
      (fun s A B hs hf => ⟨hI s A B hs.1 (hf.mono (fun _ _ e => .inl e)), keepB hf (.inr rfl) hs.2.1, keepB hf (.inl rfl) hs.2.2⟩)
      (fun s A B hs hf => by
        obtain ⟨c, hc, hl, hk⟩ := hs
        exact ⟨c, hIx c s A B hc (hf.mono (fun _ _ e => .inl e)), keepB hf (.inr rfl) hl, keepB hf (.inl rfl) hk⟩)
      ?_ ⟨hI1, hL1, hK1⟩).mono ?_
    · -- one round
      rintro pre x W ⟨hi, hl, hk⟩ hpre
      have hlt : w.heap.size + 1 < W.heap.size := (Array.getElem?_eq_some_iff.1 hl).1
      have hy := run_yield (P := P) (args := encs x) hl (by rw [hrec]; exact hps x)
      rw [hrec] at hy
      refine ⟨fn, _, assign, body, hy, roundIn_of_wpIn hfn (hassign _ pre x W _ hlt hi ?_)⟩
      clear hy
      intro a' Wa hka hia hax
      have hla := (hka.2 _ (.inr (.inr rfl)) (by omega)).trans hl
      have hda := (hka.2 _ (.inr (.inl rfl)) (by omega)).trans hk
      have hlta : w.heap.size + 1 < Wa.heap.size := (Array.getElem?_eq_some_iff.1 hla).1
      refine ⟨_, run_beginRound hla (by rw [hrec]), ?_⟩
      have hl2 : (Wa.putObj (w.heap.size + 1) (.loop { rec .ready none with state := .busy })).heap[w.heap.size + 1]? = some (.loop { rec .ready none with state := .busy }) := World.putObj_heap_same hlta
      have hk2 : (Wa.putObj (w.heap.size + 1) (.loop { rec .ready none with state := .busy })).heap[w.heap.size]? = some (.deferred (some [])) := (World.putObj_heap_other (by omega)).trans hda
      refine wpIn_mono (hbody _ pre x a' _ (by simp; omega) (hI _ _ _ hia (hput _ _)) (hAx x a' _ _ hax (hput _ _)) hpre) ?_
      have fin : ∀ (jump : Option Code) (W3 : World), Keep (LoopB w.heap.size) (Wa.putObj (w.heap.size + 1) (.loop { rec .ready none with state := .busy })) W3 →
          (Instr.endRound (w.heap.size + 1) jump).run P W3 = .ok (.bool jump.isNone) (W3.putObj (w.heap.size + 1) (.loop (rec (if jump.isNone then .ready else .done) jump))) ∧
          (W3.putObj (w.heap.size + 1) (.loop (rec (if jump.isNone then .ready else .done) jump))).heap[w.heap.size + 1]? = some (.loop (rec (if jump.isNone then .ready else .done) jump)) ∧
          (W3.putObj (w.heap.size + 1) (.loop (rec (if jump.isNone then .ready else .done) jump))).heap[w.heap.size]? = some (.deferred (some [])) := fun jump W3 hk3 => by
        have hl3 := (hk3.2 _ (.inr rfl) (by simp; omega)).trans hl2
        have := run_endRound (P := P) jump hl3
        rw [hrec] at this ⊢
        exact ⟨this, World.putObj_heap_same (Array.getElem?_eq_some_iff.1 hl3).1, (World.putObj_heap_other (by omega)).trans ((hk3.2 _ (.inl rfl) (by simp; omega)).trans hk2)⟩
      rintro e a3 W3 hp
      cases e with
      | normal =>
        obtain ⟨hk3, hi3⟩ := hp
        obtain ⟨hr, hl4, hk4⟩ := fin none W3 (hk3.mono (fun _ e => .inr e))
        refine ⟨_, _, hr, .inl ⟨rfl, ⟨hI _ _ _ hi3 (hput _ _), hl4, hk4⟩, ?_⟩⟩
        refine ⟨by have h1 := hka.1; have h2 := hk3.1; simp only [World.putObj_size] at h2 ⊢; omega, fun k hT hlt' => ?_⟩
        have hkB : k < w.heap.size := by rcases hT with h | h; exact hU k h; exact hV k h
        have e1 := hka.2 k (.inl hT) hlt'
        have hlta' : k < Wa.heap.size := Nat.lt_of_lt_of_le hlt' hka.1
        have e2 := hk3.2 k (.inl hT) (by simp; exact hlta')
        rw [World.putObj_heap_other (show k ≠ w.heap.size + 1 by omega), e2, World.putObj_heap_other (show k ≠ w.heap.size + 1 by omega), e1]
      | ret =>
        obtain ⟨hk3, hi3⟩ := hp
        obtain ⟨hr, hl4, hk4⟩ := fin (some .ret) W3 hk3
        exact ⟨_, _, hr, .inr ⟨rfl, .ret, hIx _ _ _ _ hi3 (hput _ _), hl4, hk4⟩⟩
      | exit id =>
        obtain ⟨hk3, hi3⟩ := hp
        obtain ⟨hr, hl4, hk4⟩ := fin (some (.exit id)) W3 hk3
        exact ⟨_, _, hr, .inr ⟨rfl, .exit id, hIx _ _ _ _ hi3 (hput _ _), hl4, hk4⟩⟩
      | goto t =>
        obtain ⟨hk3, hi3⟩ := hp
        obtain ⟨hr, hl4, hk4⟩ := fin (some (.goto t)) W3 hk3
        exact ⟨_, _, hr, .inr ⟨rfl, .goto t, hIx _ _ _ _ hi3 (hput _ _), hl4, hk4⟩⟩
      | panic ch => exact hp.elim
      | outgrown => exact hp.elim
    · -- behind the iterator
      rintro e W2 ⟨⟨v, rfl⟩, (⟨hi, hl, hk⟩ | ⟨pre, hSp, c, hi, hl, hk⟩)⟩
      · exact ⟨none, _, by have := run_endLoop (P := P) hl (by rw [hrec]; simp); rw [hrec] at this; exact this, hdone _ (hI _ _ _ hi (hput _ _)) ((World.putObj_heap_other (by omega)).trans hk)⟩
      · exact ⟨some c, _, by have := run_endLoop (P := P) hl (by rw [hrec]; simp); rw [hrec] at this; exact this, hstop c pre _ hSp (hIx c _ _ _ hi (hput _ _)) ((World.putObj_heap_other (by omega)).trans hk)⟩
end Go.Proofs.Ytplngfphklpicaa

/-
  Operations and regions within a round of a range over a function: as everywhere.
-/
namespace Go.Proofs.Ytplngfphklpicaa
open Go.RowKit
variable {P : Program} {n l₀ : Nat}

/-- it is no defer statement -/
def Oper.calm (o : Oper) : Bool := match o.op with | .defer _ => false | _ => true
theorem Oper.calm_ne {o : Oper} (h : Oper.calm o = true) : ∀ c, o.op ≠ .defer c := fun c e => by
  unfold Oper.calm at h; rw [e] at h; cases h
theorem callsIn_round {f : FuncId} {args : Array Value} {w : World} {R : Ending → World → Prop} (h : Calls P f args w R) : CallsIn (Fence.wide.inRound l₀) n P f args w R := CallsIn.inRound l₀ (callsIn_wide.2 h)
theorem room_wide' (k : Nat) : Fence.wide.room k := by simp [Fence.room, Fence.wide]
theorem rowsIn_round {row : String} {args : Array Value} {w : World} {R : Value → World → Prop} (h : Rows P row args w R) : RowsIn (Fence.wide.inRound l₀) n P row args w R := by
  intro c cs _
  obtain ⟨v, w', r, s⟩ := h c cs
  exact ⟨v, w', r, stepsIn_wide.2 s⟩
theorem opIn_of_op {o : Oper} {a : Act} {w : World} {K : Act → World → Prop} {Q : Exit → Act → World → Prop} (hc : Oper.calm o = true) (h : o.wp P a w K Q) : o.wpIn (Fence.wide.inRound l₀) n P a w K Q := by
  unfold Oper.wpIn
  refine ⟨fun _ _ => trivial, ?_⟩
  rw [Oper.semAt_plain _ _ _ (Oper.calm_ne hc)]
  unfold Oper.wp at h
  generalize (execOp a.eval o).run P w = r at *
  cases r with
  | ok x w' =>
    cases x <;> simp only [Oper.upon, Oper.uponIn] at h ⊢ <;>
      first
        | exact h
        | exact ⟨fun e => absurd e (by simp [Fence.wide]), callsIn_round h⟩
        | exact ⟨fun e => absurd e (by simp [Fence.wide]), rowsIn_round h⟩
        | exact h.elim
  | halt x w' => cases x <;> simp only [Oper.upon, Oper.uponIn] at h ⊢ <;> exact h

/-- an operation of a plain region -/
theorem listIn_of_op {ops : Array Oper} {rest : List Oper} {o : Oper} {a : Act} {w : World} {Q : Exit → Act → World → Prop} (hg : o.guard = none) (hc : Oper.calm o = true)
    (h : ∀ K : Act → World → Prop, (∀ a w, wpListIn (Fence.wide.inRound l₀) n P ops Q rest a w → K a w) → o.wp P a w K Q) : wpListIn (Fence.wide.inRound l₀) n P ops Q (o :: rest) a w :=
  wpListIn_plain hg (fun K hK => opIn_of_op hc (h K hK))
theorem calm_all {l : List Oper} (h : l.all (fun o => Oper.calm o) = true) {i : Nat} {o : Oper} (hi : l.toArray[i]? = some o) : Oper.calm o = true := by
  rw [List.getElem?_toArray] at hi
  exact List.all_eq_true.1 h o (List.mem_of_getElem? hi)
theorem anyIn_of_any {md : Region.Mode} {l : List Oper} {Q : Exit → Act → World → Prop} (hc : l.all (fun o => Oper.calm o) = true) (hQ : ¬ LetsOut Q) : ∀ (fuel : Nat) (listed : Array Bool) (a : Act) (w : World),
    wpAny P md l.toArray Q fuel listed a w → wpAnyIn (Fence.wide.inRound l₀) n P md l.toArray Q fuel listed a w
  | 0, _, _, _, h => h
  | fuel + 1, listed, a, w, h => ⟨h.1, fun i hi => by
      have h2 := h.2 i hi
      unfold wpOp at h2
      unfold wpOpIn
      cases hl : l.toArray[i]? with
      | none => rw [hl] at h2; exact anyIn_of_any hc hQ fuel _ _ _ h2
      | some o =>
        rw [hl] at h2
        simp only at h2 ⊢
        by_cases hw : Region.wanted o (yielded l.toArray a.tmps) = true
        · rw [if_pos hw] at h2 ⊢
          refine opIn_of_op (calm_all hc hl) ?_
          rcases h2 with h2 | h2
          · exact Oper.wp_mono (fun a' w' h3 => anyIn_of_any hc hQ fuel _ _ _ h3) h2
          · exact absurd h2.2 hQ
        · rw [if_neg hw] at h2 ⊢
          exact ⟨fun _ _ => trivial, anyIn_of_any hc hQ fuel _ _ _ h2⟩⟩
theorem opIn_of_qOp {l : List Oper} {C : World → Prop} (hc : l.all (fun o => Oper.calm o) = true) {i : Nat} {a : Act} {K : Act → Prop} {K' : Act → World → Prop} {Q' : Exit → Act → World → Prop} {w : World} (hC : C w) (h : ∀ a w', C w' → K a → K' a w')
    (hh : qOp P l.toArray C i K a) : wpOpIn (Fence.wide.inRound l₀) n P l.toArray Q' i K' a w := by
  unfold qOp at hh
  unfold wpOpIn
  cases hl : l.toArray[i]? with
  | none => rw [hl] at hh; exact h _ _ hC hh
  | some o =>
    rw [hl] at hh
    simp only at hh ⊢
    by_cases hw : Region.wanted o (yielded l.toArray a.tmps) = true
    · rw [if_pos hw] at hh ⊢
      exact opIn_of_op (calm_all hc hl) (Oper.wp_of_quiet hC h hh)
    · rw [if_neg hw] at hh ⊢
      exact ⟨fun _ _ => trivial, h _ _ hC hh⟩
theorem anyIn_of_quiet {md : Region.Mode} {l : List Oper} {C : World → Prop} {Q : Act → Prop} {Q' : Exit → Act → World → Prop} (hc : l.all (fun o => Oper.calm o) = true) (hQ : ∀ a w, C w → Q a → Q' .normal a w) : ∀ (fuel : Nat) (listed : Array Bool) (a : Act) (w : World), C w →
    wpAnyQ P md l.toArray C Q fuel listed a → wpAnyIn (Fence.wide.inRound l₀) n P md l.toArray Q' fuel listed a w
  | 0, _, _, _, hw, h => ⟨h.1, hQ _ _ hw h.2⟩
  | fuel + 1, _, _, _, hw, h => ⟨fun h0 => hQ _ _ hw (h.1 h0), fun i hi => opIn_of_qOp hc hw (fun a' w' hw' => anyIn_of_quiet hc hQ fuel _ a' w' hw') (h.2 i hi)⟩
/-- A region that draws its order, within a round, its operations quiet. -/
theorem region_quiet_round {id : Nat} {Q : Exit → Act → World → Prop} {a : Act} {w : World} {l : List Oper} (hm : P.follows .mixedOrders = true) (hB : Region.lexB .any l.toArray = true) (hc : l.all (fun o => Oper.calm o) = true)
    (h : wpQuiet P l.toArray (fun w' => ∃ n, w' = w.drewN n) (fun a' => ∀ w', (∃ n, w' = w.drewN n) → Q .normal a' w') l a) : (Code.region id l.toArray true).wpIn (Fence.wide.inRound l₀) n P Q a w := by
  have hB' := hB
  simp only [Region.lexB, Bool.and_eq_true] at hB'
  refine wpIn_region_any hm (anyIn_of_quiet (C := fun w' => ∃ n, w' = w.drewN n) (Q := fun a' => ∀ w', (∃ n, w' = w.drewN n) → Q .normal a' w') hc (fun _ w' hw' h => h w' hw') _ _ _ _ ⟨1, rfl⟩ ?_)
  have := wpAnyQ_lex (C := fun w' => ∃ n, w' = w.drewN n) (md := .any) hB'.1 l.toArray.toList 0 (Array.replicate l.toArray.size false) a (by simp) (by simpa using hB'.2) (by simpa using h)
  simpa using this
end Go.Proofs.Ytplngfphklpicaa

/-
  drive.pieces: its iterator's contract.
-/
namespace Go.Proofs.Ytplngfphklpicaa
open Go.RowKit
attribute [local go_sem] Oper.semAt_some

/-- what a round is handed: a sector, a place in it, how many words -/
def pieceV (first a m j : Nat) : Array Value := #[.agg #[.int .i64 ((first : Int) + (pcur a m j : Int) / 64), .int .i64 ((pcur a m j : Int) % 64)], .int .i64 (plen a m j)]
/-- how many words are left -/
def leftOf (bm : Nat) (w : World) : Nat := match w.cell? ⟨bm, 0, none⟩ with | some (.int _ n) => n.toNat | _ => 0
/-- behind j pieces -/
structure PieceRel (bm ba bd dp first a m : Nat) (J : List Nat → World → Prop) (W wr : World) (j x left : Nat) : Prop where
  le : j ≤ pnum a m
  hx : x = pcur a m j
  hl : x + left = a + m
  cm : wr.cell? ⟨bm, 0, none⟩ = some (.int .i64 left)
  ca : wr.cell? ⟨ba, 0, none⟩ = some (.int .i64 x)
  fm : wr.frozen? ⟨bm, 0, none⟩ = false
  fa : wr.frozen? ⟨ba, 0, none⟩ = false
  cd : wr.cell? ⟨bd, 0, none⟩ = some (.pointer (some ⟨dp, 0, none⟩))
  cf : wr.cell? ⟨dp, 1, none⟩ = some (.int .i64 first)
  J : J (List.range j) wr

theorem range_pre {j m : Nat} (h : j < m) : List.range j ++ [j] <+: List.range m := by
  rw [← List.range_succ]
  exact ⟨List.map (fun i => j + 1 + i) (List.range (m - (j + 1))), by rw [← List.range_add]; congr 1; omega⟩
theorem round_bool {F : Fence} {n l : Nat} {P : Program} {fn : FuncId} {tmps : Array Value} {assign body : Code} {W : World} {A B : World → Prop}
    (h : RoundIn F n P l fn tmps assign body W fun e W' => (e = .returned (.bool true) ∧ A W') ∨ (e = .returned (.bool false) ∧ B W')) :
    RoundIn F n P l fn tmps assign body W fun e W' => ∃ b : Bool, e = .returned (.bool b) ∧ ((b = true ∧ A W') ∨ (b = false ∧ B W')) :=
  h.mono (fun e W' hh => by
    rcases hh with ⟨rfl, ha⟩ | ⟨rfl, hb⟩
    · exact ⟨true, rfl, .inl ⟨rfl, ha⟩⟩
    · exact ⟨false, rfl, .inr ⟨rfl, hb⟩⟩)
theorem PieceRel.after {bm ba bd dp first a m : Nat} {J : List Nat → World → Prop} {W wr W3 : World} {j x left : Nat} (h : PieceRel bm ba bd dp first a m J W wr j x left) (hlt : j < pnum a m)
    (hk : Keep (fun k => Two bm ba k ∨ Two bd dp k) wr.drew W3) :
    W3.cell? ⟨bm, 0, none⟩ = some (.int .i64 left) ∧ W3.cell? ⟨ba, 0, none⟩ = some (.int .i64 x) ∧ W3.frozen? ⟨bm, 0, none⟩ = false ∧ W3.frozen? ⟨ba, 0, none⟩ = false ∧
    W3.cell? ⟨bd, 0, none⟩ = some (.pointer (some ⟨dp, 0, none⟩)) ∧ W3.cell? ⟨dp, 1, none⟩ = some (.int .i64 first) := by
  have k1 := hk.2 bm (.inl (.inl rfl)) (World.block_lt_of_cell? wr _ h.cm)
  have k2 := hk.2 ba (.inl (.inr rfl)) (World.block_lt_of_cell? wr _ h.ca)
  have k3 := hk.2 bd (.inr (.inl rfl)) (World.block_lt_of_cell? wr _ h.cd)
  have k4 := hk.2 dp (.inr (.inr rfl)) (World.block_lt_of_cell? wr ⟨dp, 1, none⟩ h.cf)
  exact ⟨(World.cell?_of_block k1).trans h.cm, (World.cell?_of_block k2).trans h.ca, (World.frozen?_of_block k1).trans h.fm, (World.frozen?_of_block k2).trans h.fa, (World.cell?_of_block k3).trans h.cd, (World.cell?_of_block k4).trans h.cf⟩
theorem two_sets {W : World} {p q : Nat} {a b : Value} (hpq : p ≠ q) (u v : Value) (hp : W.cell? ⟨p, 0, none⟩ = some a) (hq : W.cell? ⟨q, 0, none⟩ = some b) (fp : W.frozen? ⟨p, 0, none⟩ = false) (fq : W.frozen? ⟨q, 0, none⟩ = false) :
    (((W.setCell ⟨p, 0, none⟩ u).setCell ⟨q, 0, none⟩ v).drew.cell? ⟨p, 0, none⟩ = some u ∧ ((W.setCell ⟨p, 0, none⟩ u).setCell ⟨q, 0, none⟩ v).drew.cell? ⟨q, 0, none⟩ = some v) ∧
    (((W.setCell ⟨p, 0, none⟩ u).setCell ⟨q, 0, none⟩ v).drew.frozen? ⟨p, 0, none⟩ = false ∧ ((W.setCell ⟨p, 0, none⟩ u).setCell ⟨q, 0, none⟩ v).drew.frozen? ⟨q, 0, none⟩ = false) ∧
    Frm (Two p q) W ((W.setCell ⟨p, 0, none⟩ u).setCell ⟨q, 0, none⟩ v).drew := by
  have h1 : (W.setCell ⟨p, 0, none⟩ u).cell? ⟨p, 0, none⟩ = some u := World.cell?_setCell_same W ⟨p, 0, none⟩ u hp
  have h2 : (W.setCell ⟨p, 0, none⟩ u).cell? ⟨q, 0, none⟩ = some b := (World.cell?_setCell_other W ⟨p, 0, none⟩ ⟨q, 0, none⟩ u (by simp [hpq])).trans hq
  refine ⟨⟨?_, ?_⟩, ⟨?_, ?_⟩, ?_⟩
  · show ((W.setCell ⟨p, 0, none⟩ u).setCell ⟨q, 0, none⟩ v).cell? _ = _
    rw [World.cell?_setCell_other _ _ _ _ (by simp [Ne.symm hpq])]; exact h1
  · exact World.cell?_setCell_same _ ⟨q, 0, none⟩ v h2
  · show ((W.setCell ⟨p, 0, none⟩ u).setCell ⟨q, 0, none⟩ v).frozen? _ = _
    rw [World.frozen?_setCell, World.frozen?_setCell]; exact fp
  · show ((W.setCell ⟨p, 0, none⟩ u).setCell ⟨q, 0, none⟩ v).frozen? _ = _
    rw [World.frozen?_setCell, World.frozen?_setCell]; exact fq
  · exact (((Frm.refl _ W).setCell (p := ⟨p, 0, none⟩) (.inl (.inl rfl)) u).setCell (p := ⟨q, 0, none⟩) (.inl (.inr rfl)) v).drew
theorem PieceRel.next {bm ba bd dp first a m : Nat} {J : List Nat → World → Prop} {W wr W3 w' : World} {j x left x' left' : Nat} (h : PieceRel bm ba bd dp first a m J W wr j x left) (hlt : j < pnum a m)
    (h1 : bm ≠ bd) (h2 : bm ≠ dp) (h3 : ba ≠ bd) (h4 : ba ≠ dp)
    (hJ : ∀ s A B, J s A → Frm (Two bm ba) A B → J s B) (hJ3 : J (List.range j ++ [j]) W3) (hk : Keep (fun k => Two bm ba k ∨ Two bd dp k) wr.drew W3) (hf : Frm (Two bm ba) W3 w')
    (hx : x' = x + plen a m j) (hl : left' + plen a m j = left) (cm : w'.cell? ⟨bm, 0, none⟩ = some (.int .i64 left')) (ca : w'.cell? ⟨ba, 0, none⟩ = some (.int .i64 x')) (fm : w'.frozen? ⟨bm, 0, none⟩ = false) (fa : w'.frozen? ⟨ba, 0, none⟩ = false) :
    (∃ j x left, PieceRel bm ba bd dp first a m J W w' j x left) ∧ leftOf bm w' < leftOf bm wr := by
  obtain ⟨-, -, -, -, cd3, cf3⟩ := h.after hlt hk
  refine ⟨⟨j + 1, x', left', by omega, ?_, by have := h.hl; omega, cm, ca, fm, fa, ?_, ?_, ?_⟩, ?_⟩
  · rw [pcur_next hlt, ← h.hx]; exact hx
  · rw [hf.cell (p := ⟨bd, 0, none⟩) (World.block_lt_of_cell? _ _ cd3) (fun e => by rcases e with e | e; exact h1 e.symm; exact h3 e.symm)]; exact cd3
  · rw [hf.cell (p := ⟨dp, 1, none⟩) (World.block_lt_of_cell? _ _ cf3) (fun e => by rcases e with e | e; exact h2 e.symm; exact h4 e.symm)]; exact cf3
  · rw [List.range_succ]; exact hJ _ _ _ hJ3 hf
  · have := plen_pos hlt
    unfold leftOf
    rw [cm, h.cm]
    simp only [Int.toNat_natCast]
    omega
set_option maxRecDepth 100000 in
set_option maxHeartbeats 2000000 in
theorem pieces1_in (n : Nat) (hn : 1 ≤ n) (bm ba bd dp first a m : Nat) (w : World) (hne : bm ≠ ba) (h1 : bm ≠ bd) (h2 : bm ≠ dp) (h3 : ba ≠ bd) (h4 : ba ≠ dp) (hlo : first + a + m ≤ 1000000000000)
    (hm : w.cell? ⟨bm, 0, none⟩ = some (.int .i64 m)) (ha : w.cell? ⟨ba, 0, none⟩ = some (.int .i64 a)) (fm : w.frozen? ⟨bm, 0, none⟩ = false) (fa : w.frozen? ⟨ba, 0, none⟩ = false)
    (hd : w.cell? ⟨bd, 0, none⟩ = some (.pointer (some ⟨dp, 0, none⟩))) (hf : w.cell? ⟨dp, 1, none⟩ = some (.int .i64 first)) :
    SeqL Fence.wide n Try.prog 61 #[.pointer (some ⟨bm, 0, none⟩), .pointer (some ⟨ba, 0, none⟩), .pointer (some ⟨bd, 0, none⟩)] (pieceV first a m) (Two bm ba) (Two bd dp) (List.range (pnum a m)) w := by
  intro l J Jx W hF hJ hJx hY h0
  refine callsIn_of_wp Try.func61 rfl trivial ?_ rfl
  simp only [Try.ntmps61, List.size_toArray, List.length_cons, List.length_nil, Nat.reduceAdd, Nat.reduceSub, Array.replicate_succ, Array.replicate_zero, List.push_toArray, List.append_toArray, List.nil_append, List.cons_append]
  have hmo : Try.prog.follows .mixedOrders = true := by kernel_rfl
  have old : ∀ {p : Addr} {u : Value}, w.cell? p = some u → W.cell? p = some u := fun {p u} hu => by
    rw [hF.cell (World.block_lt_of_cell? w _ hu) (fun e => e)]; exact hu
  have oldf : ∀ {p : Addr} {u : Value}, w.cell? p = some u → W.frozen? p = w.frozen? p := fun {p u} hu => hF.frozen (World.block_lt_of_cell? w _ hu) (fun e => e)
  have R0 : PieceRel bm ba bd dp first a m J W W 0 a m := ⟨Nat.zero_le _, (pcur_zero _ _).symm, rfl, old hm, old ha, (oldf hm).trans fm, (oldf ha).trans fa, old hd, old hf, h0⟩
  have HJ := hide hJ
  have HJx := hide hJx
  have HY := hide hY
  clear hm ha fm fa hd hf old oldf hJ hJx hY h0 hF
  gi_wp2
  gi_loopw [5] (fun _ wr => ∃ j x left : Nat, PieceRel bm ba bd dp first a m J W wr j x left) (fun _ wr => leftOf bm wr)
  case atStart => exact ⟨0, a, m, R0⟩
  case round =>
    clear R0
    obtain ⟨j, x, left, R⟩ := hrel
    have cm := R.cm; have ca := R.ca; have fm := R.fm; have fa := R.fa; have cd := R.cd; have cf := R.cf
    have hsum := R.hl
    have hx0 := R.hx
    have HX := hide hx0
    have HR := hide R
    have hxlo : x + left ≤ 1000000000000 := by omega
    clear hsum hx0 R
    by_cases hl : 0 < left
    · have hlt : j < pnum a m := pnum_lt.2 (by have := HX.out; have := (HR.out).hl; omega)
      have hpl : Hid (plen a m j = min left (64 - x % 64)) := by
        have h1 := plen_eq hlt
        have h2 := HX.out; have h3 := (HR.out).hl
        show _ = _
        rw [h1, ← h2]; congr 1; omega
      rcases Nat.lt_or_ge (64 - x % 64) left with hc | hc
      · have hlen : Hid ((plen a m j : Int) = 64 - (x : Int) % 64) := by have := hpl.out; show _ = _; omega
        have hp : List.range j ++ [j] <+: List.range (pnum a m) := range_pre hlt
        have hy0 := HY.out (List.range j) j wr.drew (HJ.out _ _ _ (HR.out).J ((Frm.refl _ wr).drew)) hp
        unfold pieceV at hy0
        rw [← HX.out, hlen.out] at hy0
        obtain ⟨fn, tmps, assign, body, hy, hR⟩ := hy0
        have HRd := hide (round_bool hR)
        have HP := hide hp
        clear hR hp
        gi_wp2
        have hxf := HX.out
        have hxle := pcur_le a m j
        have hw1 : IntKind.i64.wrap ((x : Int) / 64) = (x : Int) / 64 := IntWalk.i64_in _ (by omega)
        have hw2 : IntKind.i64.wrap ((first : Int) + (x : Int) / 64) = (first : Int) + (x : Int) / 64 := IntWalk.i64_in _ (by omega)
        clear hxf hxle
        gi_region_with_o ((refine HRd.out.mono ?_; clear hy; rintro e W3 ⟨b, rfl, hb⟩))
        all_goals
          rcases hb with ⟨rfl, hJ3, hk3⟩ | ⟨rfl, hJx3⟩
          · have R3 := HR.out.after hlt hk3
            obtain ⟨cm3, ca3, fm3, fa3, cd3, cf3⟩ := R3
            have HJ3 := hide hJ3
            have HK3 := hide hk3
            have hw3 : IntKind.i64.wrap ((x : Int) + (64 - (x : Int) % 64)) = ((x + plen a m j : Nat) : Int) := (IntWalk.i64_in _ (by omega)).trans (by have := hlen.out; omega)
            have hw4 : IntKind.i64.wrap ((left : Int) - (64 - (x : Int) % 64)) = ((left - plen a m j : Nat) : Int) := (IntWalk.i64_in _ (by omega)).trans (by have := hlen.out; omega)
            have S1 := hide (two_sets hne (.int .i64 (((left - plen a m j : Nat) : Int))) (.int .i64 (((x + plen a m j : Nat) : Int))) cm3 ca3 fm3 fa3)
            have S2 := hide (two_sets (fun e => hne e.symm) (.int .i64 (((x + plen a m j : Nat) : Int))) (.int .i64 (((left - plen a m j : Nat) : Int))) ca3 cm3 fa3 fm3)
            clear hJ3 hk3
            gi_wp2
            gi_region
            all_goals
              gi_wp2
              first
                | (obtain ⟨⟨e1, e2⟩, ⟨e3, e4⟩, e5⟩ := S1.out; exact HR.out.next hlt h1 h2 h3 h4 HJ.out HJ3.out HK3.out e5 (x' := x + plen a m j) (left' := left - plen a m j) rfl (by have := hpl.out; omega) e1 e2 e3 e4)
                | (obtain ⟨⟨e1, e2⟩, ⟨e3, e4⟩, e5⟩ := S2.out; exact HR.out.next hlt h1 h2 h3 h4 HJ.out HJ3.out HK3.out (e5.mono (fun _ _ e => e.symm)) (x' := x + plen a m j) (left' := left - plen a m j) rfl (by have := hpl.out; omega) e2 e1 e4 e3)
          · gi_wp2
            refine bodyPost_ret (results_none rfl _ _ _) rfl ?_
            exact ⟨⟨_, rfl⟩, .inr ⟨_, HP.out, hJx3⟩⟩
      · have hlen : Hid ((plen a m j : Int) = (left : Int)) := by have := hpl.out; show _ = _; omega
        have hp : List.range j ++ [j] <+: List.range (pnum a m) := range_pre hlt
        have hy0 := HY.out (List.range j) j wr.drew (HJ.out _ _ _ (HR.out).J ((Frm.refl _ wr).drew)) hp
        unfold pieceV at hy0
        rw [← HX.out, hlen.out] at hy0
        obtain ⟨fn, tmps, assign, body, hy, hR⟩ := hy0
        have HRd := hide (round_bool hR)
        have HP := hide hp
        clear hR hp
        gi_wp2
        have hxf := HX.out
        have hxle := pcur_le a m j
        have hw1 : IntKind.i64.wrap ((x : Int) / 64) = (x : Int) / 64 := IntWalk.i64_in _ (by omega)
        have hw2 : IntKind.i64.wrap ((first : Int) + (x : Int) / 64) = (first : Int) + (x : Int) / 64 := IntWalk.i64_in _ (by omega)
        clear hxf hxle
        gi_region_with_o ((refine HRd.out.mono ?_; clear hy; rintro e W3 ⟨b, rfl, hb⟩))
        all_goals
          rcases hb with ⟨rfl, hJ3, hk3⟩ | ⟨rfl, hJx3⟩
          · have R3 := HR.out.after hlt hk3
            obtain ⟨cm3, ca3, fm3, fa3, cd3, cf3⟩ := R3
            have HJ3 := hide hJ3
            have HK3 := hide hk3
            have hw3 : IntKind.i64.wrap ((x : Int) + (left : Int)) = ((x + plen a m j : Nat) : Int) := (IntWalk.i64_in _ (by omega)).trans (by have := hlen.out; omega)
            have hw4 : IntKind.i64.wrap 0 = 0 := by decide
            have S1 := hide (two_sets hne (.int .i64 (((0 : Nat) : Int))) (.int .i64 (((x + plen a m j : Nat) : Int))) cm3 ca3 fm3 fa3)
            have S2 := hide (two_sets (fun e => hne e.symm) (.int .i64 (((x + plen a m j : Nat) : Int))) (.int .i64 (((0 : Nat) : Int))) ca3 cm3 fa3 fm3)
            clear hJ3 hk3
            gi_wp2
            gi_region
            all_goals
              gi_wp2
              first
                | (obtain ⟨⟨e1, e2⟩, ⟨e3, e4⟩, e5⟩ := S1.out; exact HR.out.next hlt h1 h2 h3 h4 HJ.out HJ3.out HK3.out e5 (x' := x + plen a m j) (left' := 0) rfl (by have := hlen.out; omega) e1 e2 e3 e4)
                | (obtain ⟨⟨e1, e2⟩, ⟨e3, e4⟩, e5⟩ := S2.out; exact HR.out.next hlt h1 h2 h3 h4 HJ.out HJ3.out HK3.out (e5.mono (fun _ _ e => e.symm)) (x' := x + plen a m j) (left' := 0) rfl (by have := hlen.out; omega) e2 e1 e4 e3)
          · gi_wp2
            refine bodyPost_ret (results_none rfl _ _ _) rfl ?_
            exact ⟨⟨_, rfl⟩, .inr ⟨_, HP.out, hJx3⟩⟩
    · obtain rfl : left = 0 := by omega
      gi_wp2
      refine bodyPost_end (results_none rfl _ _ _) rfl ?_
      have hj : j = pnum a m := by
        rcases Nat.lt_or_ge j (pnum a m) with h | h
        · have h2 := pnum_lt.1 h
          have h3 := HX.out; have h4 := (HR.out).hl; omega
        · have := (HR.out).le; omega
      subst hj
      exact ⟨⟨_, rfl⟩, .inl (HR.out).J⟩
end Go.Proofs.Ytplngfphklpicaa

/-
  A function whose body holds a range over a function: how its contract is shown, by the plain walk.
-/
namespace Go.Proofs.Ytplngfphklpicaa
open Go.RowKit
variable {P : Program}
theorem quiet_of' {f : FuncId} {args : Array Value} {w : World} {n : Nat} {v : Value} (h : ∀ n, Calls P f args (w.drewN n) fun e w' => e = .returned v ∧ w.drewN n = w') : Calls P f args (w.drewN n) fun e w'' => e = .returned v ∧ ∃ m, w'' = w.drewN m :=
  (h n).mono fun _ _ ⟨he, hm⟩ => ⟨he, n, hm.symm⟩
theorem calls_marks {f : FuncId} {fn : Func} {c : Code} {args : Array Value} {w : World} {R : Ending → World → Prop} (hf : P.funcs[f]? = some fn) (hb : fn.body = some c)
    (h : c.wp P (bodyPostM Fence.wide 4 P fn R) { tmps := args ++ Array.replicate (fn.ntmps - args.size) undef, defers := [] } w) : Calls P f args w R :=
  (callsIn_wide (n := 4)).1 (callsIn_of_wp_marks hf hb trivial (wpIn_wide.2 h))
theorem postM_ret {fn : Func} {a : Act} {w : World} {R : Ending → World → Prop} {v : Value} (hres : (results fn a.tmps).run P w = .ok v w) (hd : a.defers = []) (hR : R (.returned v) w) : bodyPostM Fence.wide 4 P fn R .ret a w := by
  show LeavesInM _ _ _ _ _ _ a.defers _ _
  rw [hd]
  exact ⟨v, hres, hR⟩
theorem postM_mark {fn : Func} {a : Act} {w : World} {R : Ending → World → Prop} {v : Value} {D : Nat} (hres : (results fn a.tmps).run P (w.putObj D (.deferred none)) = .ok v (w.putObj D (.deferred none))) (hd : a.defers = [{ target := .collected D, args := #[] }])
    (hD : w.heap[D]? = some (.deferred (some []))) (hR : R (.returned v) (w.putObj D (.deferred none))) : bodyPostM Fence.wide 4 P fn R .ret a w := by
  show LeavesInM _ _ _ _ _ _ a.defers _ _
  rw [hd]
  exact ⟨by simp, .inl ⟨D, _, rfl, run_takeDeferred hD, v, hres, hR⟩⟩
theorem range_prefix {pre : List Nat} {x n : Nat} (h : pre ++ [x] <+: List.range n) : pre = List.range x ∧ x < n := by
  have hl := h.length_le
  simp at hl
  have e := List.prefix_iff_eq_take.1 h
  rw [List.length_append, List.length_singleton, List.take_range, Nat.min_eq_left (by omega), List.range_succ] at e
  obtain ⟨h1, h2⟩ := List.append_inj' e rfl
  have h3 : x = pre.length := by simpa using h2
  subst h3
  exact ⟨h1, by omega⟩
end Go.Proofs.Ytplngfphklpicaa
