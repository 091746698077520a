/-
  The document's flash, by value: Erase, walked by hand.
-/
import Derived.Test.YtlbnhmcejbidnaaRefC
namespace Go.Proofs.Ytlbnhmcejbidnaa
open Go.RowKit Go.Proofs.YtlbnhmcejbidnaaW.PrintWords Go.Proofs.Ytlbnhmcejbidnaa.PNorPlays
theorem ref_size : (Try.prog.info? 57).map (·.size) = some 5 := by kernel_rfl
theorem Blk.new2 (w : World) (X : Obj) (t : TypeId) (cs : Array Value) : Blk ((w.alloc X).alloc (.cells cs t)) (w.heap.size + 1) t cs := by
  have := Blk.new (w.alloc X) t cs
  rwa [World.size_alloc] at this
theorem results_cell_tmp_row {P : Program} {fn : Func} {p u : Tmp} {ty : TypeId} (h : fn.results = #[.cell p ty, .tmp u]) (tmps : Array Value) (w : World) (g : Nat) (t : TypeId) (cs : Array Value) (fr : Nat × Nat) (d : TypeDesc)
    (hp : tmps.getD p undef = .pointer (some ⟨g, 0, none⟩)) (hg : w.heap[g]? = some (.cells cs t fr))
    (hu : P.underlying ty = some d) (hd : (match d with | .struct _ | .array _ _ => true | _ => false) = true) (hi : (P.info? ty).map (·.size) = some cs.size) :
    (results fn tmps).run P w = .ok (.tuple #[.agg cs, tmps.getD u undef]) w := by
  rw [results_cell_tmp h, hp]
  simp [asAddr, run_loadVar_row w g t ty cs fr d hg hu hd hi, Result.andThen]
theorem Blk.below {w w' : World} {g : Nat} {t : TypeId} {cs : Array Value} (h : Blk w g t cs) (hb : Below w.heap.size w w') : Blk w' g t cs := (hb.block g h.lt).trans h
/-- the cells of a flash by value -/
def rcells (v : Value) (s : NorS) : Array Value := #[v, .int .i64 s.guard, .int .i64 s.arm, .bool s.down, .int .i64 s.half]
/-- the cells of none -/
def rzero : Array Value := #[.slice none 0 0, .int .i64 0, .int .i64 0, .bool false, .int .i64 0]
theorem rzero_all : rzero.all (·.oneCell') = true := by kernel_rfl
theorem rcells_all (A : Option Addr) (n c : Nat) (s : NorS) : (rcells (.slice A n c) s).all (·.oneCell') = true := by simp [rcells, Value.oneCell']
theorem ret_agg2 {a b c d : Value} (h : a = b) (h' : c = d) : Ending.returned (.tuple #[a, c]) = .returned (.tuple #[b, d]) := by rw [h, h']
theorem setRow_keep {S : Nat → Prop} {w w' : World} (h : Frm S w w') {g : Nat} (hg : S g ∨ w.heap.size ≤ g) (cs : Array Value) : Frm S w (w'.setRow g cs) := h.setRow hg cs
theorem below_setRow {n : Nat} {w0 w : World} (h : Below n w0 w) {g : Nat} (hg : n ≤ g) (cs : Array Value) : Below n w0 (w.setRow g cs) :=
  ⟨h.os, h.tape, h.output, by simpa using h.size, fun k hk => (setRow_other w g k cs (by omega)).trans (h.block k hk)⟩
theorem two_boxes {w w1 : World} {a b : Array Value} {T : TypeId} (hb : Below ((w.alloc (.cells a T)).alloc (.cells b T)).heap.size ((w.alloc (.cells a T)).alloc (.cells b T)) w1) :
    Blk w1 w.heap.size T a ∧ Blk w1 (w.heap.size + 1) T b ∧ Frm NoB w w1 :=
  ⟨((Blk.new w T a).alloc _).below hb, (Blk.new2 w _ T b).below hb, (((Frm.refl NoB w).alloc _).alloc _).trans (Frm.of_below hb NoB)⟩
section
variable {w0 w : World} {P : Nat → Prop} {v : Value} {s : NorS}
theorem ref_step (h : Rf w0 w P v s) (hB : Below w0.heap.size w0 w) :
    Calls Try.prog 43 #[refV v s] w fun e w' => ∃ v', e = .returned (.tuple #[refV v' s.step, .bool s.steps]) ∧ Rf w0 w' (fun k => P k ∨ w.heap.size ≤ k) v' s.step ∧ Below w0.heap.size w0 w' ∧ Frm P w w' := by
  refine (blockhouseref04_Nor_step.calls P v s.l s.guard s.arm s.down s.half _ _ _ _ _ _ w0 w hB h.r (rf_step h.ok)).mono ?_
  rintro e w' ⟨v', rfl, hr, hb, hk⟩
  exact ⟨v', rfl, ⟨hr, h.ok.step⟩, hb, frm_kept hB hb hk⟩
theorem ref_own (h : Rf w0 w P v s) (hB : Below w0.heap.size w0 w) :
    Calls Try.prog 42 #[refV v s] w fun e w' => ∃ v', e = .returned (refV v' s) ∧ Rf w0 w' (fun k => w.heap.size ≤ k) v' s ∧ Below w.heap.size w w' := by
  obtain ⟨A0, c0, rfl⟩ := Kd.R_slice h.r
  obtain ⟨-, hl, hC⟩ := Kd.R_reads' h.r
  refine (blockhouseref04_Nor_own.calls A0 c0 s.l s.guard s.arm s.down s.half _ _ _ _ _ w hC hl (rf_own _ h.ok.small _ _ _ _)).mono ?_
  rintro e w' ⟨v', rfl, hr, hb⟩
  exact ⟨v', rfl, ⟨Kd.R_lower (Kd.R_mono (Kd.R_bound hr) (fun k hk => hk.2.1)) hB.size, h.ok⟩, hb⟩

set_option maxRecDepth 100000 in
set_option maxHeartbeats 1000000 in
theorem ref_erase_bad (sec : Int) (h : Rf w0 w P v s) (hB : Below w0.heap.size w0 w) (hu : ¬ s.up sec 0 0 = 0) :
    Calls Try.prog 30 #[refV v s, .int .i64 sec] w (RfPostE w0 w P (s.erase sec) (s.eraseE sec)) := by
  have E : Hid (s.erase sec = s) := by show _ = _; unfold NorS.erase; rw [if_neg hu]
  have E' : Hid (s.eraseE sec = s.up sec 0 0) := by show _ = _; unfold NorS.eraseE; rw [if_neg hu]
  have hw0 := hB.size
  have H := hide h
  have HB := hide hB
  obtain ⟨A, c, rfl⟩ := Kd.R_slice h.r
  by_cases hd : s.down = true
  · have U : Hid (s.up sec 0 0 = 40) := NorS.up_down hd _ _ _
    clear hu h hB
    unfold refV
    go_enter Try.func30, Try.ntmps30
    go_wp2
    refine bodyPost_ret (results_cell_tmp_row rfl _ _ (w.heap.size + 1) 57 _ (0, 0) _ rfl (Blk.new2 _ _ _ _) Try.underlying57 rfl ref_size) rfl ⟨.slice A s.l.length c, ret_agg2 ?_ ?_, ?_, ?_, ?_⟩
    · rw [E.out, ← hd]; rfl
    · rw [E'.out, U.out]; rfl
    · rw [E.out]; exact (H.out.frm (((Frm.refl NoB w).alloc _).alloc _) (fun _ _ e => e)).mono (fun _ hk => .inl hk)
    · exact below_alloc (below_alloc HB.out _) _
    · exact ((Frm.refl P w).alloc _).alloc _
  · have hd0 : s.down = false := by simpa using hd
    have hn : ¬ s.there sec 0 0 = true := fun e => hu (NorS.up_ok hd e)
    have U : Hid (s.up sec 0 0 = 2) := NorS.up_arg hd hn
    have hcs : sec < 0 ∨ (s.n : Int) ≤ sec := by rw [NorS.there_iff] at hn; omega
    clear hu h hB hd hn
    unfold refV
    rw [hd0]
    have HD := hide hd0
    clear hd0
    by_cases h1 : sec < 0
    · go_enter Try.func30, Try.ntmps30
      go_wp2
      refine bodyPost_ret (results_cell_tmp_row rfl _ _ (w.heap.size + 1) 57 _ (0, 0) _ rfl (Blk.new2 _ _ _ _) Try.underlying57 rfl ref_size) rfl ⟨.slice A s.l.length c, ret_agg2 ?_ ?_, ?_, ?_, ?_⟩
      · rw [E.out, ← HD.out]; rfl
      · rw [E'.out, U.out]; rfl
      · rw [E.out]; exact (H.out.frm (((Frm.refl NoB w).alloc _).alloc _) (fun _ _ e => e)).mono (fun _ hk => .inl hk)
      · exact below_alloc (below_alloc HB.out _) _
      · exact ((Frm.refl P w).alloc _).alloc _
    · have h2 : (s.n : Int) ≤ sec := by omega
      go_enter Try.func30, Try.ntmps30
      go_wp2_with fail
      have K := fun (W : World) (hf : Frm NoB w W) => ref_sectors (H.out.frm hf (fun _ _ e => e))
      simp only [refV, HD.out] at K
      refine (K _ (((Frm.refl NoB w).alloc _).alloc _)).mono ?_
      clear K
      rintro e w1 ⟨rfl, hb⟩
      obtain ⟨hX, hY, hF⟩ := two_boxes hb
      have HX := hide hX
      have HY := hide hY
      have HF := hide hF
      clear hb hX hY hF
      go_wp2_with (first
        | (refine wpList_load_row rfl 57 (.tmp 2) rfl w.heap.size rfl 57 _ (0, 0) _ HX.out Try.underlying57 rfl ref_size ?_)
        | (refine wpList_store_row rfl 57 (.tmp 4) (.tmp 19) rfl (w.heap.size + 1) _ rfl rfl 57 _ HY.out ref_size rfl (rcells_all _ _ _ { s with down := false }) ?_))
      refine bodyPost_ret (results_cell_tmp_row rfl _ _ (w.heap.size + 1) 57 _ (0, 0) _ rfl ((Hid.out HY).setRow _) Try.underlying57 rfl ref_size) rfl ⟨.slice A s.l.length c, ret_agg2 ?_ ?_, ?_, ?_, ?_⟩
      · rw [E.out, ← HD.out]; rfl
      · rw [E'.out, U.out]; rfl
      · rw [E.out]; exact (H.out.frm (S := NoB) ((Hid.out HF).setRow (.inr (by omega)) _) (fun _ _ e => e)).mono (fun _ hk => .inl hk)
      · exact below_setRow (below_step HB.out ((Hid.out HF).below (fun _ _ e => e))) (by omega) _
      · exact ((Hid.out HF).mono (fun _ _ e => e.elim)).setRow (.inr (by omega)) _

/-- what a call that may write the flash's words leaves: the boxes -/
theorem two_boxes_kept {S : Nat → Prop} {w w1 : World} {a b : Array Value} {T : TypeId} (hb : Frm S ((w.alloc (.cells a T)).alloc (.cells b T)) w1) (hs : ∀ k, S k → k < w.heap.size) :
    Blk w1 w.heap.size T a ∧ Blk w1 (w.heap.size + 1) T b ∧ Frm S w w1 := by
  refine ⟨((Blk.new w T a).alloc _).frm hb (fun e => by have := hs _ e; omega), (Blk.new2 w _ T b).frm hb (fun e => by have := hs _ e; omega), (((Frm.refl NoB w).alloc _).alloc _).mono (fun _ _ e => e.elim) |>.trans hb⟩

set_option maxRecDepth 100000 in
set_option maxHeartbeats 1000000 in
theorem ref_erase_fail (sec : Int) (h : Rf w0 w P v s) (hB : Below w0.heap.size w0 w) (hu : s.up sec 0 0 = 0) (hs : s.steps = false) (hok : (s.erase sec).Ok) :
    Calls Try.prog 30 #[refV v s, .int .i64 sec] w (RfPostE w0 w P (s.erase sec) (s.eraseE sec)) := by
  have E : Hid (s.erase sec = { s.step with half := sec }) := by show _ = _; unfold NorS.erase; rw [if_pos hu, if_neg (by simp [hs])]
  have E' : Hid (s.eraseE sec = 40) := by show _ = _; unfold NorS.eraseE; rw [if_pos hu, if_neg (by simp [hs])]
  have hw0 := hB.size
  have H := hide h
  have HB := hide hB
  have HO := hide hok
  obtain ⟨A, c, rfl⟩ := Kd.R_slice h.r
  obtain ⟨hd0, h0, h2, -, -⟩ := NorS.up_zero hu
  have HS := hide hs
  have h1 : ¬ sec < 0 := by omega
  have h3 : ¬ (s.n : Int) ≤ sec := by omega
  clear hu h hB hs hok h0
  unfold refV
  rw [hd0]
  have HD := hide hd0
  clear hd0
  go_enter Try.func30, Try.ntmps30
  go_wp2_with fail
  have K := fun (W : World) (hf : Frm NoB w W) => ref_sectors (H.out.frm hf (fun _ _ e => e))
  simp only [refV, HD.out] at K
  refine (K _ (((Frm.refl NoB w).alloc _).alloc _)).mono ?_
  clear K
  rintro e w1 ⟨rfl, hb⟩
  obtain ⟨hX, hY, hF⟩ := two_boxes hb
  have hszb : w.heap.size + 2 ≤ w1.heap.size := by have := hY.lt; omega
  have HX := hide hX
  have HY := hide hY
  have HF := hide hF
  clear hb hX hY hF
  go_wp2_with (first
    | (refine wpList_load_row rfl 57 (.tmp 2) rfl w.heap.size rfl 57 _ (0, 0) _ HX.out Try.underlying57 rfl ref_size ?_))
  have K := ref_step (H.out.small.frm (Hid.out HF) (fun _ _ e => e)) (below_step HB.out ((Hid.out HF).below (fun _ _ e => e)))
  simp only [refV, HD.out, HS.out] at K
  refine K.mono ?_
  clear K
  rintro e w2 ⟨v2, rfl, hR2, hB2, hF2⟩
  obtain ⟨A2, c2, rfl⟩ := Kd.R_slice hR2.r
  have HX2 := hide ((Hid.out HX).frm hF2 (fun e => by have := e.2; omega))
  have HY2 := hide ((Hid.out HY).frm hF2 (fun e => by have := e.2; omega))
  have hx3 : Blk (w2.setRow w.heap.size (rcells (.slice A2 s.step.l.length c2) s.step)) w.heap.size 57 (rcells (.slice A2 s.step.l.length c2) s.step) := (Hid.out HX2).setRow _
  have c4 := hx3.cell 4
  have f4 := hx3.frozen 4
  simp only [rcells] at c4 f4
  have HX3 := hide hx3
  have HR2 := hide hR2
  have HB2 := hide hB2
  have HF2 := hide hF2
  have hsz := hF2.size
  have hsz1 := (Hid.out HF).size
  have hlt := (Hid.out HY2).lt
  clear hx3 hR2 hB2 hF2 HX HY
  go_wp2_with (first
    | (refine wpList_store_row rfl 57 (.tmp 2) (.tmp 23) rfl w.heap.size _ rfl rfl 57 _ HX2.out ref_size rfl (rcells_all _ _ _ s.step) ?_)
    | (refine wpList_load_row rfl 57 (.tmp 2) rfl w.heap.size rfl 57 _ (0, 0) _ ((Hid.out HX3).set_ 4 _) Try.underlying57 rfl ref_size ?_)
    | (refine wpList_store_row rfl 57 (.tmp 4) (.tmp 29) rfl (w.heap.size + 1) _ rfl rfl 57 _ (((Hid.out HY2).setRow_far _ (by omega)).far (p := ⟨w.heap.size, 4, none⟩) (by simp) _) ref_size rfl (by exact rcells_all _ _ _ { s.step with half := sec }) ?_))
  have hF3 : Frm P w w2 := ((Hid.out HF).mono (fun _ _ e => e.elim)).trans (HF2.out.mono (fun _ _ e => e.1))
  refine bodyPost_ret (results_cell_tmp_row rfl _ _ (w.heap.size + 1) 57 (rcells (.slice A2 s.step.l.length c2) { s.step with half := sec }) (0, 0) _ rfl (((((Hid.out HY2).setRow_far _ (by omega)).far (p := ⟨w.heap.size, 4, none⟩) (by simp) _)).setRow _) Try.underlying57 rfl ref_size) rfl ⟨.slice A2 s.step.l.length c2, ret_agg2 ?_ ?_, ?_, ?_, ?_⟩
  · rw [E.out]; rfl
  · rw [E'.out]; rfl
  · have hr := HR2.out.small
    have ho := HO.out
    rw [E.out] at ho ⊢
    refine ⟨Kd.R_mono (Kd.R_step hr.r (fun k hk hlt2 => ?_)) (fun k hk => hk.1.imp (fun e => e.1) (fun e => by omega)), ho⟩
    have hk1 : k ≠ w.heap.size ∧ k ≠ w.heap.size + 1 := by
      rcases hk.1 with e | e
      · omega
      · have := (Hid.out HF).size; have := hszb; omega
    rw [setRow_other _ _ _ _ hk1.2, Below.heap_setCell _ _ _ _ (by simpa using hk1.1), setRow_other _ _ _ _ hk1.1]
  · refine below_setRow (below_set (below_setRow HB2.out (by omega) _) (by omega)) (by omega) _
  · exact (((hF3.setRow (.inr (by omega)) _).setCell (p := ⟨w.heap.size, 4, none⟩) (.inr (by simp)) _)).setRow (.inr (by omega)) _

/-- what is still to be laid -/
structure LayTo (l0 : List Int) (S : Nat) (l : List Int) (j : Nat) : Prop where
  e : NorS.lay l0 (S * 64) (List.replicate 64 4294967295) = NorS.lay l (S * 64 + j) (List.replicate (64 - j) 4294967295)
theorem LayTo.next {l0 : List Int} {S : Nat} {l : List Int} {j : Nat} (h : LayTo l0 S l j) (hj : j < 64) : LayTo l0 S (l.set (S * 64 + j) 4294967295) (j + 1) := by
  refine ⟨h.e.trans ?_⟩
  rw [show 64 - j = (64 - (j + 1)) + 1 from by omega, List.replicate_succ]
  rfl
theorem LayTo.all {l0 : List Int} {S : Nat} {l : List Int} (h : LayTo l0 S l 64) : NorS.lay l0 (S * 64) (List.replicate 64 4294967295) = l := h.e
/-- behind j words -/
def EraseRel (w0 w : World) (P : Nat → Prop) (g c : Nat) (s : NorS) (S : Nat) (i : Value) (wr : World) : Prop :=
  ∃ (j : Nat) (l : List Int), j ≤ 64 ∧ i = .int .i64 j ∧ Blk wr w.heap.size 57 (rcells (.slice (some ⟨g, 0, none⟩) s.l.length c) s) ∧ Blk wr (w.heap.size + 1) 57 rzero ∧
    Kd.R (Kd.int .u32) 36 wr w0.heap.size (fun k => k = g) (.slice (some ⟨g, 0, none⟩) l.length c) l ∧ Frm P w wr ∧ Below w0.heap.size w0 wr ∧ l.length = s.l.length ∧
    LayTo s.l S l j

set_option maxRecDepth 100000 in
set_option maxHeartbeats 1000000 in
theorem ref_erase_ok (sec : Int) (h : Rf w0 w P v s) (hB : Below w0.heap.size w0 w) (hu : s.up sec 0 0 = 0) (hs : s.steps = true) (hok : (s.erase sec).Ok) :
    Calls Try.prog 30 #[refV v s, .int .i64 sec] w (RfPostE w0 w P (s.erase sec) (s.eraseE sec)) := by
  have E : Hid (s.erase sec = { s.step with l := NorS.lay s.l (NorS.at_ sec 0) (List.replicate 64 4294967295) }) := by show _ = _; unfold NorS.erase; rw [if_pos hu, if_pos hs]
  have E' : Hid (s.eraseE sec = 0) := by show _ = _; unfold NorS.eraseE; rw [if_pos hu, if_pos hs]
  have hw0 := hB.size
  have H := hide h
  have HB := hide hB
  have HO := hide hok
  obtain ⟨A, c, rfl⟩ := Kd.R_slice h.r
  obtain ⟨hd0, h0, h2, -, -⟩ := NorS.up_zero hu
  have hlen := h.ok.len
  have hn2 := h.ok.n2
  have hn1 := h.ok.n1
  have HS := hide hs
  obtain ⟨S, rfl⟩ := Int.eq_ofNat_of_zero_le h0
  have b0 : decide ((S : Int) < 0) = false := by simp
  have h3 : ¬ (s.n : Int) ≤ S := by omega
  clear hu h hB hs hok h0
  unfold refV
  rw [hd0]
  have HD := hide hd0
  have HL := hide hlen
  clear hd0 hlen
  go_enter Try.func30, Try.ntmps30
  go_wp2_with fail
  have K := fun (W : World) (hf : Frm NoB w W) => ref_sectors (H.out.frm hf (fun _ _ e => e))
  simp only [refV, HD.out] at K
  refine (K _ (((Frm.refl NoB w).alloc _).alloc _)).mono ?_
  clear K
  rintro e w1 ⟨rfl, hb⟩
  obtain ⟨hX, hY, hF⟩ := two_boxes hb
  have hszb : w.heap.size + 2 ≤ w1.heap.size := by have := hY.lt; omega
  have HX := hide hX
  have HY := hide hY
  have HF := hide hF
  clear hb hX hY hF
  go_wp2_with (first
    | (refine wpList_load_row rfl 57 (.tmp 2) rfl w.heap.size rfl 57 _ (0, 0) _ HX.out Try.underlying57 rfl ref_size ?_))
  have K := ref_step (H.out.small.frm (Hid.out HF) (fun _ _ e => e)) (below_step HB.out ((Hid.out HF).below (fun _ _ e => e)))
  simp only [refV, HD.out, HS.out] at K
  refine K.mono ?_
  clear K
  rintro e w2 ⟨v2, rfl, hR2, hB2, hF2⟩
  obtain ⟨A2, c2, rfl⟩ := Kd.R_slice hR2.r
  have HX2 := hide ((Hid.out HX).frm hF2 (fun e => by have := e.2; omega))
  have HY2 := hide ((Hid.out HY).frm hF2 (fun e => by have := e.2; omega))
  have HX3 := hide ((Hid.out HX2).setRow (rcells (.slice A2 s.step.l.length c2) s.step))
  have hsz := hF2.size
  have hR3 : Rf w0 (w2.setRow w.heap.size (rcells (.slice A2 s.step.l.length c2) s.step)) (fun k => P k ∧ k < w.heap.size ∨ w1.heap.size ≤ k) (.slice A2 s.step.l.length c2) s.step :=
    hR2.frm (S := fun k => k = w.heap.size) (Frm.setRow (S := fun k => k = w.heap.size) (Frm.refl _ w2) (g := w.heap.size) (.inl rfl) _) (fun k hk e => by rcases hk with hk | hk <;> omega)
  have HR3 := hide hR3
  have HB3 := hide (below_setRow hB2 (show w0.heap.size ≤ w.heap.size by omega) (rcells (.slice A2 s.step.l.length c2) s.step))
  have HF3 := hide ((((Hid.out HF).mono (fun _ _ e => e.elim)).trans (hF2.mono (fun _ _ e => e.1)) : Frm P w w2).setRow (.inr (Nat.le_refl _)) (rcells (.slice A2 s.step.l.length c2) s.step))
  have HY3 := hide ((Hid.out HY2).setRow_far (rcells (.slice A2 s.step.l.length c2) s.step) (show w.heap.size + 1 ≠ w.heap.size by omega))
  clear hR2 hB2 hF2 HX HY hR3
  go_wp2_with (first
    | (refine wpList_store_row rfl 57 (.tmp 2) (.tmp 23) rfl w.heap.size _ rfl rfl 57 _ HX2.out ref_size rfl (rcells_all _ _ _ s.step) ?_)
    | (refine wpList_load_row rfl 57 (.tmp 2) rfl w.heap.size rfl 57 _ (0, 0) _ HX3.out Try.underlying57 rfl ref_size ?_))
  refine (ref_own HR3.out HB3.out).mono ?_
  rintro e w4 ⟨v4, rfl, hR4, hb4⟩
  obtain ⟨g, c4, rfl, hg1, hg2, -⟩ := Kd.R_form hR4.r (by rw [NorS.step_l, HL.out]; omega)
  have hgb : w.heap.size + 2 ≤ g := by
    have h1 := hR4.r.1 g (by simp [Value.ownBlock])
    simp at h1; omega
  have HX4 := hide ((Hid.out HX3).below hb4)
  have HY4 := hide ((Hid.out HY3).below hb4)
  have HF4 := hide ((HF3.out : Frm P w _).trans (Frm.of_below hb4 P))
  have HB4 := hide (below_step HB3.out hb4)
  have HX5 := hide ((Hid.out HX4).setRow (rcells (.slice (some ⟨g, 0, none⟩) s.step.l.length c4) s.step))
  have HY5 := hide ((Hid.out HY4).setRow_far (rcells (.slice (some ⟨g, 0, none⟩) s.step.l.length c4) s.step) (show w.heap.size + 1 ≠ w.heap.size by omega))
  have HF5 := hide ((HF4.out : Frm P w _).setRow (.inr (Nat.le_refl _)) (rcells (.slice (some ⟨g, 0, none⟩) s.step.l.length c4) s.step))
  have HB5 := hide (below_setRow HB4.out (show w0.heap.size ≤ w.heap.size by omega) (rcells (.slice (some ⟨g, 0, none⟩) s.step.l.length c4) s.step))
  have hR5 : Kd.R (Kd.int .u32) 36 (w4.setRow w.heap.size (rcells (.slice (some ⟨g, 0, none⟩) s.step.l.length c4) s.step)) w0.heap.size (fun k => k = g) (.slice (some ⟨g, 0, none⟩) s.step.l.length c4) s.step.l :=
    Kd.R_step (Kd.R_of_own (Kd.own_of_R hR4.r) (fun k hk => by simpa [Value.ownBlock] using hk.symm)) (fun k hk hlt => setRow_other _ _ _ _ (by omega))
  have HR5 := hide hR5
  have HSL : Hid (s.step.l = s.l) := NorS.step_l s
  clear hR4 hb4 HX2 HY2 HX3 HY3 HR3 HB3 HF3 hR5
  go_wp2_with (first
    | (refine wpList_store_row rfl 57 (.tmp 2) (.tmp 31) rfl w.heap.size _ rfl rfl 57 _ HX4.out ref_size rfl (rcells_all _ _ _ s.step) ?_))
  go_loopw [7] (fun i wr => EraseRel w0 w P g c4 s.step S i wr) (fun i _ => 64 - (intOf i).toNat)
  case atStart => exact ⟨0, s.step.l, by omega, rfl, HX5.out, HY5.out, HR5.out, HF5.out, HB5.out, rfl, ⟨rfl⟩⟩
  case round =>
    clear HX5 HY5 HR5 HF5 HB5 HX4 HY4
    obtain ⟨j, l, hj, rfl, hX, hY, hR, hF, hBw, hl, hlay⟩ := hrel
    have HR := hide hR
    have HX := hide hX
    have HY := hide hY
    have HFw := hide hF
    have HBw := hide hBw
    have HLl := hide hl
    have HLy := hide hlay
    have hll : l.length = 64 * s.n := by rw [hl, HSL.out, HL.out]
    by_cases hlt : j < 64
    · have hc0 := hX.cell 0
      simp only [rcells] at hc0
      have hc0' : wr.cell? ⟨w.heap.size, 0, none⟩ = some (.slice (some ⟨g, 0, none⟩) l.length c4) := by rw [hc0, hl]; rfl
      have hrc := Kd.R_cell 0 hR (S * 64 + j : Nat) (by omega) (by omega)
      rw [Int.toNat_natCast] at hrc
      obtain ⟨hcj, hfj⟩ := hrc
      have hl1 : (l.length : Int) = 64 * s.n := by omega
      have hl2 : S * 64 + j < l.length := by omega
      have hll2 : l.length ≤ 65536 := by omega
      have hp := (Kd.R_put hR (S * 64 + j : Nat) 4294967295).1
      rw [Int.toNat_natCast] at hp
      have HP := hide hp
      clear hX hY hR hF hBw hl hlay hll hc0 hp hl1
      go_wp2
      go_roundw
      case rel =>
        have hR2 := HP.out
        refine ⟨j + 1, l.set (S * 64 + j) 4294967295, by omega, by go_num, (Hid.out HX).far (p := ⟨g, _, none⟩) (by simp; omega) _, (Hid.out HY).far (p := ⟨g, _, none⟩) (by simp; omega) _, ?_, (Hid.out HFw).setCell (p := ⟨g, _, none⟩) (.inr (by simp; omega)) _, below_set (Hid.out HBw) (by omega), ?_, LayTo.next HLy.out hlt⟩
        · rw [List.length_set]; exact hR2
        · rw [List.length_set]; exact HLl.out
      case measure => simp [intOf]; omega
    · obtain rfl : j = 64 := by omega
      have hlt2 : w.heap.size + 1 < wr.heap.size := hY.lt
      clear hX hY hR hF hBw hl hlay hll
      go_wp2_with (first
        | (refine wpList_load_row rfl 57 (.tmp 2) rfl w.heap.size rfl 57 _ (0, 0) _ HX.out Try.underlying57 rfl ref_size ?_)
        | (refine wpList_store_row rfl 57 (.tmp 4) (.tmp 43) rfl (w.heap.size + 1) _ rfl rfl 57 _ HY.out ref_size rfl (rcells_all _ _ _ s.step) ?_))
      refine bodyPost_ret (results_cell_tmp_row rfl _ _ (w.heap.size + 1) 57 (rcells (.slice (some ⟨g, 0, none⟩) s.step.l.length c4) s.step) (0, 0) _ rfl ((Hid.out HY).setRow _) Try.underlying57 rfl ref_size) rfl ⟨.slice (some ⟨g, 0, none⟩) s.step.l.length c4, ret_agg2 ?_ ?_, ?_, ?_, ?_⟩
      · rw [E.out]; rfl
      · rw [E'.out]; rfl
      · have ho := HO.out
        have e1 : NorS.at_ (S : Int) 0 = S * 64 := by simp [NorS.at_]
        rw [E.out, e1, ← HSL.out, HLy.out.all] at ho ⊢
        refine ⟨Kd.R_mono (Kd.R_step (w1 := wr.setRow (w.heap.size + 1) _) (HLl.out ▸ HR.out) (fun k hk hlt3 => setRow_other _ _ _ _ (by omega))) (fun k hk => .inr (by omega)), ho⟩
      · exact below_setRow HBw.out (by omega) _
      · exact (HFw.out : Frm P w wr).setRow (.inr (by omega)) _
theorem ref_erase (sec : Int) (h : Rf w0 w P v s) (hB : Below w0.heap.size w0 w) (hok : (s.erase sec).Ok) :
    Calls Try.prog 30 #[refV v s, .int .i64 sec] w (RfPostE w0 w P (s.erase sec) (s.eraseE sec)) := by
  by_cases hu : s.up sec 0 0 = 0
  · by_cases hs : s.steps = true
    · exact ref_erase_ok sec h hB hu hs hok
    · exact ref_erase_fail sec h hB hu (by simpa using hs) hok
  · exact ref_erase_bad sec h hB hu
end
end Go.Proofs.Ytlbnhmcejbidnaa
