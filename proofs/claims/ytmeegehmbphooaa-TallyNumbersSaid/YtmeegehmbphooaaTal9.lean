/-
  The tally: Open.
-/
import Derived.Test.YtmeegehmbphooaaTal8
import Derived.Test.YtmeegehmbphooaaDrv4
import Derived.Deep.MidRow
import Derived.Deep.RegionHeld3
namespace Go.Proofs.Ytmeegehmbphooaa
open Go.RowKit
theorem tal_zero (gd : Nat) : Try.zeroCells45.setIfInBounds 0 (.pointer (some ⟨gd, 0, none⟩)) = talCells gd (fun _ => 0) 0 0 false := by kernel_rfl
section
variable {w : World} {g gd p q c : Nat} {on count : Int} {over : Bool} {s : NorS} {d : DrvS} {f : Nat → Int}
theorem TalAt.setCells (l : List Int) : ∀ (k : Nat) (f : Nat → Int) (w : World), TalAt w g gd f on count over → k + l.length ≤ 128 → TalAt (w.setCells g (1 + k) (ints .u32 l)) g gd (laidF f k l) on count over := by
  induction l with
  | nil =>
    intro k f w h _
    exact h.congr (fun i hi => by unfold laidF; rw [if_neg (by simp only [List.length_nil]; omega)])
  | cons x r ih =>
    intro k f w h hk
    simp only [List.length_cons] at hk
    have h1 := h.set_w (i := k) (by omega) x
    have h2 := ih (k + 1) (upd1 f k x) (w.setCell ⟨g, 1 + k, none⟩ (.int .u32 x)) h1 (by omega)
    have e : (w.setCells g (1 + k) (ints .u32 (x :: r))) = ((w.setCell ⟨g, 1 + k, none⟩ (.int .u32 x)).setCells g (1 + (k + 1)) (ints .u32 r)) := rfl
    rw [e]
    refine h2.congr (fun i hi => ?_)
    unfold laidF upd1
    simp only [List.length_cons]
    by_cases e1 : i = k
    · subst e1
      rw [if_pos (by omega), if_neg (by omega), if_pos rfl, Nat.sub_self]; rfl
    · by_cases e2 : k + 1 ≤ i ∧ i < k + 1 + r.length
      · rw [if_pos (by omega), if_pos e2, show i - k = (i - (k + 1)) + 1 from by omega]; rfl
      · rw [if_neg (by omega), if_neg e2, if_neg e1]
theorem setCells_frm {S : Nat → Prop} {g : Nat} (hg : S g) : ∀ (vs : List Value) (o : Nat) (w w' : World), Frm S w w' → Frm S w (w'.setCells g o vs)
  | [], _, _, _, h => h
  | v :: r, o, w, _, h => setCells_frm hg r (o + 1) w _ (h.setCell (p := ⟨g, o, none⟩) (.inl hg) v)
theorem TalAt.there (h : TalAt w g gd f on count over) {k : Nat} (hk : k + 64 ≤ 128) : w.there g (1 + k) 64 := fun j hj => by
  have h1 := h.cw (i := k + j) (by omega)
  rw [← Nat.add_assoc] at h1
  exact ⟨by rw [h1]; rfl, h.fz _⟩
def OpenRel (w : World) (b o g gd : Nat) (l : List Int) (i : Value) (wr : World) : Prop :=
  ∃ j : Nat, j ≤ 2 ∧ i = .int .i64 j ∧ TalAt wr g gd (fun k => if k < 64 * j then l.getD k 0 else 0) 0 0 false ∧ Rd wr (some ⟨b, o, none⟩) (ints .u32 l) ∧ Frm (One g) w wr
theorem u32s_under : Try.prog.underlying 31 = some (.slice (Try.prog.elem 31)) := by kernel_rfl
theorem u32s_size : ∀ w : World, (sizeOf (Try.prog.elem 31)).run Try.prog w = .ok 1 w := fun w => by kernel_rfl
theorem cut_0 (b o cp : Nat) (h : 128 ≤ cp) (w : World) : (Instr.sliceAt 31 (.slice (some ⟨b, o, none⟩) 128 cp) (some (.int .i64 0)) (some (.int .i64 64)) none).run Try.prog w = .ok (.slice (some ⟨b, o, none⟩) 64 cp) w := by
  rw [run_sliceAt_slice (h := u32s_under), run_slice_lh (ht := u32s_under) (h0 := by omega) (h1 := by omega) (h2 := by omega), u32s_size]
  simp only [Result.andThen, sliced]
  rw [if_neg (by show ¬ cp = 0; omega)]
  rfl
theorem cut_1 (b o cp : Nat) (h : 128 ≤ cp) (w : World) : (Instr.sliceAt 31 (.slice (some ⟨b, o, none⟩) 128 cp) (some (.int .i64 64)) (some (.int .i64 128)) none).run Try.prog w = .ok (.slice (some ⟨b, o + 64, none⟩) 64 (cp - 64)) w := by
  rw [run_sliceAt_slice (h := u32s_under), run_slice_lh (ht := u32s_under) (h0 := by omega) (h1 := by omega) (h2 := by omega), u32s_size]
  simp only [Result.andThen, sliced]
  rw [if_neg (by show ¬ cp = 64; omega)]
  rfl
theorem cut_0' (b o cp : Nat) (h : 128 ≤ cp) (w : World) : (Instr.slice 31 (.slice (some ⟨b, o, none⟩) 128 cp) (some (.int .i64 0)) (some (.int .i64 64)) none).run Try.prog w = .ok (.slice (some ⟨b, o, none⟩) 64 cp) w := by
  rw [← run_sliceAt_slice (h := u32s_under)]; exact cut_0 b o cp h w
theorem cut_1' (b o cp : Nat) (h : 128 ≤ cp) (w : World) : (Instr.slice 31 (.slice (some ⟨b, o, none⟩) 128 cp) (some (.int .i64 64)) (some (.int .i64 128)) none).run Try.prog w = .ok (.slice (some ⟨b, o + 64, none⟩) 64 (cp - 64)) w := by
  rw [← run_sliceAt_slice (h := u32s_under)]; exact cut_1 b o cp h w
theorem at_64 (b o cp : Nat) (w : World) : (Instr.arrayAt 42 (.slice (some ⟨b, o, none⟩) 64 cp)).run Try.prog w = .ok (.pointer (some ⟨b, o, none⟩)) w := by kernel_rfl
theorem tsec_under : Try.prog.underlying 42 = some (.array 64 37) := by kernel_rfl
theorem tsec_size : (Try.prog.info? 42).map (·.size) = some 64 := by kernel_rfl
set_option maxRecDepth 100000 in
set_option maxHeartbeats 2000000 in
theorem topen_is (hg : DrvAt w gd p d) (hn : NorAt w p q c s) (hd : d.Ok s) (hmany : d.many = 2) (hdn : s.down = false) :
    Calls Try.prog 12 #[.pointer (some ⟨gd, 0, none⟩)] w fun e w' => ∃ g, e = .returned (.tuple #[.pointer (some ⟨g, 0, none⟩), .int .i64 0]) ∧ TalIn w' g gd d s ∧ w.heap.size ≤ g ∧ Frm NoB w w' := by
  have KS := hide (dsectors_is hg)
  have KZ := hide (dsize_is hg (by omega))
  rw [hmany] at KS KZ
  have hE : d.rdE s 0 128 = 0 := DrvS.rdE_ok hdn ⟨by omega, by omega, by omega, by omega⟩
  have hlw : (d.words s 0 128).length = 128 := DrvS.words_length hn.ok hd (by omega)
  have KR : Hid (Calls Try.prog 11 #[.pointer (some ⟨gd, 0, none⟩), .int .i64 0, .int .i64 128] w fun e w' => ∃ A cp, e = .returned (.tuple #[.slice A 128 cp, .int .i64 0]) ∧ Rd w' A (ints .u32 (d.words s 0 128)) ∧ (∀ b, A = some b → w.heap.size ≤ b.block) ∧ 128 ≤ cp ∧ Frm NoB w w') := by
    refine (dread_is 0 128 hg hn hd).mono ?_
    rintro e w' ⟨A, cp, rfl, h1, h2, h3, h4⟩
    have e1 : d.rd s 0 128 = d.words s 0 128 := by unfold DrvS.rd; rw [if_pos hE]; rfl
    rw [e1] at h1 h3 ⊢
    rw [hlw] at h3
    exact ⟨A, cp, by rw [hlw, hE], h1, h2, h3, h4⟩
  have HW : Hid (∀ i, i < 128 → (d.words s 0 128).getD i 0 = d.fn s i) := fun i hi => by rw [DrvS.words_get hi]; rfl
  have HU := hide (DrvS.words_u32 (d := d) hn.ok 0 128)
  have HLW := hide hlw
  have HOK := hide hn.ok
  clear hE hlw hg hn hd hmany hdn
  generalize d.words s 0 128 = l at KR HW HU HLW
  go_enter Try.func12, Try.ntmps12
  go_wp2_with fail
  refine KS.out.mono ?_
  rintro e w' ⟨rfl, rfl⟩
  go_wp2_with fail
  refine KZ.out.mono ?_
  rintro e w' ⟨rfl, rfl⟩
  go_wp2_with fail
  refine KR.out.mono ?_
  rintro e w1 ⟨A, cp, rfl, hR, hA, hcp, hF⟩
  obtain ⟨b, o, rfl, -⟩ := hR (by intro e; have := congrArg List.length e; rw [ints_length, HLW.out] at this; simp at this)
  have HR := hide hR
  have HF := hide hF
  clear hR hF hA KS KZ KR
  go_wp2_with fail
  obtain ⟨ga, hga⟩ : ∃ ga, w1.heap.size = ga := ⟨_, rfl⟩
  have HGA := hide hga
  have hlt1 : b < w1.heap.size := by have := HR.out.lt (by intro e; have := congrArg List.length e; rw [ints_length, HLW.out] at this; simp at this); obtain ⟨x, hx, hlt⟩ := this; injection hx with hx; subst hx; exact hlt
  have HT0 : Hid (TalAt (w1.alloc (.cells (Try.zeroCells45.setIfInBounds 0 (.pointer (some ⟨gd, 0, none⟩))) 45)) ga gd (fun k => if k < 64 * 0 then l.getD k 0 else 0) 0 0 false) := by
    rw [← hga]
    refine ⟨?_⟩
    rw [tal_zero]
    exact Blk.new _ _ _
  have HRL : Hid (Rd (w1.alloc (.cells (Try.zeroCells45.setIfInBounds 0 (.pointer (some ⟨gd, 0, none⟩))) 45)) (some ⟨b, o, none⟩) (ints .u32 l)) := HR.out.frm' ((Frm.refl NoB w1).alloc _) (fun _ _ _ e => e)
  have HBG : Hid (b ≠ ga) := by show b ≠ ga; omega
  obtain ⟨w2, hw2⟩ : ∃ w2, w1.alloc (.cells (Try.zeroCells45.setIfInBounds 0 (.pointer (some ⟨gd, 0, none⟩))) 45) = w2 := ⟨_, rfl⟩
  have HF2 : Hid (Frm NoB w w2) := by rw [← hw2]; exact (Hid.out HF).alloc _
  rw [hw2] at HT0 HRL ⊢
  rw [hga]
  clear hw2 hga hlt1
  obtain ⟨cs0, hcs0⟩ : ∃ cs0, ints .u32 (l.take 64) = cs0 := ⟨_, rfl⟩
  obtain ⟨cs1, hcs1⟩ : ∃ cs1, ints .u32 (l.drop 64) = cs1 := ⟨_, rfl⟩
  have HC0 : Hid (∀ W, Rd W (some ⟨b, o, none⟩) (ints .u32 l) → W.rangeAt b o cs0) := fun W hr j v hv => by
    obtain ⟨b', o', e, hc⟩ := hr (by intro e; have := congrArg List.length e; rw [ints_length, HLW.out] at this; simp at this)
    injection e with e
    injection e with e1 e2
    subst e1 e2
    refine hc j v ?_
    rw [← hcs0] at hv
    unfold ints at hv ⊢
    rw [List.map_take, List.getElem?_take] at hv
    split at hv
    · exact hv
    · cases hv
  have HC1 : Hid (∀ W, Rd W (some ⟨b, o, none⟩) (ints .u32 l) → W.rangeAt b (o + 64) cs1) := fun W hr j v hv => by
    obtain ⟨b', o', e, hc⟩ := hr (by intro e; have := congrArg List.length e; rw [ints_length, HLW.out] at this; simp at this)
    injection e with e
    injection e with e1 e2
    subst e1 e2
    rw [Nat.add_assoc]
    refine hc (64 + j) v ?_
    rw [← hcs1] at hv
    unfold ints at hv ⊢
    rwa [List.map_drop, List.getElem?_drop] at hv
  have HL0 : Hid (cs0.length = 64) := by show _ = _; rw [← hcs0, ints_length, List.length_take, HLW.out]; rfl
  have HL1 : Hid (cs1.length = 64) := by show _ = _; rw [← hcs1, ints_length, List.length_drop, HLW.out]
  have HO0 : Hid (∀ v ∈ cs0, v.oneCell' = true) := by rw [← hcs0]; exact ints_one
  have HO1 : Hid (∀ v ∈ cs1, v.oneCell' = true) := by rw [← hcs1]; exact ints_one
  have HE0 := hide hcs0
  have HE1 := hide hcs1
  clear hcs0 hcs1
  go_loopw [27] (fun i wr => OpenRel w2 b o ga gd l i wr) (fun i _ => 2 - (intOf i).toNat)
  case atStart => exact ⟨0, by omega, rfl, HT0.out, HRL.out, Frm.refl _ _⟩
  case round =>
    obtain ⟨j, hj, hi0, hTr, hRr, hFr⟩ := hrel
    rcases (by omega : j = 0 ∨ j = 1 ∨ j = 2) with rfl | rfl | rfl
    · have hi0 : _ = Value.int .i64 0 := hi0
      subst hi0
      have sl := cut_0 b o cp hcp
      have sl2 := cut_0' b o cp hcp
      have aa := at_64 b o cp
      have v0 : IntKind.i64.wrap 0 = 0 := by decide
      have v1 : IntKind.i64.wrap 1 = 1 := by decide
      have v2 : IntKind.i64.wrap 2 = 2 := by decide
      have v64 : IntKind.i64.wrap 64 = 64 := by decide
      have v128 : IntKind.i64.wrap 128 = 128 := by decide
      have hbg : b ≠ ga := HBG.out
      have hcl : cs0.length = 64 := HL0.out
      have hrg : wr.rangeAt b (o) cs0 := HC0.out wr hRr
      have hth : wr.there ga 1 64 := hTr.there (k := 0) (by omega)
      have HT := hide hTr
      have HRr := hide hRr
      have HFr := hide hFr
      have hu := tsec_under
      have hi : (Try.prog.info? 42).map (·.size) = some cs0.length := by rw [hcl]; exact tsec_size
      have h1 : ∀ v ∈ cs0, v.oneCell' = true := HO0.out
      clear hTr hRr hFr
      go_wp2_with fail
      go_region_held3 (fun w' => w'.rangeAt b (o) cs0 ∧ w'.there ga 1 64) (go_keep_ranges) (fail)
      have hd : Frm NoB wr wr.drew := (Frm.refl NoB wr).drew
      have hs : Frm (One ga) wr (wr.drew.setCells ga 1 cs0) := setCells_frm (S := One ga) rfl _ _ _ _ (hd.mono (fun _ _ e => e.elim))
      have hT2 := (HT.out.frm hd (fun e => e)).setCells (l.take 64) 0 _ _ (by have := HL0.out; rw [← HE0.out, ints_length] at this; omega)
      rw [HE0.out] at hT2
      have HT2 := hide (hT2 : TalAt (wr.drew.setCells ga 1 cs0) ga gd _ 0 0 false)
      have HS2 := hide hs
      clear hT2 hs hd hrg hth
      go_wp2
      go_roundw
      case rel =>
        refine ⟨1, by omega, rfl, HT2.out.congr (fun k hk => ?_), HRr.out.frm' HS2.out (fun _ x hx e => HBG.out (by injection hx with hx; subst hx; exact e)), HFr.out.trans HS2.out⟩
        unfold laidF
        have hlw := HLW.out
        by_cases h1 : k < 64
        · rw [if_pos (by omega), if_pos ⟨by omega, by rw [List.length_take]; omega⟩, Nat.sub_zero, List.getD_eq_getElem?_getD, List.getD_eq_getElem?_getD, List.getElem?_take_of_lt h1]
        · rw [if_neg (by omega), if_neg (by rw [List.length_take]; omega)]; exact (if_neg (by omega)).symm
      case measure => simp [intOf]
    · have hi0 : _ = Value.int .i64 1 := hi0
      subst hi0
      have sl := cut_1 b o cp hcp
      have sl2 := cut_1' b o cp hcp
      have aa := at_64 b (o + 64) (cp - 64)
      have v0 : IntKind.i64.wrap 0 = 0 := by decide
      have v1 : IntKind.i64.wrap 1 = 1 := by decide
      have v2 : IntKind.i64.wrap 2 = 2 := by decide
      have v64 : IntKind.i64.wrap 64 = 64 := by decide
      have v128 : IntKind.i64.wrap 128 = 128 := by decide
      have hbg : b ≠ ga := HBG.out
      have hcl : cs1.length = 64 := HL1.out
      have hrg : wr.rangeAt b (o + 64) cs1 := HC1.out wr hRr
      have hth : wr.there ga 65 64 := hTr.there (k := 64) (by omega)
      have HT := hide hTr
      have HRr := hide hRr
      have HFr := hide hFr
      have hu := tsec_under
      have hi : (Try.prog.info? 42).map (·.size) = some cs1.length := by rw [hcl]; exact tsec_size
      have h1 : ∀ v ∈ cs1, v.oneCell' = true := HO1.out
      clear hTr hRr hFr
      go_wp2_with fail
      go_region_held3 (fun w' => w'.rangeAt b (o + 64) cs1 ∧ w'.there ga 65 64) (go_keep_ranges) (fail)
      have hd : Frm NoB wr wr.drew := (Frm.refl NoB wr).drew
      have hs : Frm (One ga) wr (wr.drew.setCells ga 65 cs1) := setCells_frm (S := One ga) rfl _ _ _ _ (hd.mono (fun _ _ e => e.elim))
      have hT2 := (HT.out.frm hd (fun e => e)).setCells (l.drop 64) 64 _ _ (by have := HL1.out; rw [← HE1.out, ints_length] at this; omega)
      rw [HE1.out] at hT2
      have HT2 := hide (hT2 : TalAt (wr.drew.setCells ga 65 cs1) ga gd _ 0 0 false)
      have HS2 := hide hs
      clear hT2 hs hd hrg hth
      go_wp2
      go_roundw
      case rel =>
        refine ⟨2, by omega, rfl, HT2.out.congr (fun k hk => ?_), HRr.out.frm' HS2.out (fun _ x hx e => HBG.out (by injection hx with hx; subst hx; exact e)), HFr.out.trans HS2.out⟩
        unfold laidF
        have hlw := HLW.out
        by_cases h1 : k < 64
        · rw [if_pos (by omega), if_neg (by omega)]; exact (if_pos (by omega)).symm
        · rw [if_pos (by omega), if_pos ⟨by omega, by rw [List.length_drop]; omega⟩, List.getD_eq_getElem?_getD, List.getD_eq_getElem?_getD, List.getElem?_drop, show 64 + (k - 64) = k from by omega]
      case measure => simp [intOf]
    · have hi0 : _ = Value.int .i64 2 := hi0
      subst hi0
      have hT4 : TalAt wr ga gd (d.fn s) 0 0 false := hTr.congr (fun i hi => by rw [if_pos (by omega), HW.out i hi])
      have KL := hide (look_is hT4 (fun i => DrvS.fn_u32 HOK.out i))
      have HFr := hide hFr
      clear hT4 hTr hRr hFr
      go_wp2_with fail
      refine KL.out.mono ?_
      rintro e w4 ⟨rfl, hT5, hF4⟩
      have HT5 := hide hT5
      have HF4 := hide hF4
      clear hT5 hF4
      go_wp2
      go_ret2
      have hga : w.heap.size ≤ ga := by rw [← HGA.out]; exact (Hid.out HF).size
      exact ⟨ga, rfl, HT5.out, hga, ((Hid.out HF2).then_ HFr.out (fun i hi e => by have e : i = ga := e; omega)).then_ HF4.out (fun i hi e => by have e : i = ga := e; omega)⟩
theorem topen_down (hg : DrvAt w gd p d) (hn : NorAt w p q c s) (hd : d.Ok s) (hmany : d.many = 2) (hdn : s.down = true) :
    Calls Try.prog 12 #[.pointer (some ⟨gd, 0, none⟩)] w fun e w' => e = .returned (.tuple #[.pointer none, .int .i64 40]) ∧ Frm NoB w w' := by
  have KS := hide (dsectors_is hg)
  have KZ := hide (dsize_is hg (by omega))
  rw [hmany] at KS KZ
  have hE : d.rdE s 0 128 = 40 := by unfold DrvS.rdE; rw [if_pos (by omega), if_pos hdn]
  have KR : Hid (Calls Try.prog 11 #[.pointer (some ⟨gd, 0, none⟩), .int .i64 0, .int .i64 128] w fun e w' => ∃ A n cp, e = .returned (.tuple #[.slice A n cp, .int .i64 40]) ∧ Frm NoB w w') := by
    refine (dread_is 0 128 hg hn hd).mono ?_
    rintro e w' ⟨A, cp, rfl, h1, h2, h3, h4⟩
    exact ⟨A, _, cp, by rw [hE], h4⟩
  clear hE hg hn hd hmany hdn
  go_enter Try.func12, Try.ntmps12
  go_wp2_with fail
  refine KS.out.mono ?_
  rintro e w' ⟨rfl, rfl⟩
  go_wp2_with fail
  refine KZ.out.mono ?_
  rintro e w' ⟨rfl, rfl⟩
  go_wp2_with fail
  refine KR.out.mono ?_
  rintro e w1 ⟨A, n, cp, rfl, hF⟩
  go_wp2
  go_ret2
  exact ⟨rfl, hF⟩
theorem topen_arg (hg : DrvAt w gd p d) (h1 : d.many ≠ 2) (h0 : 1 ≤ d.many) :
    Calls Try.prog 12 #[.pointer (some ⟨gd, 0, none⟩)] w fun e w' => e = .returned (.tuple #[.pointer none, .int .i64 2]) ∧ w = w' := by
  have KS := hide (dsectors_is hg)
  have t0 : (d.many == 0) = false := by simp; omega
  have t1 : (d.many == 2) = false := by simp; omega
  have t0' : ((d.many : Int) == 0) = false := by simp; omega
  have t1' : ((d.many : Int) == 2) = false := by simp; omega
  clear hg h1 h0
  go_enter Try.func12, Try.ntmps12
  go_wp2_with fail
  refine KS.out.mono ?_
  rintro e w' ⟨rfl, rfl⟩
  go_wp2
  go_ret2
  exact ⟨rfl, rfl⟩
theorem topen_no (v : Value) (h : NoDrv w v) :
    Calls Try.prog 12 #[v] w fun e w' => e = .returned (.tuple #[.pointer none, .int .i64 1]) ∧ w = w' := by
  have KS := hide (dsectors_no v h)
  clear h
  go_enter Try.func12, Try.ntmps12
  go_wp2_with fail
  refine KS.out.mono ?_
  rintro e w' ⟨rfl, rfl⟩
  go_wp2
  go_ret2
  exact ⟨rfl, rfl⟩
end
end Go.Proofs.Ytmeegehmbphooaa
