/-
  The document's bytes: Words.
-/
import Derived.Test.YtdhcgghdimkdbaaRb7
import Derived.Test.YtdhcgghdimkdbaaGen
namespace Go.Proofs.Ytdhcgghdimkdbaa
open Go.RowKit
/-- four bytes: the first q as f says, the others 255 -/
def fourAt (f : Nat → Int) (q : Nat) : List Int := (List.range 4).map fun j => if j < q then f j else 255
theorem fourAt_length (f : Nat → Int) (q : Nat) : (fourAt f q).length = 4 := by simp [fourAt]
theorem fourAt_set (f : Nat → Int) (q : Nat) : (ints .u8 (fourAt f q)).toArray.setIfInBounds q (.int .u8 (f q)) = (ints .u8 (fourAt f (q + 1))).toArray := by
  apply Array.ext'
  simp only [Array.toList_setIfInBounds]
  apply List.ext_getElem
  · simp [ints, fourAt]
  · intro i h1 h2
    simp only [ints, fourAt, List.map_map, List.length_set, List.length_map, List.length_range] at h1 ⊢
    rw [List.getElem_set]
    by_cases e : q = i
    · subst e; simp
    · rw [if_neg e]
      simp only [List.getElem_map, List.getElem_range, Function.comp]
      by_cases h : i < q
      · rw [if_pos h, if_pos (by omega)]
      · rw [if_neg h, if_neg (by omega)]
theorem padded_get {b : List Int} {i : Nat} (h : b.length ≤ i) (h2 : i < 4 * ((b.length + 3) / 4)) : (padded b).getD i 0 = 255 := by
  unfold padded
  have e : i = b.length + (i - b.length) := by omega
  have h3 : i - b.length < padN b := by unfold padN; omega
  rw [e, getD_append_right, List.getD_eq_getElem?_getD, List.getElem?_replicate, if_pos h3]; rfl
theorem four_all {b : List Int} {k r : Nat} (hk : 4 * k < b.length) (hr : r = min 4 (b.length - 4 * k)) (j : Nat) (hj : j < 4) : (fourAt (fun j => (padded b).getD (4 * k + j) 0) r).getD j 0 = (padded b).getD (4 * k + j) 0 := by
  unfold fourAt
  rw [List.getD_eq_getElem?_getD, List.getElem?_map, List.getElem?_range hj]
  show (if j < r then _ else (255 : Int)) = _
  by_cases h : j < r
  · rw [if_pos h]
  · rw [if_neg h, padded_get (by omega) (by omega)]
theorem four_word {b : List Int} {k r : Nat} (hk : 4 * k < b.length) (hr : r = min 4 (b.length - 4 * k)) :
    wE (fourAt (fun j => (padded b).getD (4 * k + j) 0) r) 0 = 0 ∧ wN (fourAt (fun j => (padded b).getD (4 * k + j) 0) r) 0 = (wordsOf b).getD k 0 := by
  have hl := fourAt_length (fun j => (padded b).getD (4 * k + j) 0) r
  have e : wE (fourAt (fun j => (padded b).getD (4 * k + j) 0) r) 0 = 0 := by
    unfold wE; rw [hl, if_pos (by omega), if_neg (by omega)]
  refine ⟨e, ?_⟩
  unfold wN
  rw [if_pos e, wordsOf_get (by omega)]
  have h := four_all hk hr
  have d0 : (0 : Int).toNat = 0 := rfl
  rw [d0, List.drop_zero]
  unfold wv
  rw [h 0 (by omega), h 1 (by omega), h 2 (by omega), h 3 (by omega), getD_drop, getD_drop, getD_drop, getD_drop]
theorem fourAt_u8 {f : Nat → Int} (h : ∀ j, 0 ≤ f j ∧ f j < 256) (q : Nat) : U8 (fourAt f q) := fun x hx => by
  obtain ⟨j, _, rfl⟩ := List.mem_map.1 hx
  by_cases e : j < q
  · rw [if_pos e]; exact h j
  · rw [if_neg e]; omega
theorem by_four {w : World} {g : Nat} {f : Nat → Int} {q : Nat} (h : Blk w g 5 (ints .u8 (fourAt f q)).toArray) (hf : ∀ j, 0 ≤ f j ∧ f j < 256) : By w (.slice (some ⟨g, 0, none⟩) 4 4) (fourAt f q) :=
  ⟨_, 4, by rw [fourAt_length], fun _ => ⟨g, 0, rfl, fun i v hv => by rw [Nat.zero_add]; exact (Blk.cell h i).trans (by simpa using hv)⟩, (fun e => by cases e), by rw [fourAt_length]; omega, by omega, fourAt_u8 hf q⟩
section
variable {w : World} {v : Value} {b : List Int}
def RwsRel (w : World) (b : List Int) (v i : Value) (wr : World) : Prop := ∃ k : Nat, k ≤ (b.length + 3) / 4 ∧ i = .int .i64 ((4 * k : Nat) : Int) ∧ wr.ownsRow w.heap.size 27 1 v k (ints .u32 ((wordsOf b).take k)) ∧ Frm NoB w wr
def FoRel (W : World) (g : Nat) (f : Nat → Int) (r : Nat) (i : Value) (wr : World) : Prop := ∃ q : Nat, q ≤ r ∧ i = .int .i64 q ∧ Blk wr g 5 (ints .u8 (fourAt f q)).toArray ∧ Frm (One g) W wr
set_option maxHeartbeats 1000000 in
theorem refWords_is (hv : By w v b) (hl : b.length ≤ 16777000) :
    Calls Try.prog 28 #[v] w fun e w' => ∃ A c, e = .returned (.slice A (wordsOf b).length c) ∧ Rd w' A (ints .u32 (wordsOf b)) ∧ (∀ a, A = some a → w.heap.size ≤ a.block) ∧ Frm NoB w w' := by
  have HV := hide hv
  obtain ⟨A, c, rfl, hr, hz, hlc, hc, hu⟩ := hv
  have HR := hide hr
  have HU := hide hu
  have WL := hide (wordsOf_length b)
  clear hr hz hu
  go_enter Try.func28, Try.ntmps28
  go_wp2
  go_loopw [3, 4] (fun v i wr => RwsRel w b v i wr) (fun _ i _ => b.length + 4 - (intOf i).toNat)
  case atStart => exact ⟨0, by omega, rfl, by simpa [ints] using World.ownsRow_nil w _ _ _, Frm.refl _ _⟩
  case round =>
    obtain ⟨k, hk, rfl, hO, hF⟩ := hrel
    obtain ⟨w0, hw0⟩ : ∃ w0, w0 = wr := ⟨_, rfl⟩
    subst hw0
    have HO := hide hO
    have HF := hide hF
    have hws := hF.size
    clear hO hF
    obtain ⟨p, hp⟩ : ∃ p, 4 * k = p := ⟨_, rfl⟩
    rw [hp]
    by_cases hlt : p < b.length
    · obtain ⟨bb, o, rfl, hcl⟩ := HR.out (ints_ne (by intro e; rw [e] at hlt; simp at hlt))
      obtain ⟨f, hf⟩ : ∃ f : Nat → Int, (fun j => (padded b).getD (4 * k + j) 0) = f := ⟨_, rfl⟩
      obtain ⟨r, hr⟩ : ∃ r, r = min 4 (b.length - 4 * k) := ⟨_, rfl⟩
      have HW := hide (four_word (by omega) hr)
      rw [hf] at HW
      have F1 : Hid (∀ j, p + j < b.length → b.getD (p + j) 0 = f j) := fun j hj => by
        rw [← hf, ← hp]
        unfold padded
        exact (getD_append_left (by omega)).symm
      have FU : Hid (∀ j, 0 ≤ f j ∧ f j < 256) := fun j => by rw [← hf]; exact (padded_u8 HU.out).get _
      obtain ⟨W, hW⟩ : ∃ W, w0.alloc (.cells #[.int .u8 255, .int .u8 255, .int .u8 255, .int .u8 255] 5) = W := ⟨_, rfl⟩
      obtain ⟨g, hg⟩ : ∃ g, w0.heap.size = g := ⟨_, rfl⟩
      have B0 : Hid (Blk W g 5 (ints .u8 (fourAt f 0)).toArray) := by show Blk _ _ _ _; rw [← hW, ← hg]; exact Blk.new w0 5 _
      have HFW : Hid (Frm NoB w0 W) := by show Frm _ _ _; rw [← hW]; exact (Frm.refl NoB w0).alloc _
      have HG := hide hg
      have HR4 : Hid (r ≤ 4 ∧ p + r ≤ b.length ∧ (r < 4 → p + r = b.length)) := ⟨by omega, by omega, by omega⟩
      have HP := hide hp
      clear hf hr
      go_wp2
      try rw [hW]
      try rw [hg]
      clear hW hg hcl
      go_loopw [6] (fun i wr' => FoRel W g f r i wr') (fun i _ => 4 - (intOf i).toNat)
      case atStart => exact ⟨0, by omega, rfl, B0.out, Frm.refl _ _⟩
      case round =>
        obtain ⟨q, hq, rfl, hB, hFq⟩ := hrel
        obtain ⟨wq, hwq⟩ : ∃ wq, wq = wr := ⟨_, rfl⟩
        subst hwq
        have HB2 := hide hB
        have HFq2 := hide hFq
        have HFT : Hid (Frm NoB w wq) := (HF.out.trans HFW.out).then_ hFq (fun i hi e => by have e2 : i = g := e; have := HG.out; omega)
        by_cases hlq : q < 4 ∧ p + q < b.length
        · obtain ⟨q4, ql⟩ := hlq
          obtain ⟨b2, o2, e, hcl⟩ := HR.out (ints_ne (by intro e; rw [e] at ql; simp at ql))
          injection e with e
          injection e with e1 e2
          subst e1 e2
          have k1 := hcl (p + q) _ (ints_get ql)
          have c1 := ((Hid.out HFT).cell (World.block_lt_of_cell? w _ k1) (fun e => e)).trans k1
          rw [F1.out q ql] at c1
          obtain ⟨old, c2⟩ : ∃ old, wq.cell? ⟨g, q, none⟩ = some old := ⟨_, (Blk.cell hB q).trans (Array.getElem?_eq_getElem (by simp [ints, fourAt]; exact q4))⟩
          have c3 := Blk.frozen hB q
          have HBn : Hid (Blk (wq.setCell ⟨g, q, none⟩ (.int .u8 (f q))) g 5 (ints .u8 (fourAt f (q + 1))).toArray) := by
            have := Blk.set_ hB q (.int .u8 (f q))
            rw [fourAt_set f] at this
            exact this
          have HFn : Hid (∀ y, Frm (One g) W (wq.setCell ⟨g, q, none⟩ y)) := fun y => Frm.set1 hFq q y
          obtain ⟨t, ht⟩ : ∃ t, p + q = t := ⟨_, rfl⟩
          have tz : ((p : Int) + (q : Int)) = (t : Int) := by omega
          have t0 : (0 : Int) ≤ (t : Int) := by omega
          have t1 : (t : Int) < (b.length : Int) := by omega
          have q0 : (0 : Int) ≤ (q : Int) := by omega
          have q5 : (q : Int) < 4 := by omega
          have hqr : q + 1 ≤ r := by have := HR4.out; omega
          rw [ht] at c1
          generalize f q = y at *
          clear k1 hcl hB hFq ht ql
          go_wp2
          go_roundw
          case rel => exact ⟨q + 1, hqr, by go_num, HBn.out, HFn.out _⟩
          case measure => simp [intOf]; omega
        · obtain rfl : q = r := by have := HR4.out; omega
          by_cases h4 : q = 4
          · subst h4
            have BQ := hide (by_four HB2.out FU.out)
            clear hB hFq
            go_wp2_with fail
            refine (refGetWord_is BQ.out 0 (by rw [fourAt_length]; omega) (by omega)).mono ?_
            rintro e w4 ⟨rfl, hF4⟩
            rw [HW.out.1, HW.out.2]
            have HF4 := hide hF4
            have HO4 : Hid (w4.ownsRow w.heap.size 27 1 u3 k (ints .u32 ((wordsOf b).take k))) := own_frm (own_frm (own_frm HO.out HFW.out (fun _ _ e => e)) HFq2.out (fun x hx e => by have := (HO.out.lt x hx).2; have e2 : x = g := e; have := HG.out; omega)) hF4 (fun _ _ e => e)
            have HFA : Hid (Frm NoB w w4) := (Hid.out HFT).trans hF4
            have hs4 := HFA.out.size
            clear hF4
            obtain ⟨y, hy⟩ : ∃ y, (wordsOf b).getD k 0 = y := ⟨_, rfl⟩
            have HY := hide hy
            rw [hy]
            clear hy
            go_wp2_with (at_builtin; refine append_word rfl (.tmp 44) (.tmp 46) rfl w.heap.size k w4.heap.size u3 ((wordsOf b).take k) y rfl rfl ((Hid.out HO4).alloc _) (Blk.new _ _ _) (by have := HP.out; omega) (by simp; omega) ?_; intro g2 cap w5 hown hgrow)
            have HN : Hid (Frm NoB w w5) := by
              have h1 : Frm (RowB u3) w4 w5 := ((Frm.refl _ w4).alloc _).grown hgrow (fun g hg _ => hg)
              exact HFA.out.then_ h1 (fun i hi e => by have := (HO.out.lt i e).1; omega)
            have HOW := hide hown
            clear hown hgrow
            go_wp2
            go_roundw
            case rel =>
              refine ⟨k + 1, by have := HP.out; omega, ?_, ?_, HN.out⟩
              · have := HP.out
                rw [show 4 * (k + 1) = p + 4 from by omega]; go_num
              · have e := take_next (show k < (wordsOf b).length by rw [WL.out]; have := HP.out; omega)
                rw [HY.out] at e
                rw [← e]; exact HOW.out
            case measure => have := HP.out; simp [intOf]; omega
          · obtain ⟨t, ht⟩ : ∃ t, p + q = t := ⟨_, rfl⟩
            have tz : ((p : Int) + (q : Int)) = (t : Int) := by omega
            have d1 : decide ((q : Int) < 4) = true := decide_eq_true (by have := HR4.out; omega)
            have d2 : decide (t < b.length) = false := decide_eq_false (by have := HR4.out; omega)
            have t24 : t ≤ 16777216 := by have := HR4.out; omega
            have HLT := hide hlt
            have HLK : Hid (k + 1 ≤ (b.length + 3) / 4 ∧ k < (b.length + 3) / 4) := by show _ ∧ _; omega
            clear hlq h4 ht hlt
            have BQ := hide (by_four HB2.out FU.out)
            clear hB hFq
            go_wp2_with fail
            refine (refGetWord_is BQ.out 0 (by rw [fourAt_length]; omega) (by omega)).mono ?_
            rintro e w4 ⟨rfl, hF4⟩
            rw [HW.out.1, HW.out.2]
            have HF4 := hide hF4
            have HO4 : Hid (w4.ownsRow w.heap.size 27 1 u3 k (ints .u32 ((wordsOf b).take k))) := own_frm (own_frm (own_frm HO.out HFW.out (fun _ _ e => e)) HFq2.out (fun x hx e => by have := (HO.out.lt x hx).2; have e2 : x = g := e; have := HG.out; omega)) hF4 (fun _ _ e => e)
            have HFA : Hid (Frm NoB w w4) := (Hid.out HFT).trans hF4
            have hs4 := HFA.out.size
            clear hF4
            obtain ⟨y, hy⟩ : ∃ y, (wordsOf b).getD k 0 = y := ⟨_, rfl⟩
            have HY := hide hy
            rw [hy]
            clear hy
            go_wp2_with (at_builtin; refine append_word rfl (.tmp 44) (.tmp 46) rfl w.heap.size k w4.heap.size u3 ((wordsOf b).take k) y rfl rfl ((Hid.out HO4).alloc _) (Blk.new _ _ _) (by have := HP.out; omega) (by simp; omega) ?_; intro g2 cap w5 hown hgrow)
            have HN : Hid (Frm NoB w w5) := by
              have h1 : Frm (RowB u3) w4 w5 := ((Frm.refl _ w4).alloc _).grown hgrow (fun g hg _ => hg)
              exact HFA.out.then_ h1 (fun i hi e => by have := (HO.out.lt i e).1; omega)
            have HOW := hide hown
            clear hown hgrow
            go_wp2
            go_roundw
            case rel =>
              refine ⟨k + 1, HLK.out.1, ?_, ?_, HN.out⟩
              · have := HP.out
                rw [show 4 * (k + 1) = p + 4 from by omega]; go_num
              · have e := take_next (show k < (wordsOf b).length by rw [WL.out]; exact HLK.out.2)
                rw [HY.out] at e
                rw [← e]; exact HOW.out
            case measure => have := HLT.out; simp [intOf]; omega
    · have hk2 : k = (b.length + 3) / 4 := by omega
      have ek : (wordsOf b).take k = wordsOf b := List.take_of_length_le (by rw [WL.out]; omega)
      have hO2 := HO.out
      rw [ek] at hO2
      obtain ⟨A2, c2, rfl, h3, h4, h5⟩ := Rd.of_own hO2
      have H3 := hide h3
      have H4 := hide h4
      have WL2 : (wordsOf b).length = k := by rw [WL.out]; omega
      have HK := hide WL2
      clear hO2 h3 h4 h5 hk2 ek WL2
      go_wp2
      go_ret
      rw [HK.out]
      exact ⟨A2, c2, rfl, H3.out, fun a ha => (H4.out a ha).1, HF.out⟩
end
end Go.Proofs.Ytdhcgghdimkdbaa
