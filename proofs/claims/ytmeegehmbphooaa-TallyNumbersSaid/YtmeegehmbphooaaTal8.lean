/-
  The tally: Step, where it turns; Step. (Printed: wip/talgen8.py)
-/
import Derived.Test.YtmeegehmbphooaaTal7
namespace Go.Proofs.Ytmeegehmbphooaa
open Go.RowKit
theorem up_ne5 (s : NorS) (a b c : Int) : ¬ s.up a b c = 5 := by
  unfold NorS.up
  intro h
  repeat' split at h
  all_goals (cases h; done)
theorem erE_ne5 (d : DrvS) (s : NorS) (a : Int) : ¬ d.erE s a = 5 := by
  unfold DrvS.erE NorS.eraseE
  intro h
  repeat' split at h
  all_goals first | (cases h; done) | exact up_ne5 _ _ _ _ h
theorem trn_ne5 (d : DrvS) (s : NorS) (i : Nat) (c : Int) : ¬ (trn d s i c).2 = 5 := by
  unfold trn
  split
  · exact wrE_ne5 _ _ _ _
  · exact erE_ne5 _ _ _
section
variable {w : World} {g gd p q c : Nat} {on count : Int} {over : Bool} {s : NorS} {d : DrvS}
set_option maxRecDepth 100000 in
set_option maxHeartbeats 2000000 in
theorem step_t0 (h : TalAt w g gd (d.fn s) (0) count false) (hl : look (d.fn s) = (0, count)) (hg : DrvAt w gd p d) (hn : NorAt w p q c s) (hd : d.Ok s) (hmany : d.many = 2) (hc0 : 0 ≤ count) (hc1 : count < 2147483648) (hr : room (d.fn s) 0 = 0) :
    Calls Try.prog 10 #[.pointer (some ⟨g, 0, none⟩)] w (StepPost w g gd p q c s d) := by
  have KR : Hid (Calls Try.prog 35 #[.pointer (some ⟨g, 0, none⟩)] w fun e w' => e = .returned (.int .i64 0) ∧ Frm NoB w w') := (room_0 h (fun i => DrvS.fn_u32 hn.ok i)).mono (by rintro e w' ⟨rfl, hF⟩; rw [hr]; exact ⟨rfl, hF⟩)
  have c3 := h.ccount
  have c4 := h.cover
  have HT := hide h
  have HN := hide hn
  have HG := hide hg
  have HD := hide hd
  have KN := hide (tnone_is HT.out)
  have t1 : decide (count ≥ 2147483648) = false := decide_eq_false (by omega)
  have HST : Hid (d.stp s = trn d s 1 count) := by
    show _ = _
    unfold DrvS.stp trn
    rw [show DrvS.nextS (d.fn s) = 1 from by unfold DrvS.nextS; rw [hl]; rfl, hl]
    simp only
    rw [if_neg (by omega), if_neg (fun h => by have := h.2; rw [show offOf 0 = 0 from rfl, hr] at this; omega)]
  have KT : Hid (∀ W, Frm NoB w W → Calls Try.prog 38 #[.pointer (some ⟨g, 0, none⟩)] W (TurnPost W g gd p q c (0) count false s d 1)) := fun W hf =>
    turn_1 (HT.out.frm hf (fun e => e)) (by decide) (HG.out.frm hf (fun e => e)) (HN.out.frm hf (fun e => e) (fun e => e)) HD.out hmany hc0 hc1
  clear h hn hg hd hl hr
  go_enter Try.func10, Try.ntmps10
  go_wp2_with fail
  refine KN.out.mono ?_
  rintro e w' ⟨rfl, rfl⟩
  go_wp2_with fail
  refine KR.out.mono ?_
  rintro e w1 ⟨rfl, hF⟩
  have HF := hide hF
  clear hF c3 c4 KN KR
  go_wp2_with fail
  refine (KT.out w1 HF.out).mono ?_
  rintro e w3 ⟨rfl, hN3, ⟨f', hT3, hz3⟩, hF3⟩
  have HN3 := hide hN3
  have HT3 := hide hT3
  have HF3 := hide hF3
  have HZ3 := hide hz3
  have hne := hide (HT3.out.ne HN3.out)
  have H5 := hide (trn_ne5 d s 1 count)
  clear hN3 hT3 hF3 hz3 KT
  obtain ⟨s', E, hE⟩ : ∃ s' E, trn d s 1 count = (s', E) := ⟨_, _, rfl⟩
  rw [hE] at HST HN3 HZ3 H5 ⊢
  clear hE
  by_cases h0 : E = 0
  · subst h0
    have hT4 : TalAt w3 g gd (d.fn s') (0) count false := HT3.out.congr (fun k hk => (HZ3.out (by first | trivial | rfl) k hk).symm)
    have KL := hide (look_is hT4 (fun i => DrvS.fn_u32 (Hid.out HN3).ok i))
    clear hT4
    go_wp2_with fail
    refine KL.out.mono ?_
    rintro e w4 ⟨rfl, hT5, hF4⟩
    have HT5 := hide hT5
    have HF4 := hide hF4
    clear hT5 hF4
    go_wp2
    go_ret
    unfold StepPost
    rw [HST.out]
    exact ⟨rfl, (Hid.out HN3).frm HF4.out (fun e => hne.out.1 e.symm) (fun e => hne.out.2 e.symm), fun _ => HT5.out, fun h => absurd rfl h, ((Tri.of_no HF.out).trans HF3.out).trans (Tri.of_one HF4.out)⟩
  · have t5 : (E != 0) = true := by simpa using h0
    have H0 := hide h0
    have c5 := HT3.out.cover
    have f5 := HT3.out.fz 131
    clear h0
    go_wp2
    go_ret
    unfold StepPost
    rw [HST.out]
    refine ⟨rfl, (Hid.out HN3).frm (Frm.set1 (p := g) (Frm.refl _ w3) 131 _) (fun e => hne.out.1 e.symm) (fun e => hne.out.2 e.symm), fun h => ?_, fun _ _ => ⟨_, _, _, HT3.out.set_over true⟩, ((Tri.of_no HF.out).trans HF3.out).trans (Tri.of_one (Frm.set1 (p := g) (Frm.refl _ w3) 131 _))⟩
    rcases h with h | h
    · exact absurd h H0.out
    · exact absurd h (Hid.out H5)
set_option maxRecDepth 100000 in
set_option maxHeartbeats 2000000 in
theorem step_t1 (h : TalAt w g gd (d.fn s) (1) count false) (hl : look (d.fn s) = (1, count)) (hg : DrvAt w gd p d) (hn : NorAt w p q c s) (hd : d.Ok s) (hmany : d.many = 2) (hc0 : 0 ≤ count) (hc1 : count < 2147483648) (hr : room (d.fn s) 64 = 0) :
    Calls Try.prog 10 #[.pointer (some ⟨g, 0, none⟩)] w (StepPost w g gd p q c s d) := by
  have KR : Hid (Calls Try.prog 35 #[.pointer (some ⟨g, 0, none⟩)] w fun e w' => e = .returned (.int .i64 0) ∧ Frm NoB w w') := (room_1 h (fun i => DrvS.fn_u32 hn.ok i)).mono (by rintro e w' ⟨rfl, hF⟩; rw [hr]; exact ⟨rfl, hF⟩)
  have c3 := h.ccount
  have c4 := h.cover
  have HT := hide h
  have HN := hide hn
  have HG := hide hg
  have HD := hide hd
  have KN := hide (tnone_is HT.out)
  have t1 : decide (count ≥ 2147483648) = false := decide_eq_false (by omega)
  have HST : Hid (d.stp s = trn d s 0 count) := by
    show _ = _
    unfold DrvS.stp trn
    rw [show DrvS.nextS (d.fn s) = 0 from by unfold DrvS.nextS; rw [hl]; rfl, hl]
    simp only
    rw [if_neg (by omega), if_neg (fun h => by have := h.2; rw [show offOf 1 = 64 from rfl, hr] at this; omega)]
  have KT : Hid (∀ W, Frm NoB w W → Calls Try.prog 38 #[.pointer (some ⟨g, 0, none⟩)] W (TurnPost W g gd p q c (1) count false s d 0)) := fun W hf =>
    turn_0 (HT.out.frm hf (fun e => e)) (by decide) (HG.out.frm hf (fun e => e)) (HN.out.frm hf (fun e => e) (fun e => e)) HD.out hmany hc0 hc1
  clear h hn hg hd hl hr
  go_enter Try.func10, Try.ntmps10
  go_wp2_with fail
  refine KN.out.mono ?_
  rintro e w' ⟨rfl, rfl⟩
  go_wp2_with fail
  refine KR.out.mono ?_
  rintro e w1 ⟨rfl, hF⟩
  have HF := hide hF
  clear hF c3 c4 KN KR
  go_wp2_with fail
  refine (KT.out w1 HF.out).mono ?_
  rintro e w3 ⟨rfl, hN3, ⟨f', hT3, hz3⟩, hF3⟩
  have HN3 := hide hN3
  have HT3 := hide hT3
  have HF3 := hide hF3
  have HZ3 := hide hz3
  have hne := hide (HT3.out.ne HN3.out)
  have H5 := hide (trn_ne5 d s 0 count)
  clear hN3 hT3 hF3 hz3 KT
  obtain ⟨s', E, hE⟩ : ∃ s' E, trn d s 0 count = (s', E) := ⟨_, _, rfl⟩
  rw [hE] at HST HN3 HZ3 H5 ⊢
  clear hE
  by_cases h0 : E = 0
  · subst h0
    have hT4 : TalAt w3 g gd (d.fn s') (1) count false := HT3.out.congr (fun k hk => (HZ3.out (by first | trivial | rfl) k hk).symm)
    have KL := hide (look_is hT4 (fun i => DrvS.fn_u32 (Hid.out HN3).ok i))
    clear hT4
    go_wp2_with fail
    refine KL.out.mono ?_
    rintro e w4 ⟨rfl, hT5, hF4⟩
    have HT5 := hide hT5
    have HF4 := hide hF4
    clear hT5 hF4
    go_wp2
    go_ret
    unfold StepPost
    rw [HST.out]
    exact ⟨rfl, (Hid.out HN3).frm HF4.out (fun e => hne.out.1 e.symm) (fun e => hne.out.2 e.symm), fun _ => HT5.out, fun h => absurd rfl h, ((Tri.of_no HF.out).trans HF3.out).trans (Tri.of_one HF4.out)⟩
  · have t5 : (E != 0) = true := by simpa using h0
    have H0 := hide h0
    have c5 := HT3.out.cover
    have f5 := HT3.out.fz 131
    clear h0
    go_wp2
    go_ret
    unfold StepPost
    rw [HST.out]
    refine ⟨rfl, (Hid.out HN3).frm (Frm.set1 (p := g) (Frm.refl _ w3) 131 _) (fun e => hne.out.1 e.symm) (fun e => hne.out.2 e.symm), fun h => ?_, fun _ _ => ⟨_, _, _, HT3.out.set_over true⟩, ((Tri.of_no HF.out).trans HF3.out).trans (Tri.of_one (Frm.set1 (p := g) (Frm.refl _ w3) 131 _))⟩
    rcases h with h | h
    · exact absurd h H0.out
    · exact absurd h (Hid.out H5)
set_option maxRecDepth 100000 in
set_option maxHeartbeats 2000000 in
theorem step_tm (h : TalAt w g gd (d.fn s) (-1) count false) (hl : look (d.fn s) = (-1, count)) (hg : DrvAt w gd p d) (hn : NorAt w p q c s) (hd : d.Ok s) (hmany : d.many = 2) (hc0 : 0 ≤ count) (hc1 : count < 2147483648) :
    Calls Try.prog 10 #[.pointer (some ⟨g, 0, none⟩)] w (StepPost w g gd p q c s d) := by
  have KR : Hid (Calls Try.prog 35 #[.pointer (some ⟨g, 0, none⟩)] w fun e w' => e = .returned (.int .i64 0) ∧ Frm NoB w w') := (room_no h).mono (by rintro e w' ⟨rfl, rfl⟩; exact ⟨rfl, Frm.refl _ _⟩)
  have c3 := h.ccount
  have c4 := h.cover
  have HT := hide h
  have HN := hide hn
  have HG := hide hg
  have HD := hide hd
  have KN := hide (tnone_is HT.out)
  have t1 : decide (count ≥ 2147483648) = false := decide_eq_false (by omega)
  have HST : Hid (d.stp s = trn d s 0 count) := by
    show _ = _
    unfold DrvS.stp trn
    rw [show DrvS.nextS (d.fn s) = 0 from by unfold DrvS.nextS; rw [hl]; rfl, hl]
    simp only
    rw [if_neg (by omega), if_neg (fun h => by have := h.1; omega)]
  have KT : Hid (∀ W, Frm NoB w W → Calls Try.prog 38 #[.pointer (some ⟨g, 0, none⟩)] W (TurnPost W g gd p q c (-1) count false s d 0)) := fun W hf =>
    turn_0 (HT.out.frm hf (fun e => e)) (by decide) (HG.out.frm hf (fun e => e)) (HN.out.frm hf (fun e => e) (fun e => e)) HD.out hmany hc0 hc1
  clear h hn hg hd hl
  go_enter Try.func10, Try.ntmps10
  go_wp2_with fail
  refine KN.out.mono ?_
  rintro e w' ⟨rfl, rfl⟩
  go_wp2_with fail
  refine KR.out.mono ?_
  rintro e w1 ⟨rfl, hF⟩
  have HF := hide hF
  clear hF c3 c4 KN KR
  go_wp2_with fail
  refine (KT.out w1 HF.out).mono ?_
  rintro e w3 ⟨rfl, hN3, ⟨f', hT3, hz3⟩, hF3⟩
  have HN3 := hide hN3
  have HT3 := hide hT3
  have HF3 := hide hF3
  have HZ3 := hide hz3
  have hne := hide (HT3.out.ne HN3.out)
  have H5 := hide (trn_ne5 d s 0 count)
  clear hN3 hT3 hF3 hz3 KT
  obtain ⟨s', E, hE⟩ : ∃ s' E, trn d s 0 count = (s', E) := ⟨_, _, rfl⟩
  rw [hE] at HST HN3 HZ3 H5 ⊢
  clear hE
  by_cases h0 : E = 0
  · subst h0
    have hT4 : TalAt w3 g gd (d.fn s') (-1) count false := HT3.out.congr (fun k hk => (HZ3.out (by first | trivial | rfl) k hk).symm)
    have KL := hide (look_is hT4 (fun i => DrvS.fn_u32 (Hid.out HN3).ok i))
    clear hT4
    go_wp2_with fail
    refine KL.out.mono ?_
    rintro e w4 ⟨rfl, hT5, hF4⟩
    have HT5 := hide hT5
    have HF4 := hide hF4
    clear hT5 hF4
    go_wp2
    go_ret
    unfold StepPost
    rw [HST.out]
    exact ⟨rfl, (Hid.out HN3).frm HF4.out (fun e => hne.out.1 e.symm) (fun e => hne.out.2 e.symm), fun _ => HT5.out, fun h => absurd rfl h, ((Tri.of_no HF.out).trans HF3.out).trans (Tri.of_one HF4.out)⟩
  · have t5 : (E != 0) = true := by simpa using h0
    have H0 := hide h0
    have c5 := HT3.out.cover
    have f5 := HT3.out.fz 131
    clear h0
    go_wp2
    go_ret
    unfold StepPost
    rw [HST.out]
    refine ⟨rfl, (Hid.out HN3).frm (Frm.set1 (p := g) (Frm.refl _ w3) 131 _) (fun e => hne.out.1 e.symm) (fun e => hne.out.2 e.symm), fun h => ?_, fun _ _ => ⟨_, _, _, HT3.out.set_over true⟩, ((Tri.of_no HF.out).trans HF3.out).trans (Tri.of_one (Frm.set1 (p := g) (Frm.refl _ w3) 131 _))⟩
    rcases h with h | h
    · exact absurd h H0.out
    · exact absurd h (Hid.out H5)
theorem step_full (h : TalAt w g gd (d.fn s) on count false) (hl : look (d.fn s) = (on, count)) (hn : NorAt w p q c s) (hc1 : 2147483648 ≤ count) :
    Calls Try.prog 10 #[.pointer (some ⟨g, 0, none⟩)] w (StepPost w g gd p q c s d) := by
  have c3 := h.ccount
  have c4 := h.cover
  have HT := hide h
  have HN := hide hn
  have KN := hide (tnone_is HT.out)
  have t1 : decide (count ≥ 2147483648) = true := decide_eq_true (by omega)
  have HST : Hid (d.stp s = (s, 5)) := by
    show _ = _
    unfold DrvS.stp
    rw [hl]
    simp only
    rw [if_pos (by omega)]
  have HL := hide hl
  clear h hn hl
  go_enter Try.func10, Try.ntmps10
  go_wp2_with fail
  refine KN.out.mono ?_
  rintro e w' ⟨rfl, rfl⟩
  go_wp2
  go_ret
  unfold StepPost
  rw [HST.out]
  refine ⟨rfl, HN.out, fun _ => ?_, fun _ h => absurd rfl h, Frm.refl _ _⟩
  rw [HL.out]
  exact HT.out
theorem tstep_over {f : Nat → Int} (h : TalAt w g gd f on count true) :
    Calls Try.prog 10 #[.pointer (some ⟨g, 0, none⟩)] w fun e w' => e = .returned (.int .i64 60) ∧ w = w' := by
  have c4 := h.cover
  have HT := hide h
  have KN := hide (tnone_is HT.out)
  clear h
  go_enter Try.func10, Try.ntmps10
  go_wp2_with fail
  refine KN.out.mono ?_
  rintro e w' ⟨rfl, rfl⟩
  go_wp2
  go_ret
  exact ⟨rfl, rfl⟩
/-- A tally that tells what its drive has. -/
def TalIn (w : World) (g gd : Nat) (d : DrvS) (s : NorS) : Prop := TalAt w g gd (d.fn s) (look (d.fn s)).1 (look (d.fn s)).2 false
theorem tstep_is (h : TalIn w g gd d s) (hg : DrvAt w gd p d) (hn : NorAt w p q c s) (hd : d.Ok s) (hmany : d.many = 2) :
    Calls Try.prog 10 #[.pointer (some ⟨g, 0, none⟩)] w (StepPost w g gd p q c s d) := by
  unfold TalIn at h
  obtain ⟨on, count, hl⟩ : ∃ on count, look (d.fn s) = (on, count) := ⟨_, _, rfl⟩
  have hb := DrvS.look_lo (d := d) hn.ok
  rw [hl] at h hb
  by_cases hc : 2147483648 ≤ count
  · exact step_full h hl hn hc
  · have hw : ∀ o r, 2 ≤ r → d.fn s (o + r) ≠ 0 → 0 < d.fn s (o + r) ∧ d.fn s (o + r) < 4294967296 := fun o r _ hne => by
      have := DrvS.fn_u32 (d := d) hn.ok (o + r); omega
    rcases (by omega : on = -1 ∨ on = 0 ∨ on = 1) with rfl | rfl | rfl
    · exact step_tm h hl hg hn hd hmany (by omega) (by omega)
    · rcases room_spec (d.fn s) 0 with ⟨h1, -⟩ | ⟨h1, h2, h3, -⟩
      · exact step_t0 h hl hg hn hd hmany (by omega) (by omega) h1
      · have := hw 0 _ h1 h3
        rw [Nat.zero_add] at this
        exact step_w0 _ h hl hg hn hd (by omega) rfl h1 h2 this
    · rcases room_spec (d.fn s) 64 with ⟨h1, -⟩ | ⟨h1, h2, h3, -⟩
      · exact step_t1 h hl hg hn hd hmany (by omega) (by omega) h1
      · exact step_w1 _ h hl hg hn hd (by omega) rfl h1 h2 (hw 64 _ h1 h3)
end
end Go.Proofs.Ytmeegehmbphooaa
