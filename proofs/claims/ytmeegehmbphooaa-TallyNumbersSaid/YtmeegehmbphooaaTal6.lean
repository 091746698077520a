/-
  The tally: turn. (Printed: wip/talgen.py)
-/
import Derived.Test.YtmeegehmbphooaaTal5
import Derived.Test.YtmeegehmbphooaaNorOwnG
namespace Go.Proofs.Ytmeegehmbphooaa
open Go.RowKit
section
variable {w : World} {g gd p q c : Nat} {on count : Int} {over : Bool} {s : NorS} {d : DrvS}
theorem TalAt.congr {f f' : Nat → Int} (h : TalAt w g gd f on count over) (hf : ∀ i, i < 128 → f' i = f i) : TalAt w g gd f' on count over := ⟨by rw [talCells_congr hf]; exact h.b⟩
def TurnRel (w1 : World) (g gd p q c : Nat) (f : Nat → Int) (on count : Int) (over : Bool) (s : NorS) (o : Nat) (i : Value) (wr : World) : Prop :=
  ∃ j : Nat, j ≤ 64 ∧ i = .int .i64 j ∧ TalAt wr g gd (onesTo f o j) on count over ∧ NorAt wr p q c s ∧ Frm (One g) w1 wr
/-- what turn comes to -/
def trn (d : DrvS) (s : NorS) (i : Nat) (count : Int) : NorS × Int :=
  if d.erE s i = 0 then (d.wr (d.er s i) ((64 * i : Nat) : Int) [count + 1, 4294967294 - count], d.wrE (d.er s i) ((64 * i : Nat) : Int) [count + 1, 4294967294 - count]) else (d.er s i, d.erE s i)
def TurnPost (w : World) (g gd p q c : Nat) (on count : Int) (over : Bool) (s : NorS) (d : DrvS) (i : Nat) (e : Ending) (w' : World) : Prop :=
  e = .returned (.int .i64 (trn d s i count).2) ∧ NorAt w' p q c (trn d s i count).1 ∧ (∃ f', TalAt w' g gd f' on count over ∧ ((trn d s i count).2 = 0 → ∀ k, k < 128 → f' k = d.fn (trn d s i count).1 k)) ∧ Frm (Tri p q g) w w'

set_option maxRecDepth 100000 in
set_option maxHeartbeats 2000000 in
theorem turn_0 (h : TalAt w g gd (d.fn s) on count over) (hon : (on == 0) = false) (hg : DrvAt w gd p d) (hn : NorAt w p q c s) (hd : d.Ok s) (hmany : d.many = 2) (hc0 : 0 ≤ count) (hc1 : count < 2147483648) :
    Calls Try.prog 38 #[.pointer (some ⟨g, 0, none⟩)] w (TurnPost w g gd p q c on count over s d 0) := by
  have KE := hide (derase_is (0 : Int) hg hn (by have := hd.n; have := hn.ok.n2; omega) (by omega))
  have c0 := h.c0
  have c1 := h.con
  have HT := hide h
  have HN := hide hn
  have HG := hide hg
  have HD := hide hd
  have HU2 : Hid (U32 [count + 1, 4294967294 - count]) := fun x hx => by
    simp only [List.mem_cons, List.not_mem_nil, or_false] at hx
    omega
  clear h hn hg hd
  obtain ⟨E, hE⟩ : ∃ E, d.erE s 0 = E := ⟨_, rfl⟩
  have HE := hide hE
  rw [hE] at KE
  clear hE
  have HTR : Hid (trn d s 0 count = if E = 0 then (d.wr (d.er s 0) (0 : Int) [count + 1, 4294967294 - count], d.wrE (d.er s 0) (0 : Int) [count + 1, 4294967294 - count]) else (d.er s 0, E)) := by
    show _ = _; unfold trn
    rw [show ((0 : Nat) : Int) = 0 from rfl, HE.out]; try rfl
  by_cases h0 : E = 0
  · subst h0
    have HOK : Hid (0 < d.many ∧ s.down = false ∧ (d.er s 0).down = false ∧ (d.er s 0).n = s.n ∧ (d.er s 0).half = s.half ∧ (d.er s 0).arm = s.step.arm ∧ ∀ k, d.fn (d.er s 0) k = onesTo (d.fn s) 0 64 k) := DrvS.er_ok HN.out.ok HD.out HE.out
    go_enter Try.func38, Try.ntmps38
    go_wp2_with fail
    refine KE.out.mono ?_
    rintro e w1 ⟨rfl, hn1, hF⟩
    have hT1 := HT.out.frm hF (HT.out.two HN.out)
    have HT1 := hide hT1
    have HN1 := hide hn1
    have HF := hide hF
    have HG1 := hide (HG.out.frm hF (HG.out.two HN.out))
    have hok1 := hn1.ok
    have HOK1 := hide hok1
    clear hT1 hn1 hF hok1 c0 c1
    go_wp2_with fail
    go_loopw [21] (fun i wr => TurnRel w1 g gd p q c (d.fn s) on count over (d.er s 0) 0 i wr) (fun i _ => 64 - (intOf i).toNat)
    case atStart => exact ⟨0, by omega, rfl, HT1.out.congr (fun i hi => by unfold onesTo; rw [if_neg (by omega)]), HN1.out, Frm.refl _ _⟩
    case round =>
      obtain ⟨j, hj, rfl, hT, hN, hf⟩ := hrel
      have HTj := hide hT
      have HNj := hide hN
      have HFj := hide hf
      have hne := hide (HTj.out.ne HNj.out)
      by_cases hlt : j < 64
      · have cj := HTj.out.cw (i := 0 + j) (by omega)
        rw [show 1 + (0 + j) = 1 + j from by omega] at cj
        have fj := HTj.out.fz (1 + j)
        have z1 : (0 : Int) ≤ (j : Int) := by omega
        have z2 : (j : Int) < 64 := by omega
        clear hT hN hf
        go_wp2
        go_roundw
        case rel =>
          have h1 := HTj.out.set_w (i := 0 + j) (by omega) 4294967295
          rw [show 1 + (0 + j) = 1 + j from by omega] at h1
          refine ⟨j + 1, by omega, by go_num, h1.congr (fun k hk => ?_), ?_, HFj.out.set1 _ _⟩
          · rw [← onesTo_next]; rfl
          · exact HNj.out.frm (Frm.set1 (p := g) (Frm.refl _ wr) (1 + j) _) (fun e => hne.out.1 e.symm) (fun e => hne.out.2 e.symm)
        case measure => simp [intOf]; omega
      · obtain rfl : j = 64 := by omega
        have cc := HTj.out.ccount
        have wc : IntKind.i64.wrap (count + 1) = count + 1 := IntWalk.i64_in _ (by omega)
        have xc : Value.int .u32 (bits .xor .u32 (if IntKind.u32.signed = true then -1 else IntKind.u32.max) (count + 1)) = Value.int .u32 (4294967294 - count) := by rw [xor_not (by omega) (by omega)]; congr 1; omega
        have hgd1 : DrvAt wr gd p d := HG1.out.frm hf (fun e => HT.out.ned HG.out e)
        have HGj := hide hgd1
        clear hT hN hf hgd1
        have hdj : d.Ok (d.er s 0) := ⟨HD.out.m, by rw [HOK.out.2.2.2.1]; exact HD.out.n⟩
        have KW : Hid (∀ (W : World), W = wr.alloc (.cells #[.int .u32 (count + 1), .int .u32 (4294967294 - count)] 37) → Calls Try.prog 36 #[.pointer (some ⟨g, 0, none⟩), .int .i64 0, .int .i64 0, .slice (some ⟨wr.heap.size, 0, none⟩) 2 2] W (TwPost W g gd p q c (onesTo (d.fn s) 0 64) on count over (d.er s 0) d 0 0 [count + 1, 4294967294 - count])) := by
          intro W hW
          subst hW
          have hfa : Frm NoB wr (wr.alloc (.cells #[.int .u32 (count + 1), .int .u32 (4294967294 - count)] 37)) := (Frm.refl NoB wr).alloc _
          exact twrite_0 (s := d.er s 0) 0 (some ⟨wr.heap.size, 0, none⟩) 2 [count + 1, 4294967294 - count] (by simp) (by simp) (HTj.out.frm hfa (fun e => e)) (HGj.out.frm hfa (fun e => e)) (HNj.out.frm hfa (fun e => e) (fun e => e)) hdj
            (rd_lit wr [.int .u32 (count + 1), .int .u32 (4294967294 - count)] 37) (fun x hx => by
              injection hx with hx
              subst hx
              have h1 := HTj.out.lt; have h2 := HNj.out.ltp; have h3 := HNj.out.ltq
              exact ⟨fun e => by have e : wr.heap.size = p ∨ wr.heap.size = q ∨ wr.heap.size = g := e; omega, by simp⟩)
            HU2.out (by simp)
        have HDj := hide hdj
        clear hdj
        go_wp2_with fail
        refine (KW.out _ rfl).mono ?_
        rintro e w3 ⟨rfl, hN3, hT3, hF3⟩
        have HN3 := hide hN3
        have HT3 := hide hT3
        have HF3 := hide hF3
        clear hN3 hT3 hF3 KW cc wc xc
        go_wp2
        go_ret
        have h9 := HTR.out.trans (if_pos (by first | trivial | rfl))
        unfold TurnPost
        rw [h9]
        refine ⟨rfl, HN3.out, ⟨_, HT3.out, fun hz k hk => ?_⟩, ?_⟩
        · have hw := DrvS.wr_ok (b := 0) (l := [count + 1, 4294967294 - count]) HOK1.out HDj.out hz
          rw [if_pos hz]
          refine Eq.trans ?_ (hw.2.2.2.2.2 k).symm
          exact laidF_congr (n := 128) (fun i hi => (HOK.out.2.2.2.2.2.2 i).symm) k hk
        · have hz1 : w.heap.size ≤ wr.heap.size := Nat.le_trans HF.out.size HFj.out.size
          exact ((Tri.of_two HF.out).trans ((Tri.of_one HFj.out).mono (fun _ _ e => e))).trans ((Tri.of_no ((Frm.refl NoB wr).alloc _)).trans HF3.out)
  · have t1 : (E != 0) = true := by simpa using h0
    have H0 := hide h0
    clear h0
    go_enter Try.func38, Try.ntmps38
    go_wp2_with fail
    refine KE.out.mono ?_
    rintro e w1 ⟨rfl, hn1, hF⟩
    have HT1 := hide (HT.out.frm hF (HT.out.two HN.out))
    have HN1 := hide hn1
    have HF := hide hF
    clear hn1 hF
    go_wp2
    go_ret
    have h9 := HTR.out.trans (if_neg H0.out)
    unfold TurnPost
    rw [h9]
    exact ⟨rfl, HN1.out, ⟨_, HT1.out, fun hz => absurd hz H0.out⟩, Tri.of_two HF.out⟩

set_option maxRecDepth 100000 in
set_option maxHeartbeats 2000000 in
theorem turn_1 (h : TalAt w g gd (d.fn s) on count over) (hon : (on == 0) = true) (hg : DrvAt w gd p d) (hn : NorAt w p q c s) (hd : d.Ok s) (hmany : d.many = 2) (hc0 : 0 ≤ count) (hc1 : count < 2147483648) :
    Calls Try.prog 38 #[.pointer (some ⟨g, 0, none⟩)] w (TurnPost w g gd p q c on count over s d 1) := by
  have KE := hide (derase_is (1 : Int) hg hn (by have := hd.n; have := hn.ok.n2; omega) (by omega))
  have c0 := h.c0
  have c1 := h.con
  have HT := hide h
  have HN := hide hn
  have HG := hide hg
  have HD := hide hd
  have HU2 : Hid (U32 [count + 1, 4294967294 - count]) := fun x hx => by
    simp only [List.mem_cons, List.not_mem_nil, or_false] at hx
    omega
  clear h hn hg hd
  obtain ⟨E, hE⟩ : ∃ E, d.erE s 1 = E := ⟨_, rfl⟩
  have HE := hide hE
  rw [hE] at KE
  clear hE
  have HTR : Hid (trn d s 1 count = if E = 0 then (d.wr (d.er s 1) (64 : Int) [count + 1, 4294967294 - count], d.wrE (d.er s 1) (64 : Int) [count + 1, 4294967294 - count]) else (d.er s 1, E)) := by
    show _ = _; unfold trn
    rw [show ((1 : Nat) : Int) = 1 from rfl, HE.out]; try rfl
  by_cases h0 : E = 0
  · subst h0
    have HOK : Hid (1 < d.many ∧ s.down = false ∧ (d.er s 1).down = false ∧ (d.er s 1).n = s.n ∧ (d.er s 1).half = s.half ∧ (d.er s 1).arm = s.step.arm ∧ ∀ k, d.fn (d.er s 1) k = onesTo (d.fn s) 64 64 k) := DrvS.er_ok HN.out.ok HD.out HE.out
    go_enter Try.func38, Try.ntmps38
    go_wp2_with fail
    refine KE.out.mono ?_
    rintro e w1 ⟨rfl, hn1, hF⟩
    have hT1 := HT.out.frm hF (HT.out.two HN.out)
    have HT1 := hide hT1
    have HN1 := hide hn1
    have HF := hide hF
    have HG1 := hide (HG.out.frm hF (HG.out.two HN.out))
    have hok1 := hn1.ok
    have HOK1 := hide hok1
    clear hT1 hn1 hF hok1 c0 c1
    go_wp2_with fail
    go_loopw [21] (fun i wr => TurnRel w1 g gd p q c (d.fn s) on count over (d.er s 1) 64 i wr) (fun i _ => 64 - (intOf i).toNat)
    case atStart => exact ⟨0, by omega, rfl, HT1.out.congr (fun i hi => by unfold onesTo; rw [if_neg (by omega)]), HN1.out, Frm.refl _ _⟩
    case round =>
      obtain ⟨j, hj, rfl, hT, hN, hf⟩ := hrel
      have HTj := hide hT
      have HNj := hide hN
      have HFj := hide hf
      have hne := hide (HTj.out.ne HNj.out)
      by_cases hlt : j < 64
      · have cj := HTj.out.cw (i := 64 + j) (by omega)
        rw [show 1 + (64 + j) = 65 + j from by omega] at cj
        have fj := HTj.out.fz (65 + j)
        have z1 : (0 : Int) ≤ (j : Int) := by omega
        have z2 : (j : Int) < 64 := by omega
        clear hT hN hf
        go_wp2
        go_roundw
        case rel =>
          have h1 := HTj.out.set_w (i := 64 + j) (by omega) 4294967295
          rw [show 1 + (64 + j) = 65 + j from by omega] at h1
          refine ⟨j + 1, by omega, by go_num, h1.congr (fun k hk => ?_), ?_, HFj.out.set1 _ _⟩
          · rw [← onesTo_next]; rfl
          · exact HNj.out.frm (Frm.set1 (p := g) (Frm.refl _ wr) (65 + j) _) (fun e => hne.out.1 e.symm) (fun e => hne.out.2 e.symm)
        case measure => simp [intOf]; omega
      · obtain rfl : j = 64 := by omega
        have cc := HTj.out.ccount
        have wc : IntKind.i64.wrap (count + 1) = count + 1 := IntWalk.i64_in _ (by omega)
        have xc : Value.int .u32 (bits .xor .u32 (if IntKind.u32.signed = true then -1 else IntKind.u32.max) (count + 1)) = Value.int .u32 (4294967294 - count) := by rw [xor_not (by omega) (by omega)]; congr 1; omega
        have hgd1 : DrvAt wr gd p d := HG1.out.frm hf (fun e => HT.out.ned HG.out e)
        have HGj := hide hgd1
        clear hT hN hf hgd1
        have hdj : d.Ok (d.er s 1) := ⟨HD.out.m, by rw [HOK.out.2.2.2.1]; exact HD.out.n⟩
        have KW : Hid (∀ (W : World), W = wr.alloc (.cells #[.int .u32 (count + 1), .int .u32 (4294967294 - count)] 37) → Calls Try.prog 36 #[.pointer (some ⟨g, 0, none⟩), .int .i64 1, .int .i64 0, .slice (some ⟨wr.heap.size, 0, none⟩) 2 2] W (TwPost W g gd p q c (onesTo (d.fn s) 64 64) on count over (d.er s 1) d 64 64 [count + 1, 4294967294 - count])) := by
          intro W hW
          subst hW
          have hfa : Frm NoB wr (wr.alloc (.cells #[.int .u32 (count + 1), .int .u32 (4294967294 - count)] 37)) := (Frm.refl NoB wr).alloc _
          exact twrite_1 (s := d.er s 1) 0 (some ⟨wr.heap.size, 0, none⟩) 2 [count + 1, 4294967294 - count] (by simp) (by simp) (HTj.out.frm hfa (fun e => e)) (HGj.out.frm hfa (fun e => e)) (HNj.out.frm hfa (fun e => e) (fun e => e)) hdj
            (rd_lit wr [.int .u32 (count + 1), .int .u32 (4294967294 - count)] 37) (fun x hx => by
              injection hx with hx
              subst hx
              have h1 := HTj.out.lt; have h2 := HNj.out.ltp; have h3 := HNj.out.ltq
              exact ⟨fun e => by have e : wr.heap.size = p ∨ wr.heap.size = q ∨ wr.heap.size = g := e; omega, by simp⟩)
            HU2.out (by simp)
        have HDj := hide hdj
        clear hdj
        go_wp2_with fail
        refine (KW.out _ rfl).mono ?_
        rintro e w3 ⟨rfl, hN3, hT3, hF3⟩
        have HN3 := hide hN3
        have HT3 := hide hT3
        have HF3 := hide hF3
        clear hN3 hT3 hF3 KW cc wc xc
        go_wp2
        go_ret
        have h9 := HTR.out.trans (if_pos (by first | trivial | rfl))
        unfold TurnPost
        rw [h9]
        refine ⟨rfl, HN3.out, ⟨_, HT3.out, fun hz k hk => ?_⟩, ?_⟩
        · have hw := DrvS.wr_ok (b := 64) (l := [count + 1, 4294967294 - count]) HOK1.out HDj.out hz
          rw [if_pos hz]
          refine Eq.trans ?_ (hw.2.2.2.2.2 k).symm
          exact laidF_congr (n := 128) (fun i hi => (HOK.out.2.2.2.2.2.2 i).symm) k hk
        · have hz1 : w.heap.size ≤ wr.heap.size := Nat.le_trans HF.out.size HFj.out.size
          exact ((Tri.of_two HF.out).trans ((Tri.of_one HFj.out).mono (fun _ _ e => e))).trans ((Tri.of_no ((Frm.refl NoB wr).alloc _)).trans HF3.out)
  · have t1 : (E != 0) = true := by simpa using h0
    have H0 := hide h0
    clear h0
    go_enter Try.func38, Try.ntmps38
    go_wp2_with fail
    refine KE.out.mono ?_
    rintro e w1 ⟨rfl, hn1, hF⟩
    have HT1 := hide (HT.out.frm hF (HT.out.two HN.out))
    have HN1 := hide hn1
    have HF := hide hF
    clear hn1 hF
    go_wp2
    go_ret
    have h9 := HTR.out.trans (if_neg H0.out)
    unfold TurnPost
    rw [h9]
    exact ⟨rfl, HN1.out, ⟨_, HT1.out, fun hz => absurd hz H0.out⟩, Tri.of_two HF.out⟩
end
end Go.Proofs.Ytmeegehmbphooaa
