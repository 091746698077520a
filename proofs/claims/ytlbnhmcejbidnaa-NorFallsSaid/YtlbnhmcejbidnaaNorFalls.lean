/-
  A bit that is 0 is 1 again by an erasing alone: the walk.
-/
import Derived.Test.YtlbnhmcejbidnaaNorFallsP
import Derived.Test.YtlbnhmcejbidnaaNorAll
import Derived.Test.YtlbnhmcejbidnaaNorAwake
import Derived.Laws.BitsAllLaws
import Derived.Deep.DeepCutAuto
namespace Go.Proofs.Ytlbnhmcejbidnaa
open Go.RowKit
theorem NorS.Up.arms {s : NorS} (h : s.Up) {m : Int} (hm : 0 ≤ m) : s.arms m = s.armed m := by
  unfold NorS.arms NorS.armed
  rw [if_neg (by rw [h.d]; decide)]
  congr 1
  omega
theorem own_erase' {w0 w : World} {p q c : Nat} {s : NorS} (sec : Int) (h : Own w0 w p q c s) :
    Calls Try.prog 22 #[.pointer (some ⟨p, 0, none⟩), .int .i64 sec] w fun e w' => e = .returned (.int .i64 (s.eraseE sec)) ∧ Own w0 w' p q c (s.erase sec) ∧ Frm (Two p q) w w' := by
  refine (erase_is sec h.n).mono ?_
  rintro e w' ⟨rfl, hn, hf⟩
  exact ⟨rfl, h.step hn hf, hf⟩
theorem nat_fall (m y : Nat) (hm : m < 4294967296) : (m &&& y) &&& (4294967295 - m) = 0 := by
  apply Nat.eq_of_testBit_eq
  intro i
  have h := Nat.testBit_two_pow_sub_succ (n := 32) (x := m) (by omega) i
  rw [show 2 ^ 32 - (m + 1) = 4294967295 - m from by omega] at h
  rw [Nat.testBit_and, Nat.testBit_and, h, Nat.zero_testBit]
  cases m.testBit i <;> simp
theorem fall_bits {m y : Int} (hm : 0 ≤ m ∧ m < 4294967296) (hy : 0 ≤ y ∧ y < 4294967296) : bits .and .u32 m y = wand m y ∧ bits .andNot .u32 (wand m y) m = 0 := by
  refine ⟨u32_and m y hm.1 hm.2 hy.1 hy.2, ?_⟩
  have hw := wand_u32 hm (b := y)
  rw [u32_andNot _ _ hw.1 hw.2 hm.1 hm.2]
  unfold wand
  rw [Int.toNat_natCast, nat_fall m.toNat y.toNat (by omega)]
  rfl
theorem fall_bits' {m : Int} (hm : 0 ≤ m ∧ m < 4294967296) : bits .andNot .u32 m m = 0 := by
  have h := (fall_bits hm hm).2
  have e : wand m m = m := by unfold wand; rw [Nat.and_self]; omega
  rw [e] at h; exact h
theorem NorS.Up.up4 {s : NorS} (h : s.Up) (hn : s.n = 4) {i : Nat} (hi : i < 4) : s.up i 0 1 = 0 := by
  unfold NorS.up NorS.there
  rw [h.d, hn]
  simp; omega
theorem rd_at {w : World} {r x : Nat} {xs : List Int} (h : Rd w (some ⟨r, x, none⟩) (ints .u32 xs)) {j : Nat} (hj : j < xs.length) : w.cell? ⟨r, x + j, none⟩ = some (.int .u32 (xs.getD j 0)) := by
  obtain ⟨b, o, e, hc⟩ := h (ints_ne (by intro e; rw [e] at hj; simp at hj))
  injection e with e
  injection e with e1 e2
  subst e1 e2
  exact hc j _ (ints_get hj)
theorem Own.l256 {w0 w : World} {p q c : Nat} {s : NorS} (h : Own w0 w p q c s) (hn : s.n = 4) : s.l.length = 256 := by
  have := h.n.ok.len; rw [hn] at this; exact this
/-- the flash, and the words as they were and as they are -/
structure FInv (w0 wr : World) (p q c : Nat) (s : NorS) (H1 : Nat) (A1 : Option Addr) (s1 : NorS) (H2 : Nat) (A2 : Option Addr) (s2 : NorS) : Prop where
  o : Own w0 wr p q c s
  a1 : AllAt wr H1 A1 s1
  a2 : AllAt wr H2 A2 s2
def FRel (n : Nat) (w : World) (p q c : Nat) (s : NorS) (H1 : Nat) (A1 : Option Addr) (s1 : NorS) (H2 : Nat) (A2 : Option Addr) (s2 : NorS) (i : Value) (wr : World) : Prop := ∃ j : Nat, j ≤ n ∧ i = .int .i64 j ∧ FInv w wr p q c s H1 A1 s1 H2 A2 s2
theorem FInv.frm {w0 w w' : World} {p q c : Nat} {s : NorS} {H1 : Nat} {A1 : Option Addr} {s1 : NorS} {H2 : Nat} {A2 : Option Addr} {s2 : NorS} (h : FInv w0 w p q c s H1 A1 s1 H2 A2 s2) (hf : Frm NoB w w') : FInv w0 w' p q c s H1 A1 s1 H2 A2 s2 :=
  ⟨h.o.frm hf, h.a1.frm hf (fun _ _ e => e), h.a2.frm hf (fun _ _ e => e)⟩
theorem AllAt.two {w w' : World} {H : Nat} {A : Option Addr} {s : NorS} {p q : Nat} (h : AllAt w H A s) (hf : Frm (Two p q) w w') (hp : p < H) (hq : q < H) : AllAt w' H A s :=
  h.frm hf (fun k hk e => by rcases e with e | e <;> omega)

set_option maxRecDepth 100000 in
set_option maxHeartbeats 4000000 in
theorem norFalls_is (w : World) (A : Option Addr) (cp : Nat) (ops : List OpS) (sec k : Int) (AL : Option Addr) (cL : Nat) (xs : List Int) (r : Nat) (AK : Option Addr) (cK : Nat) (ks : List Bool)
    (h : OpsAt w w.heap.size A ops) (hm : (ops.length : Int) ≤ 9223372036854775807) (hs : -9223372036854775808 ≤ sec ∧ sec ≤ 9223372036854775807) (hk : -9223372036854775808 ≤ k ∧ k ≤ 9223372036854775807)
    (hx : RowArg w w.heap.size AL cL xs) (hb : BoolArg w w.heap.size AK ks) (hr : r < 256) :
    Calls Try.prog 4 #[.slice A ops.length cp, .int .i64 sec, .int .i64 k, .slice AL xs.length cL, .int .u8 r, .slice AK ks.length cK] w fun e w' => e = .returned (.bool true) ∧ Frm NoB w w' := by
  have HO := hide h
  have HX := hide hx
  have HB := hide hb
  have lx := hx.l; have mx := hx.m; have mb := hb.m
  have hs0 := pick_lo sec (n := 4) (by omega)
  have hs1 := pick_hi sec (n := 4) (by omega)
  have hk0 := pick_lo k (n := 64) (by omega)
  have hk1 := pick_hi k (n := 64) (by omega)
  clear h hx hb
  have hr1 : IntKind.u8.wrap ((r : Int).tmod 70) = ((r % 70 : Nat) : Int) := by
    rw [show (r : Int).tmod 70 = ((r % 70 : Nat) : Int) from rfl]
    exact IntWalk.u8_in _ (by omega)
  have hr2 : (r : Int).tmod 70 = ((r % 70 : Nat) : Int) := rfl
  have hr3 : r % 70 < 70 := Nat.mod_lt _ (by omega)
  generalize r % 70 = R at hr1 hr2 hr3
  go_enter Try.func4, Try.ntmps4
  go_wp2_with fail
  refine (own_made A cp ops (Frm.refl NoB w) HO.out hm).mono ?_
  rintro e w1 ⟨p, q, c, rfl, hA, -, -, -⟩
  have HM0 := hide hA
  clear hA HO
  have hTn : Hid ((((NorS.new 4 2).runs ops).crash []).n = 4) := (NorS.runs_n (ops.take 40) (NorS.new 4 2)).1
  have hTu : Hid ((((NorS.new 4 2).runs ops).crash []).Up) := NorS.crash_up _ _
  generalize (((NorS.new 4 2).runs ops).crash []) = M at HM0 hTn hTu
  have HM0l : Hid (M.l.length = 256) := HM0.out.l256 hTn.out
  have hlM : Hid (∀ i : Nat, i < 4 → (M.sector i).length = 64) := fun i hi => NorS.sector_length HM0.out.n.ok (hTu.out.up4 hTn.out hi)
  have hMb : Hid (∀ i j : Nat, i < 4 → j < 64 → 0 ≤ (M.sector i).getD j 0 ∧ (M.sector i).getD j 0 < 4294967296) := fun i j hi hj => by
    rw [NorS.sector_wd hTu.out.d hTn.out hi hj]; exact HM0.out.n.ok.u.get _
  go_wp2_with fail
  refine (pick_is sec 4 _ (by omega) (by omega) hs.1 hs.2).mono ?_
  rintro e w' ⟨rfl, rfl⟩
  go_wp2_with fail
  refine (pick_is k 64 _ (by omega) (by omega) hk.1 hk.2).mono ?_
  rintro e w' ⟨rfl, rfl⟩
  have hs0 : 0 ≤ pick sec ((4 : Nat) : Int) := hs0
  have hs1 : pick sec ((4 : Nat) : Int) < 4 := hs1
  have hk0' : 0 ≤ pick k ((64 : Nat) : Int) := hk0
  have hk1' : pick k ((64 : Nat) : Int) < 64 := hk1
  generalize hS : pick sec ((4 : Nat) : Int) = S at *
  generalize hK : pick k ((64 : Nat) : Int) = K at *
  clear hS hK
  obtain ⟨S, rfl⟩ := Int.eq_ofNat_of_zero_le hs0
  obtain ⟨K, rfl⟩ := Int.eq_ofNat_of_zero_le hk0'
  have HY := hide (HX.out.take (64 - K))
  have hyl : Hid ((xs.take (64 - K)).length = min (64 - K) xs.length) := List.length_take
  have hsl : (64 - K < xs.length ∧ (xs.take (64 - K)).length = 64 - K) ∨ (xs.length ≤ 64 - K ∧ (xs.take (64 - K)).length = xs.length) := by have := hyl.out; omega
  have hyl2 : Hid ((xs.take (64 - K)).length ≤ 64 - K) := by show _ ≤ _; have := hyl.out; omega
  clear HX hyl
  generalize xs.take (64 - K) = ys at HY hsl hyl2
  have HSL := hide hsl
  clear hsl
  go_upto_region 6 with fail
  go_cut [3] (fun s3 wc => s3 = .slice AL ys.length cL ∧ wc = w1)
  case first =>
    rcases HSL.out with ⟨c1, e1⟩ | ⟨c1, e1⟩
    all_goals
      have E1 := hide e1
      clear e1
      go_wp2_with fail
      go_meet
      exact ⟨by rw [E1.out], rfl⟩
  case rest =>
    obtain ⟨rfl, rfl⟩ := hcut
    clear HSL lx mx
    go_wp2_with fail
    refine (all_is HM0.out.n hTu.out.d hTn.out).mono ?_
    rintro e w2 ⟨A1, cap1, rfl, hW, hF⟩
    have HP1 : Hid (p < wc.heap.size ∧ q < wc.heap.size) := ⟨HM0.out.n.ltp, HM0.out.n.ltq⟩
    have HM1 := hide (HM0.out.frm hF)
    have HW1 := hide hW
    clear hW hF HM0
    generalize wc.heap.size = H1 at *
    go_wp2_with fail
    refine (own_arm' _ HM1.out (by omega)).mono ?_
    rintro e w3 ⟨rfl, hA, hF⟩
    rw [hTu.out.arms (by omega)] at hA
    have HM2 := hide hA
    have HW2 := hide (HW1.out.two hF HP1.out.1 HP1.out.2)
    clear hA hF HM1 HW1
    have hfit : M.up S K ys.length = 0 := hTu.out.fits (by omega) (by rw [hTn.out]; omega) (by omega) (by have := hyl2.out; omega) (by have := hyl2.out; omega)
    have HFl := hide (hTu.out.falls R hfit)
    clear hfit
    go_wp2_with fail
    refine (own_program_arg _ _ AL cL _ ys rfl HM2.out (HY.out.frm HM2.out.f (fun _ _ e => e)).r HY.out.b HY.out.u HY.out.len).mono ?_
    rintro e w4 ⟨he, hA, hF⟩
    have HW3 := hide (HW2.out.two hF HP1.out.1 HP1.out.2)
    have HM3 := hide hA
    clear hA hF HM2 HW2
    obtain ⟨b, hbe⟩ : ∃ b : Bool, b = decide (ys.length ≤ R) := ⟨_, rfl⟩
    obtain ⟨D, hD⟩ : ∃ D : Nat, D = min R ys.length := ⟨_, rfl⟩
    obtain ⟨E, hE⟩ : ∃ E : Int, E = (M.armed R).programE S K ys := ⟨_, rfl⟩
    rw [← hE] at he
    subst he
    have HD : Hid (((M.armed R).program S K ys).down = !b) := by
      show _ = _
      rw [hbe]
      by_cases hl : ys.length ≤ R
      · rw [(HFl.out.le hl).2]; simp [hl]
      · rw [(HFl.out.gt (by omega)).2]; simp [hl]
    have f0 : (E == 0) = b := by
      rw [hE, hbe]
      by_cases hl : ys.length ≤ R
      · rw [(HFl.out.le hl).1]; simp [hl]
      · rw [(HFl.out.gt (by omega)).1]; simp [hl]
    have f1 : ((D : Int) == (ys.length : Int)) = b := by
      rw [hbe, Bool.eq_iff_iff]; simp; omega
    have f1' : (D == ys.length) = b := by
      rw [hbe, Bool.eq_iff_iff]; simp; omega
    have f2 : decide ((D : Int) < (ys.length : Int)) = !b := by
      rw [hbe, Bool.eq_iff_iff]; simp; omega
    have f2' : decide (D < ys.length) = !b := by
      rw [hbe, Bool.eq_iff_iff]; simp; omega
    have hDy : D ≤ ys.length := by omega
    have HDm := hide hD
    have hyl3 := hyl2.out
    clear hE hbe hD
    go_upto_region 10 with fail
    go_cut [19] (fun s19 wc => s19 = .int .i64 (D : Int) ∧ wc = w4)
    case first =>
      clear f0 f1 f1' f2 f2'
      rcases (by omega : R < ys.length ∨ R = ys.length ∨ ys.length < R) with c2 | c2 | c2
      all_goals
        go_wp2_with fail
        go_meet
        exact ⟨by congr 1; have := HDm.out; omega, rfl⟩
    case rest =>
      obtain ⟨rfl, rfl⟩ := hcut
      clear hr1 hr2
      go_wp2_with fail
      refine (down_is HM3.out.n).mono ?_
      rintro e w' ⟨he, rfl⟩
      rw [HD.out] at he
      subst he
      go_wp2_with fail
      refine (own_crash_arg AK cK ks HM3.out (HB.out.frm HM3.out.f (fun _ _ e => e)).r HB.out.b HB.out.m).mono ?_
      rintro e w5 ⟨rfl, hA, hF⟩
      rw [HFl.out.cr] at hA
      have HW4 := hide (HW3.out.two hF HP1.out.1 HP1.out.2)
      have HM4 := hide hA
      clear hA hF HM3 HW3 HFl HD f0 f1 f1' f2 f2'
      have hNu : Hid ((M.mid (NorS.andL M.l (NorS.at_ S K) (ys.take R))).Up) := hTu.out.mid _
      have hNn : Hid ((M.mid (NorS.andL M.l (NorS.at_ S K) (ys.take R))).n = 4) := hTn.out
      have hyR : Hid ((ys.take R).length = D) := by show _ = _; rw [List.length_take]; exact HDm.out.symm
      have hNM : Hid (∀ i j : Nat, i < 4 → j < 64 → ((M.mid (NorS.andL M.l (NorS.at_ S K) (ys.take R))).sector i).getD j 0 = if i = S ∧ K ≤ j ∧ j < K + D then wand ((M.sector i).getD j 0) (ys.getD (j - K) 0) else (M.sector i).getD j 0) := fun i j hi hj => by
        rw [hTu.out.fall_wd hTn.out (HM0l.out) (by omega) (by rw [hyR.out]; omega) hi hj, hyR.out]
        have hDm := HDm.out
        by_cases hc : i = S ∧ K ≤ j ∧ j < K + D
        · rw [if_pos hc, if_pos hc]
          congr 1
          simp only [List.getD_eq_getElem?_getD]
          rw [List.getElem?_take_of_lt (by omega)]
        · rw [if_neg hc, if_neg hc]
      generalize M.mid (NorS.andL M.l (NorS.at_ S K) (ys.take R)) = N at HM4 hNu hNn hNM
      go_wp2_with fail
      refine (all_is HM4.out.n hNu.out.d hNn.out).mono ?_
      rintro e w6 ⟨A2, cap2, rfl, hW, hF⟩
      have HP2 : Hid (p < w5.heap.size ∧ q < w5.heap.size) := ⟨HM4.out.n.ltp, HM4.out.n.ltq⟩
      have HI0 : Hid (FInv w w6 p q c N H1 A1 M w5.heap.size A2 N) := ⟨HM4.out.frm hF, HW4.out.frm hF (fun _ _ e => e), hW⟩
      have HN0l : Hid (N.l.length = 256) := HM4.out.l256 hNn.out
      have hlN : Hid (∀ i : Nat, i < 4 → (N.sector i).length = 64) := fun i hi => NorS.sector_length HM4.out.n.ok (hNu.out.up4 hNn.out hi)
      clear hW hF HM4 HW4 hyR
      generalize w5.heap.size = H2 at *
      go_wp2_with fail
      go_loopw [87] (fun i wr => FRel 4 w p q c N H1 A1 M H2 A2 N i wr) (fun i _ => 4 - (intOf i).toNat)
      case atStart => exact ⟨0, by omega, rfl, HI0.out⟩
      case round =>
        obtain ⟨i, hi, rfl, hI⟩ := hrel
        obtain ⟨wo, rfl⟩ : ∃ wo : World, wo = wr := ⟨_, rfl⟩
        have HI := hide hI
        clear hI HI0
        by_cases hlt : i < 4
        · obtain ⟨b1, e1, -, -, hx1⟩ := (Hid.out HI).a1.ex
          obtain ⟨b2, e2, -, -, hx2⟩ := (Hid.out HI).a2.ex
          obtain ⟨r1, x1, cp1, hc1, hd1, -, -⟩ := hx1 i hlt
          obtain ⟨r2, x2, cp2, hc2, hd2, -, -⟩ := hx2 i hlt
          subst e1 e2
          have HD1 := hide hd1
          have HD2 := hide hd2
          clear hx1 hx2 hd1 hd2
          have hi4 : decide ((i : Int) < 4) = true := by simp; omega
          go_wp2_with fail
          go_loopw [95] (fun jv wv => FRel 64 w p q c N H1 (some ⟨b1, 0, none⟩) M H2 (some ⟨b2, 0, none⟩) N jv wv) (fun jv _ => 64 - (intOf jv).toNat)
          case atStart => exact ⟨0, by omega, rfl, HI.out⟩
          case round =>
            obtain ⟨j, hj, rfl, hJ⟩ := hrel
            obtain ⟨wv, rfl⟩ : ∃ wv : World, wv = wr := ⟨_, rfl⟩
            have HJ := hide hJ
            clear hJ hc1 hc2 HD1 HD2
            obtain ⟨b1, e1, -, -, hx1⟩ := (Hid.out HJ).a1.ex
            obtain ⟨b2, e2, -, -, hx2⟩ := (Hid.out HJ).a2.ex
            obtain ⟨r1, x1, cp1, hc1, hd1, -, -⟩ := hx1 i hlt
            obtain ⟨r2, x2, cp2, hc2, hd2, -, -⟩ := hx2 i hlt
            injection e1 with e1
            injection e1 with e1
            subst e1
            injection e2 with e2
            injection e2 with e2
            subst e2
            clear hx1 hx2
            by_cases hlt2 : j < 64
            · have hv1 := rd_at hd1 (j := j) (by rw [hlM.out i hlt]; exact hlt2)
              have hv2 := rd_at hd2 (j := j) (by rw [hlN.out i hlt]; exact hlt2)
              rw [hNM.out i j hlt hlt2] at hv2
              clear hd1 hd2
              have hmb := hMb.out i j hlt hlt2
              generalize (M.sector i).getD j 0 = m at hv1 hv2 hmb
              obtain ⟨v, hv⟩ : ∃ v : Int, v = if i = S ∧ K ≤ j ∧ j < K + D then wand m (ys.getD (j - K) 0) else m := ⟨_, rfl⟩
              rw [← hv] at hv2
              have z2 : bits BinOp.andNot IntKind.u32 v m = 0 := by
                rw [hv]; split
                · exact (fall_bits hmb (HY.out.u.get _)).2
                · exact fall_bits' hmb
              have Z2 := hide z2
              have HV := hide hv
              have HV2 := hide hv2
              have HC2 := hide hc2
              clear z2 hv hv2 hc2
              obtain ⟨cd, hcd⟩ : ∃ cd : Bool, cd = decide (i = S ∧ K ≤ j ∧ j < K + D) := ⟨_, rfl⟩
              have HCD := hide hcd
              clear hcd
              have hj64 : decide ((j : Int) < 64) = true := by simp; omega
              go_upto_region 22 with fail
              go_cut [119] (fun s119 wc => s119 = .bool cd ∧ wc = wv)
              case first =>
                rcases (by omega : i ≠ S ∨ (i = S ∧ j < K) ∨ (i = S ∧ K ≤ j ∧ K + D ≤ j) ∨ (i = S ∧ K ≤ j ∧ j < K + D)) with h | ⟨rfl, h⟩ | ⟨rfl, h, h'⟩ | ⟨rfl, h, h'⟩
                · have hq : cd = false := by rw [HCD.out]; simp; omega
                  have q1 : ((i : Int) == (S : Int)) = false := by simp; omega
                  have q1' : (i == S) = false := by simp; omega
                  subst hq
                  go_wp2_with fail
                  go_meet
                  exact ⟨rfl, rfl⟩
                · have hq : cd = false := by rw [HCD.out]; simp; omega
                  subst hq
                  go_wp2_with fail
                  go_meet
                  exact ⟨rfl, rfl⟩
                · have hq : cd = false := by rw [HCD.out]; simp; omega
                  subst hq
                  go_wp2_with fail
                  go_meet
                  exact ⟨by congr 1; simp; omega, rfl⟩
                · have hq : cd = true := by rw [HCD.out]; simp; omega
                  subst hq
                  go_wp2_with fail
                  go_meet
                  exact ⟨by congr 1; simp; omega, rfl⟩
              case rest =>
               obtain ⟨rfl, rfl⟩ := hcut
               go_upto_if 119 with fail
               go_cut [23] (fun s23 wd => s23 = .int .u32 v ∧ wd = wc)
               case first =>
                by_cases hc : i = S ∧ K ≤ j ∧ j < K + D
                · have hq : cd = true := by rw [HCD.out]; simp; omega
                  subst hq
                  have hve := HV.out
                  rw [if_pos hc] at hve
                  obtain ⟨t, ht0⟩ : ∃ t, j = K + t := ⟨j - K, by omega⟩
                  rw [show j - K = t from by omega] at hve
                  have ht : t < ys.length := by omega
                  have hjk : (j : Int) - (K : Int) = (t : Int) := by omega
                  have hrl := (HY.out.frm (Hid.out HJ).o.f (fun _ _ e => e)).r
                  obtain ⟨bl, ol, hAL, hcl⟩ := hrl (ints_ne (by intro e; rw [e] at ht; simp at ht))
                  have hcu := hcl t _ (ints_get ht)
                  have hyb := HY.out.u.get t
                  generalize ys.getD t 0 = yy at hcu hve hyb
                  have z1 := (fall_bits hmb hyb).1
                  have HC := hide hc
                  rw [← hve] at z1
                  clear hcl hrl ht0 hve hyb hmb hc
                  subst hAL
                  go_wp2_with fail
                  go_meet
                  exact ⟨rfl, rfl⟩
                · have hq : cd = false := by rw [HCD.out]; simp; omega
                  subst hq
                  have hve := HV.out
                  rw [if_neg hc] at hve
                  subst hve
                  clear hc
                  go_wp2_with fail
                  go_meet
                  exact ⟨rfl, rfl⟩
               case rest =>
                obtain ⟨rfl, rfl⟩ := hcut
                have hc2 := HC2.out
                have hv2 := HV2.out
                have z2 := Z2.out
                have hne : (v != v) = false := by simp
                clear HC2 HV2 Z2 HV HCD hmb
                go_wp2_with fail
                go_quiet (fail)
                go_wp2
                go_roundw
                case rel => exact ⟨j + 1, by omega, by go_num, HJ.out.frm ((Frm.refl NoB wc).drewN _)⟩
                case measure => simp [intOf]; omega
            · obtain rfl : j = 64 := by omega
              go_wp2
              go_roundw
              case rel => exact ⟨i + 1, by omega, by go_num, HJ.out⟩
              case measure => simp [intOf]; omega
        · obtain rfl : i = 4 := by omega
          go_wp2_with fail
          refine (own_arm' 0 (Hid.out HI).o (by omega)).mono ?_
          rintro e w7 ⟨rfl, hA, hF⟩
          rw [hNu.out.arms (by omega)] at hA
          have HW5 := hide ((Hid.out HI).a2.two hF HP2.out.1 HP2.out.2)
          have HM5 := hide hA
          clear hA hF HI
          obtain ⟨ee, ec⟩ := hNu.out.erased (S := S) (hNu.out.fits (by omega) (by rw [hNn.out]; omega) (by omega) (by omega) (by omega)) (by omega)
          have EC := hide ec
          clear ec
          go_wp2_with fail
          refine (own_erase' S HM5.out).mono ?_
          rintro e w8 ⟨he, hA, hF⟩
          rw [ee] at he
          subst he
          clear ee
          have HW6 := hide (HW5.out.two hF HP2.out.1 HP2.out.2)
          have HM6 := hide hA
          clear hA hF HM5 HW5
          go_wp2_with fail
          refine (own_crash_arg AK cK ks HM6.out (HB.out.frm HM6.out.f (fun _ _ e => e)).r HB.out.b HB.out.m).mono ?_
          rintro e w9 ⟨rfl, hA, hF⟩
          rw [EC.out] at hA
          have HW7 := hide (HW6.out.two hF HP2.out.1 HP2.out.2)
          have HM7 := hide hA
          clear hA hF HM6 HW6 EC
          have hOu : Hid ((N.mid (NorS.burn ks (NorS.at_ S 0) 64 0 N.l)).Up) := hNu.out.mid _
          have hOn : Hid ((N.mid (NorS.burn ks (NorS.at_ S 0) 64 0 N.l)).n = 4) := hNn.out
          have hON : Hid (∀ i j : Nat, i < 4 → j < 64 → ((N.mid (NorS.burn ks (NorS.at_ S 0) 64 0 N.l)).sector i).getD j 0 = if i = S ∧ ks.getD j false = true then 4294967295 else (N.sector i).getD j 0) := fun i j hi hj =>
            hNu.out.burn_wd hNn.out HN0l.out ks (by omega) hi hj
          generalize N.mid (NorS.burn ks (NorS.at_ S 0) 64 0 N.l) = O at HM7 hOu hOn hON
          go_wp2_with fail
          refine (all_is HM7.out.n hOu.out.d hOn.out).mono ?_
          rintro e w10 ⟨A3, cap3, rfl, hW, hF⟩
          have HI2 : Hid (FInv w w10 p q c O H2 A2 N w9.heap.size A3 O) := ⟨HM7.out.frm hF, HW7.out.frm hF (fun _ _ e => e), hW⟩
          have hlO : Hid (∀ i : Nat, i < 4 → (O.sector i).length = 64) := fun i hi => NorS.sector_length HM7.out.n.ok (hOu.out.up4 hOn.out hi)
          clear hW hF HM7 HW7
          generalize w9.heap.size = H3 at *
          go_wp2_with fail
          go_loopw [169] (fun i wr => FRel 4 w p q c O H2 A2 N H3 A3 O i wr) (fun i _ => 4 - (intOf i).toNat)
          case atStart => exact ⟨0, by omega, rfl, HI2.out⟩
          case round =>
            obtain ⟨i, hi, rfl, hI⟩ := hrel
            obtain ⟨wo, rfl⟩ : ∃ wo : World, wo = wr := ⟨_, rfl⟩
            have HI := hide hI
            clear hI HI2
            by_cases hlt : i < 4
            · obtain ⟨b1, e1, -, -, hx1⟩ := (Hid.out HI).a1.ex
              obtain ⟨b2, e2, -, -, hx2⟩ := (Hid.out HI).a2.ex
              obtain ⟨r1, x1, cp1, hc1, hd1, -, -⟩ := hx1 i hlt
              obtain ⟨r2, x2, cp2, hc2, hd2, -, -⟩ := hx2 i hlt
              subst e1 e2
              have HD1 := hide hd1
              have HD2 := hide hd2
              clear hx1 hx2 hd1 hd2
              have hi4 : decide ((i : Int) < 4) = true := by simp; omega
              go_wp2_with fail
              go_loopw [176] (fun jv wv => ∃ j : Nat, j ≤ 64 ∧ jv = .int .i64 j ∧ wv = wo) (fun jv _ => 64 - (intOf jv).toNat)
              case atStart => exact ⟨0, by omega, rfl, rfl⟩
              case round =>
                obtain ⟨j, hj, rfl, rfl⟩ := hrel
                by_cases hlt2 : j < 64
                · have hj64 : decide ((j : Int) < 64) = true := by simp; omega
                  have hv1 := rd_at HD1.out (j := j) (by rw [hlN.out i hlt]; exact hlt2)
                  have hv2 := rd_at HD2.out (j := j) (by rw [hlO.out i hlt]; exact hlt2)
                  rw [hON.out i j hlt hlt2] at hv2
                  generalize (N.sector i).getD j 0 = m at hv1 hv2
                  have hne : (m != m) = false := by simp
                  rcases (by omega : i ≠ S ∨ (i = S ∧ ks.length ≤ j) ∨ (i = S ∧ j < ks.length)) with h | ⟨hS, h⟩ | ⟨hS, h⟩
                  · rw [if_neg (fun hh => h hh.1)] at hv2
                    have q1 : ((i : Int) == (S : Int)) = false := by simp; omega
                    have q1' : (i == S) = false := by simp; omega
                    go_wp2
                    go_roundw
                    case rel => exact ⟨j + 1, by omega, by go_num, trivial⟩
                    case measure => simp [intOf]; omega
                  · rw [if_neg (fun hh => by rw [List.getD_eq_getElem?_getD, List.getElem?_eq_none h] at hh; exact Bool.noConfusion hh.2)] at hv2
                    have q1 : ((i : Int) == (S : Int)) = true := by simp; omega
                    have q1' : (i == S) = true := by simp; omega
                    clear hS
                    go_wp2
                    go_roundw
                    case rel => exact ⟨j + 1, by omega, by go_num, trivial⟩
                    case measure => simp [intOf]; omega
                  · have q1 : ((i : Int) == (S : Int)) = true := by simp; omega
                    have q1' : (i == S) = true := by simp; omega
                    have hrb := (HB.out.frm (Hid.out HI).o.f (fun _ _ e => e)).r
                    obtain ⟨bk, ok, hAK, hck⟩ := hrb (bools_ne (by intro e; rw [e] at h; simp at h))
                    have hck' := hck j (.bool (ks.getD j false)) (by simp [bools, h])
                    clear hck hrb
                    by_cases hkb : ks.getD j false = true
                    · rw [if_pos ⟨hS, hkb⟩] at hv2
                      rw [hkb] at hck'
                      clear hS hkb
                      subst hAK
                      go_wp2
                      go_roundw
                      case rel => exact ⟨j + 1, by omega, by go_num, trivial⟩
                      case measure => simp [intOf]; omega
                    · rw [if_neg (fun hh => hkb hh.2)] at hv2
                      rw [show ks.getD j false = false from by simpa using hkb] at hck'
                      clear hS hkb
                      subst hAK
                      go_wp2
                      go_roundw
                      case rel => exact ⟨j + 1, by omega, by go_num, trivial⟩
                      case measure => simp [intOf]; omega
                · obtain rfl : j = 64 := by omega
                  go_wp2
                  go_roundw
                  case rel => exact ⟨i + 1, by omega, by go_num, HI.out⟩
                  case measure => simp [intOf]; omega
            · obtain rfl : i = 4 := by omega
              go_wp2_with fail
              refine (awake_is _).mono ?_
              rintro e wz ⟨rfl, hFz⟩
              go_wp2
              go_ret
              exact ⟨rfl, (Hid.out HI).o.f.trans hFz⟩
theorem norFalls_is' (w : World) (A : Option Addr) (cp : Nat) (ops : List OpS) (sec k : Int) (AL : Option Addr) (cL : Nat) (xs : List Int) (r : Int) (AK : Option Addr) (cK : Nat) (ks : List Bool)
    (h : OpsAt w w.heap.size A ops) (hm : (ops.length : Int) ≤ 9223372036854775807) (hs : -9223372036854775808 ≤ sec ∧ sec ≤ 9223372036854775807) (hk : -9223372036854775808 ≤ k ∧ k ≤ 9223372036854775807)
    (hx : RowArg w w.heap.size AL cL xs) (hb : BoolArg w w.heap.size AK ks) (hr : 0 ≤ r ∧ r ≤ 255) :
    Calls Try.prog 4 #[.slice A ops.length cp, .int .i64 sec, .int .i64 k, .slice AL xs.length cL, .int .u8 r, .slice AK ks.length cK] w fun e w' => e = .returned (.bool true) ∧ Frm NoB w w' := by
  obtain ⟨n, rfl⟩ := Int.eq_ofNat_of_zero_le hr.1
  exact norFalls_is w A cp ops sec k AL cL xs n AK cK ks h hm hs hk hx hb (by omega)
end Go.Proofs.Ytlbnhmcejbidnaa

