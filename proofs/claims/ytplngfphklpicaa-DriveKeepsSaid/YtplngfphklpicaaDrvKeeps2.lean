/-
  What was written with OK is read so: the walk, case 2. (Printed: wip/keepsgen.py)
-/
import Derived.Test.YtplngfphklpicaaDrvKeeps0
namespace Go.Proofs.Ytplngfphklpicaa
open Go.RowKit
set_option maxRecDepth 100000 in
set_option maxHeartbeats 8000000 in
theorem driveKeeps_2 (w : World) (A : Option Addr) (cp : Nat) (ops : List OpS) (hO : OpsAt w w.heap.size A ops) (hm : (ops.length : Int) ≤ 9223372036854775807) (pl : Int) (b1 : -9223372036854775808 ≤ pl ∧ pl ≤ 9223372036854775807)
    (AL : Option Addr) (cL : Nat) (l : List Int) (hL : RowArg w w.heap.size AL cL l) (steps : Nat) (hst : steps ≤ 255) (fails : Bool) (k : Nat) (hk : pick pl 193 = k) (h64 : l.length ≤ 192 - k) :
    Calls Try.prog 4 #[.slice A ops.length cp, .int .i64 pl, .slice AL l.length cL, .int .u8 steps, .bool fails] w fun e w' => e = .returned (.bool true) ∧ Frm NoB w w' := by
  have HM := hide (made_is A cp ops hO (Nat.le_refl _) hm)
  have HL := hide hL
  have hll := hL.l
  have hlm := hL.m
  have hk0 := pick_hi pl (n := 193) (by omega)
  have hk3 : k ≤ 192 := by omega
  have hxl : (l.take (192 - k)).length = min (192 - k) l.length := List.length_take
  have hx64 : k + (l.take (192 - k)).length ≤ 192 := by omega
  have hxc : (l.take (192 - k)).length ≤ cL := by omega
  have hxi : ((l.take (192 - k)).length : Int) ≤ 9223372036854775807 := by omega
  have PK : Hid (∀ w0, Calls Try.prog 19 #[.int .i64 pl, .int .i64 193] w0 fun e w' => e = .returned (.int .i64 k) ∧ w0 = w') := fun w0 => by
    have h := pick_is pl 193 w0 (by omega) (by omega) b1.1 b1.2
    have e : pick pl ((193 : Nat) : Int) = k := hk
    rwa [e] at h
  have hw : IntKind.i64.wrap (192 - (k : Int)) = 192 - (k : Int) := IntWalk.i64_in _ (by omega)
  obtain ⟨x, hx⟩ : ∃ x, l.take (192 - k) = x := ⟨_, rfl⟩
  rw [hx] at hxl hx64 hxc hxi
  have HX := hide hx
  clear hO hL hk hx hk0
  obtain rfl : x = l := by rw [← HX.out, List.take_of_length_le h64]
  clear hxl
  have m1 : (x.length : Int) ≤ 192 - (k : Int) := by omega
  go_enter Try.func4, Try.ntmps4
  go_wp2_with fail
  refine HM.out.mono ?_
  rintro e w1 ⟨p, q, c, g, rfl, hN, hG⟩
  have HC : Hid (DrvS.Calm ((mRuns ops).crash [])) := DrvS.calm_crash _ _
  have hn5 : ((mRuns ops).crash []).n = 5 := mRuns_n ops
  have hhf : ((mRuns ops).crash []).half = -1 := rfl
  obtain ⟨s0, hs0⟩ : ∃ s0, (mRuns ops).crash [] = s0 := ⟨_, rfl⟩
  rw [hs0] at hN HC hn5 hhf
  have HN := hide hN
  have HG := hide hG
  have HD : Hid (mD.Ok s0) := mD_ok hn5
  have HN5' := hide hn5
  have HHF := hide hhf
  have hl0 := DrvS.words_length (a := 0) (m := 192) HN.out.n.ok HD.out (by decide)
  have hu0 := DrvS.words_u32 (d := mD) HN.out.n.ok 0 192
  clear hN hG hs0 HM hn5 hhf
  go_wp2_with fail
  refine (PK.out _).mono ?_
  rintro e w' ⟨rfl, rfl⟩
  go_wp2_with fail
  have RX : Hid (RowArg w w.heap.size AL cL x) := by have h := HL.out.take (192 - k); rw [HX.out] at h; exact h
  have RXw : Hid (∀ {w' : World} {s : NorS}, Own w w' p q c s → Rd w' AL (ints .u32 x) ∧ (x ≠ [] → ∀ y, AL = some y → ¬ Two p q y.block ∧ y.block < w'.heap.size)) := fun {w'} {s} ho => by
    have r := RX.out.frm ho.f (fun _ _ e => e)
    exact ⟨r.r, fun hne y hy => ⟨below_two ho.p0 ho.q0 _ (r.b hne y hy), by have := r.b hne y hy; have := ho.f.size; omega⟩⟩
  refine (dread_all HG.out HN.out.n HD.out HC.out).mono ?_
  rintro e w2 ⟨A1, cp1, rfl, hR1, hA1, hF2⟩
  have HN2 := hide (HN.out.frm hF2)
  have HG2 := hide (HG.out.frm hF2 (fun e => e))
  have HR2 := hide hR1
  clear hR1 hA1 hF2
  go_wp2_with fail
  refine (copyWords_at _ A1 cp1 192 (mD.words s0 0 192) hl0 HR2.out (by omega) (by omega)).mono ?_
  rintro e w3 ⟨g3, c3, arr, rfl, hB3, hA3, hg3l, hF3⟩
  have HN3 := hide (HN2.out.frm hF3)
  have HG3 := hide (HG2.out.frm hF3 (fun e => e))
  have HR3 := hide (Rd.frm' HR2.out hF3 (fun _ _ _ e => e))
  have hpg := HN2.out.n.ltp
  have hqg := HN2.out.n.ltq
  have hgl := HG2.out.lt
  have hg3 : ¬ Two p q g3 := fun e => by rcases e with e | e <;> omega
  have hgg3 : ¬ One g3 g := fun e => by have e : g = g3 := e; omega
  have HP3 : Hid (w.heap.size ≤ g3 ∧ p ≠ g3 ∧ q ≠ g3) := ⟨by have := HN2.out.f.size; omega, by omega, by omega⟩
  have HW3 : Hid (WantAt w3 g3 (mD.words s0 0 192) x k 0) := ⟨arr, hB3, fun i hi => by rw [hA3 i (by omega)]; unfold want; rw [if_neg (by omega)]⟩
  clear hB3 hA3 hF3 HN HG HN2 HG2 HR2 hpg hqg hgl hg3l
  obtain ⟨W0, hW0⟩ : ∃ W0, mD.words s0 0 192 = W0 := ⟨_, rfl⟩
  have HWd : Hid (∀ j, j < 192 → W0.getD j 0 = s0.wd (mD.base + j)) := fun j hj => by rw [← hW0, DrvS.words_get hj]; rfl
  have HWe := hide hW0
  rw [hW0] at HR3 HW3 hl0 hu0
  clear hW0
  go_wp2_with fail
  go_loopw [59, 18] (fun i b wr => DKRel w3 s0 k x i b wr) (fun i _ _ => x.length - (intOf i).toNat)
  case atStart => exact ⟨0, Nat.zero_le _, rfl, rfl, rfl⟩
  case round =>
    obtain ⟨j, hj, rfl, rfl, rfl⟩ := hrel
    by_cases hlt : j < x.length
    · obtain ⟨ba, oa, rfl, hca⟩ := (RXw.out HN3.out).1 (ints_ne (by intro e; rw [e] at hlt; simp at hlt))
      obtain ⟨bb, ob, rfl, hcb⟩ := HR3.out (ints_ne (by intro e; rw [e] at hl0; simp at hl0))
      have c1 := hca j _ (ints_get hlt)
      have c2 := hcb (k + j) _ (ints_get (by omega))
      have i0 : (0 : Int) ≤ (j : Int) := by omega
      have i1 : (j : Int) < (x.length : Int) := by omega
      have i2 : (0 : Int) ≤ (k : Int) + j := by omega
      have i3 : (k : Int) + j < 192 := by omega
      have hw2 : IntKind.i64.wrap ((k : Int) + j) = (k : Int) + j := IntWalk.i64_in _ (by omega)
      have ht2 : ((k : Int) + j).toNat = k + j := by omega
      have u1 := RX.out.u.get j
      have u2 := hu0.get (k + j)
      have hne := andNot_ne u1.1 u1.2 u2.1 u2.2
      have hnx := anySet_next s0 k x j
      have hwd : s0.wd (mD.base + k + j) = W0.getD (k + j) 0 := by rw [HWd.out _ (by omega), Nat.add_assoc]
      rw [hwd] at hnx
      have HNX := hide hnx
      clear hca hcb hnx hwd
      generalize hX : x.getD j 0 = y at *
      generalize hY : W0.getD (k + j) 0 = z at *
      rcases Bool.eq_false_or_eq_true (anySet s0 k x j) with hb | hb
      · rw [hb] at HNX ⊢
        go_wp2_with fail
        go_roundw
        case rel => exact ⟨j + 1, by omega, by go_num, by rw [HNX.out]; rfl, rfl⟩
        case measure => first | (simp [intOf]; omega) | simp [intOf]
      · rw [hb] at HNX ⊢
        go_wp2_with fail
        go_roundw
        case rel => exact ⟨j + 1, by omega, by go_num, by rw [HNX.out, ← hne]; rfl, rfl⟩
        case measure => first | (simp [intOf]; omega) | simp [intOf]
    · obtain rfl : j = x.length := by omega
      rw [anySet_all]
      rcases Bool.eq_false_or_eq_true (mD.sets s0 k x) with hset | hset
      all_goals rw [hset]
      · rcases Bool.eq_false_or_eq_true fails with rfl | rfl
        · rcases (by omega : x.length < steps ∨ steps < x.length ∨ steps = x.length) with hs | hs | hs
          · have hs1 : ¬ ((steps : Int) ≤ (x.length : Int)) := by omega
            have hs2 : ((x.length : Int) < (steps : Int)) := by omega
            have hac := arms_calm HC.out steps
            go_wp2_with fail
            refine (arm_is (steps : Int) HN3.out.n (by omega)).mono ?_
            rintro e w4 ⟨rfl, hN4, hF4⟩
            obtain ⟨s1, hs1⟩ : ∃ s1, s0.arms steps = s1 := ⟨_, rfl⟩
            rw [hs1] at hN4 hac
            have HN1 := hide (HN3.out.step hN4 hF4)
            have HG1 := hide (HG3.out.own HN3.out hF4)
            have HW1 := hide (HW3.out.frm hF4 hg3)
            have HD1 : Hid (mD.Ok s1) := mD_ok (hac.2.1.trans HN5'.out)
            have KO : Hid (KeepsOut s1 s0 k x 0 50 false) := keeps_set hac.1 (hac.2.1.trans HN5'.out) (hac.2.2.1.trans HHF.out) hac.2.2.2.1 hx64 hset
            clear hN4 hF4 hac hs1 HN3 HG3 HW3
            clear hs
            go_wp2_with fail
            refine (dwrite_at _ AL cL x.length x rfl HG1.out HN1.out.n HD1.out (RXw.out HN1.out).1 (RXw.out HN1.out).2 RX.out.u hxc hxi).mono ?_
            rintro e w5 ⟨he, hN5, hF5⟩
            rw [KO.out.e] at he
            subst he
            have HN5 := hide (HN1.out.step hN5 hF5)
            have HG5 := hide (HG1.out.own HN1.out hF5)
            have HW5 := hide (HW1.out.frm hF5 hg3)
            clear hN5 hF5
            go_wp2_with fail
            go_loopw [23] (fun i wr => DKRel2 w w5 p q c g g3 (mD.wr s1 k x) W0 x k (0) i wr) (fun i _ => (0) - (intOf i).toNat)
            case atStart => exact ⟨0, Nat.zero_le _, rfl, HN5.out, HG5.out, HW5.out, Frm.refl _ _⟩
            case round =>
              obtain ⟨j, hj, rfl, hN6, hG6, hW6, hF6⟩ := hrel
              have HN6 := hide hN6
              have HG6 := hide hG6
              have HW6 := hide hW6
              have HF6 := hide hF6
              clear hN6 hG6 hW6 hF6
              by_cases hlt : j < (0)
              · exact absurd hlt (Nat.not_lt_zero _)
              · obtain rfl : j = (0) := by omega
                go_wp2_with (go_at_call 22; refine (down_is HN6.out.n).mono ?_; rw [KO.out.dn]; rintro e w' ⟨rfl, rfl⟩)
                refine (crash_is none 0 [] HN6.out.n (Rd.nil _ _) (fun _ a ha => by cases ha) (by simp)).mono ?_
                rintro e w7 ⟨rfl, hN7, hF7⟩
                have HN7 := hide (HN6.out.step hN7 hF7)
                have HG7 := hide (HG6.out.own HN6.out hF7)
                have HW7 := hide (HW6.out.frm hF7 hg3)
                have hwords := KO.out.words HN7.out.n.ok
                rw [HWe.out] at hwords
                have HWW := hide hwords
                clear hN7 hF7 hwords
                go_wp2_with fail
                refine (dread_all HG7.out HN7.out.n (mD_ok KO.out.n) (DrvS.calm_crash _ _)).mono ?_
                rintro e w8 ⟨A2, cp2, rfl, hR8, -, hF8⟩
                rw [HWW.out] at hR8
                have HR8 := hide hR8
                have HN8 := hide (HN7.out.frm hF8)
                have HW8 := hide (HW7.out.frm hF8 (fun e => e))
                clear hR8 hF8
                go_wp2_with fail
                refine (sameWords_self 192 _ (by simp) _ _ _ _ _ HR8.out HW8.out.rd (by simp)).mono ?_
                rintro e w9 ⟨rfl, m9, rfl⟩
                go_wp2_with fail
                refine (awake_is _).mono ?_
                rintro e w10 ⟨rfl, hF10⟩
                have HFF := hide ((HN8.out.f.drewN m9).trans hF10)
                clear hF10
                go_wp2
                go_ret
                exact ⟨rfl, HFF.out⟩
          · have hs1 : ((steps : Int) ≤ (x.length : Int)) := by omega
            have hs2 : ((steps : Int) < (x.length : Int)) := by omega
            have hac := arms_calm HC.out steps
            go_wp2_with fail
            refine (arm_is (steps : Int) HN3.out.n (by omega)).mono ?_
            rintro e w4 ⟨rfl, hN4, hF4⟩
            obtain ⟨s1, hs1⟩ : ∃ s1, s0.arms steps = s1 := ⟨_, rfl⟩
            rw [hs1] at hN4 hac
            have HN1 := hide (HN3.out.step hN4 hF4)
            have HG1 := hide (HG3.out.own HN3.out hF4)
            have HW1 := hide (HW3.out.frm hF4 hg3)
            have HD1 : Hid (mD.Ok s1) := mD_ok (hac.2.1.trans HN5'.out)
            have KO : Hid (KeepsOut s1 s0 k x 0 50 false) := keeps_set hac.1 (hac.2.1.trans HN5'.out) (hac.2.2.1.trans HHF.out) hac.2.2.2.1 hx64 hset
            clear hN4 hF4 hac hs1 HN3 HG3 HW3
            clear hs
            go_wp2_with fail
            refine (dwrite_at _ AL cL x.length x rfl HG1.out HN1.out.n HD1.out (RXw.out HN1.out).1 (RXw.out HN1.out).2 RX.out.u hxc hxi).mono ?_
            rintro e w5 ⟨he, hN5, hF5⟩
            rw [KO.out.e] at he
            subst he
            have HN5 := hide (HN1.out.step hN5 hF5)
            have HG5 := hide (HG1.out.own HN1.out hF5)
            have HW5 := hide (HW1.out.frm hF5 hg3)
            clear hN5 hF5
            go_wp2_with fail
            go_loopw [23] (fun i wr => DKRel2 w w5 p q c g g3 (mD.wr s1 k x) W0 x k (0) i wr) (fun i _ => (0) - (intOf i).toNat)
            case atStart => exact ⟨0, Nat.zero_le _, rfl, HN5.out, HG5.out, HW5.out, Frm.refl _ _⟩
            case round =>
              obtain ⟨j, hj, rfl, hN6, hG6, hW6, hF6⟩ := hrel
              have HN6 := hide hN6
              have HG6 := hide hG6
              have HW6 := hide hW6
              have HF6 := hide hF6
              clear hN6 hG6 hW6 hF6
              by_cases hlt : j < (0)
              · exact absurd hlt (Nat.not_lt_zero _)
              · obtain rfl : j = (0) := by omega
                go_wp2_with (go_at_call 22; refine (down_is HN6.out.n).mono ?_; rw [KO.out.dn]; rintro e w' ⟨rfl, rfl⟩)
                refine (crash_is none 0 [] HN6.out.n (Rd.nil _ _) (fun _ a ha => by cases ha) (by simp)).mono ?_
                rintro e w7 ⟨rfl, hN7, hF7⟩
                have HN7 := hide (HN6.out.step hN7 hF7)
                have HG7 := hide (HG6.out.own HN6.out hF7)
                have HW7 := hide (HW6.out.frm hF7 hg3)
                have hwords := KO.out.words HN7.out.n.ok
                rw [HWe.out] at hwords
                have HWW := hide hwords
                clear hN7 hF7 hwords
                go_wp2_with fail
                refine (dread_all HG7.out HN7.out.n (mD_ok KO.out.n) (DrvS.calm_crash _ _)).mono ?_
                rintro e w8 ⟨A2, cp2, rfl, hR8, -, hF8⟩
                rw [HWW.out] at hR8
                have HR8 := hide hR8
                have HN8 := hide (HN7.out.frm hF8)
                have HW8 := hide (HW7.out.frm hF8 (fun e => e))
                clear hR8 hF8
                go_wp2_with fail
                refine (sameWords_self 192 _ (by simp) _ _ _ _ _ HR8.out HW8.out.rd (by simp)).mono ?_
                rintro e w9 ⟨rfl, m9, rfl⟩
                go_wp2_with fail
                refine (awake_is _).mono ?_
                rintro e w10 ⟨rfl, hF10⟩
                have HFF := hide ((HN8.out.f.drewN m9).trans hF10)
                clear hF10
                go_wp2
                go_ret
                exact ⟨rfl, HFF.out⟩
          · subst hs
            have hac := arms_calm HC.out x.length
            go_wp2_with fail
            refine (arm_is (x.length : Int) HN3.out.n (by omega)).mono ?_
            rintro e w4 ⟨rfl, hN4, hF4⟩
            obtain ⟨s1, hs1⟩ : ∃ s1, s0.arms x.length = s1 := ⟨_, rfl⟩
            rw [hs1] at hN4 hac
            have HN1 := hide (HN3.out.step hN4 hF4)
            have HG1 := hide (HG3.out.own HN3.out hF4)
            have HW1 := hide (HW3.out.frm hF4 hg3)
            have HD1 : Hid (mD.Ok s1) := mD_ok (hac.2.1.trans HN5'.out)
            have KO : Hid (KeepsOut s1 s0 k x 0 50 false) := keeps_set hac.1 (hac.2.1.trans HN5'.out) (hac.2.2.1.trans HHF.out) hac.2.2.2.1 hx64 hset
            clear hN4 hF4 hac hs1 HN3 HG3 HW3
            go_wp2_with fail
            refine (dwrite_at _ AL cL x.length x rfl HG1.out HN1.out.n HD1.out (RXw.out HN1.out).1 (RXw.out HN1.out).2 RX.out.u hxc hxi).mono ?_
            rintro e w5 ⟨he, hN5, hF5⟩
            rw [KO.out.e] at he
            subst he
            have HN5 := hide (HN1.out.step hN5 hF5)
            have HG5 := hide (HG1.out.own HN1.out hF5)
            have HW5 := hide (HW1.out.frm hF5 hg3)
            clear hN5 hF5
            go_wp2_with fail
            go_loopw [23] (fun i wr => DKRel2 w w5 p q c g g3 (mD.wr s1 k x) W0 x k (0) i wr) (fun i _ => (0) - (intOf i).toNat)
            case atStart => exact ⟨0, Nat.zero_le _, rfl, HN5.out, HG5.out, HW5.out, Frm.refl _ _⟩
            case round =>
              obtain ⟨j, hj, rfl, hN6, hG6, hW6, hF6⟩ := hrel
              have HN6 := hide hN6
              have HG6 := hide hG6
              have HW6 := hide hW6
              have HF6 := hide hF6
              clear hN6 hG6 hW6 hF6
              by_cases hlt : j < (0)
              · exact absurd hlt (Nat.not_lt_zero _)
              · obtain rfl : j = (0) := by omega
                go_wp2_with (go_at_call 22; refine (down_is HN6.out.n).mono ?_; rw [KO.out.dn]; rintro e w' ⟨rfl, rfl⟩)
                refine (crash_is none 0 [] HN6.out.n (Rd.nil _ _) (fun _ a ha => by cases ha) (by simp)).mono ?_
                rintro e w7 ⟨rfl, hN7, hF7⟩
                have HN7 := hide (HN6.out.step hN7 hF7)
                have HG7 := hide (HG6.out.own HN6.out hF7)
                have HW7 := hide (HW6.out.frm hF7 hg3)
                have hwords := KO.out.words HN7.out.n.ok
                rw [HWe.out] at hwords
                have HWW := hide hwords
                clear hN7 hF7 hwords
                go_wp2_with fail
                refine (dread_all HG7.out HN7.out.n (mD_ok KO.out.n) (DrvS.calm_crash _ _)).mono ?_
                rintro e w8 ⟨A2, cp2, rfl, hR8, -, hF8⟩
                rw [HWW.out] at hR8
                have HR8 := hide hR8
                have HN8 := hide (HN7.out.frm hF8)
                have HW8 := hide (HW7.out.frm hF8 (fun e => e))
                clear hR8 hF8
                go_wp2_with fail
                refine (sameWords_self 192 _ (by simp) _ _ _ _ _ HR8.out HW8.out.rd (by simp)).mono ?_
                rintro e w9 ⟨rfl, m9, rfl⟩
                go_wp2_with fail
                refine (awake_is _).mono ?_
                rintro e w10 ⟨rfl, hF10⟩
                have HFF := hide ((HN8.out.f.drewN m9).trans hF10)
                clear hF10
                go_wp2
                go_ret
                exact ⟨rfl, HFF.out⟩
        · obtain ⟨s1, hs1⟩ : ∃ s1, s0 = s1 := ⟨_, rfl⟩
          have HN1 : Hid (Own w wr p q c s1) := by rw [← hs1]; exact HN3.out
          have HG1 := HG3
          have HW1 := HW3
          have HD1 : Hid (mD.Ok s1) := by rw [← hs1]; exact HD.out
          have hcd : s1.doneN x.length = x.length := by rw [← hs1]; exact calm_done HC.out _
          have KO : Hid (KeepsOut s1 s0 k x 0 50 false) := keeps_set (by rw [← hs1]; exact HC.out.dn) (by rw [← hs1]; exact HN5'.out) (by rw [← hs1]; exact HHF.out) (by rw [hs1]) hx64 hset
          clear hs1 hcd HN3 HG3 HW3
          go_wp2_with fail
          refine (dwrite_at _ AL cL x.length x rfl HG1.out HN1.out.n HD1.out (RXw.out HN1.out).1 (RXw.out HN1.out).2 RX.out.u hxc hxi).mono ?_
          rintro e w5 ⟨he, hN5, hF5⟩
          rw [KO.out.e] at he
          subst he
          have HN5 := hide (HN1.out.step hN5 hF5)
          have HG5 := hide (HG1.out.own HN1.out hF5)
          have HW5 := hide (HW1.out.frm hF5 hg3)
          clear hN5 hF5
          go_wp2_with fail
          go_loopw [23] (fun i wr => DKRel2 w w5 p q c g g3 (mD.wr s1 k x) W0 x k (0) i wr) (fun i _ => (0) - (intOf i).toNat)
          case atStart => exact ⟨0, Nat.zero_le _, rfl, HN5.out, HG5.out, HW5.out, Frm.refl _ _⟩
          case round =>
            obtain ⟨j, hj, rfl, hN6, hG6, hW6, hF6⟩ := hrel
            have HN6 := hide hN6
            have HG6 := hide hG6
            have HW6 := hide hW6
            have HF6 := hide hF6
            clear hN6 hG6 hW6 hF6
            by_cases hlt : j < (0)
            · exact absurd hlt (Nat.not_lt_zero _)
            · obtain rfl : j = (0) := by omega
              go_wp2_with (go_at_call 22; refine (down_is HN6.out.n).mono ?_; rw [KO.out.dn]; rintro e w' ⟨rfl, rfl⟩)
              refine (crash_is none 0 [] HN6.out.n (Rd.nil _ _) (fun _ a ha => by cases ha) (by simp)).mono ?_
              rintro e w7 ⟨rfl, hN7, hF7⟩
              have HN7 := hide (HN6.out.step hN7 hF7)
              have HG7 := hide (HG6.out.own HN6.out hF7)
              have HW7 := hide (HW6.out.frm hF7 hg3)
              have hwords := KO.out.words HN7.out.n.ok
              rw [HWe.out] at hwords
              have HWW := hide hwords
              clear hN7 hF7 hwords
              go_wp2_with fail
              refine (dread_all HG7.out HN7.out.n (mD_ok KO.out.n) (DrvS.calm_crash _ _)).mono ?_
              rintro e w8 ⟨A2, cp2, rfl, hR8, -, hF8⟩
              rw [HWW.out] at hR8
              have HR8 := hide hR8
              have HN8 := hide (HN7.out.frm hF8)
              have HW8 := hide (HW7.out.frm hF8 (fun e => e))
              clear hR8 hF8
              go_wp2_with fail
              refine (sameWords_self 192 _ (by simp) _ _ _ _ _ HR8.out HW8.out.rd (by simp)).mono ?_
              rintro e w9 ⟨rfl, m9, rfl⟩
              go_wp2_with fail
              refine (awake_is _).mono ?_
              rintro e w10 ⟨rfl, hF10⟩
              have HFF := hide ((HN8.out.f.drewN m9).trans hF10)
              clear hF10
              go_wp2
              go_ret
              exact ⟨rfl, HFF.out⟩
      · rcases Bool.eq_false_or_eq_true fails with rfl | rfl
        · rcases (by omega : x.length < steps ∨ steps < x.length ∨ steps = x.length) with hs | hs | hs
          · have hs1 : ¬ ((steps : Int) ≤ (x.length : Int)) := by omega
            have hs2 : ((x.length : Int) < (steps : Int)) := by omega
            have hac := arms_calm HC.out steps
            go_wp2_with fail
            refine (arm_is (steps : Int) HN3.out.n (by omega)).mono ?_
            rintro e w4 ⟨rfl, hN4, hF4⟩
            obtain ⟨s1, hs1⟩ : ∃ s1, s0.arms steps = s1 := ⟨_, rfl⟩
            rw [hs1] at hN4 hac
            have HN1 := hide (HN3.out.step hN4 hF4)
            have HG1 := hide (HG3.out.own HN3.out hF4)
            have HW1 := hide (HW3.out.frm hF4 hg3)
            have HD1 : Hid (mD.Ok s1) := mD_ok (hac.2.1.trans HN5'.out)
            have KO : Hid (KeepsOut s1 s0 k x (x.length) 0 false) := by
              have h := keeps_go HN1.out.n.ok hac.1 (hac.2.1.trans HN5'.out) (hac.2.2.1.trans HHF.out) hac.2.2.2.1 hx64 hset (x.length) (by rw [hac.2.2.2.2 x.length]; omega)
              rw [if_pos (by omega), decide_eq_true (by omega)] at h
              exact h
            clear hN4 hF4 hac hs1 HN3 HG3 HW3
            clear hs
            go_wp2_with fail
            refine (dwrite_at _ AL cL x.length x rfl HG1.out HN1.out.n HD1.out (RXw.out HN1.out).1 (RXw.out HN1.out).2 RX.out.u hxc hxi).mono ?_
            rintro e w5 ⟨he, hN5, hF5⟩
            rw [KO.out.e] at he
            subst he
            have HN5 := hide (HN1.out.step hN5 hF5)
            have HG5 := hide (HG1.out.own HN1.out hF5)
            have HW5 := hide (HW1.out.frm hF5 hg3)
            clear hN5 hF5
            go_wp2_with fail
            go_loopw [23] (fun i wr => DKRel2 w w5 p q c g g3 (mD.wr s1 k x) W0 x k (x.length) i wr) (fun i _ => (x.length) - (intOf i).toNat)
            case atStart => exact ⟨0, Nat.zero_le _, rfl, HN5.out, HG5.out, HW5.out, Frm.refl _ _⟩
            case round =>
              obtain ⟨j, hj, rfl, hN6, hG6, hW6, hF6⟩ := hrel
              have HN6 := hide hN6
              have HG6 := hide hG6
              have HW6 := hide hW6
              have HF6 := hide hF6
              clear hN6 hG6 hW6 hF6
              by_cases hlt : j < (x.length)
              · have hjx : j < x.length := Nat.lt_of_lt_of_le hlt KO.out.mx
                obtain ⟨ba, oa, rfl, hca⟩ := (RXw.out HN6.out).1 (ints_ne (by intro e; rw [e] at hjx; simp at hjx))
                have c1 := hca j _ (ints_get hjx)
                have c2 := HW6.out.cell (i := k + j) (by omega)
                have c3 := HW6.out.frozen (k + j)
                have i0 : (0 : Int) ≤ (j : Int) := by omega
                have i1 : (j : Int) < (x.length : Int) := by omega
                have i2 : (0 : Int) ≤ (k : Int) + j := by omega
                have i3 : (k : Int) + j < 192 := by omega
                have hw2 : IntKind.i64.wrap ((k : Int) + j) = (k : Int) + j := IntWalk.i64_in _ (by omega)
                have ht2 : ((k : Int) + j).toNat = k + j := by omega
                obtain ⟨y, hy⟩ : ∃ y, x.getD j 0 = y := ⟨_, rfl⟩
                rw [hy] at c1
                have HY := hide hy
                clear hca hy
                go_wp2_with fail
                go_roundw
                case rel =>
                  have hf1 : Frm (One g3) wr (wr.setCell ⟨g3, k + j, none⟩ (.int .u32 y)) := (Frm.refl _ wr).set1 _ _
                  have hnx := HW6.out.next (show k + j < 192 by omega)
                  rw [HY.out] at hnx
                  exact ⟨j + 1, by omega, by go_num, HN6.out.of_one hf1 HP3.out, HG6.out.frm hf1 hgg3, hnx, HF6.out.trans hf1⟩
                case measure => first | (simp [intOf]; omega) | simp [intOf]
              · obtain rfl : j = (x.length) := by omega
                go_wp2_with (go_at_call 22; refine (down_is HN6.out.n).mono ?_; rw [KO.out.dn]; rintro e w' ⟨rfl, rfl⟩)
                refine (crash_is none 0 [] HN6.out.n (Rd.nil _ _) (fun _ a ha => by cases ha) (by simp)).mono ?_
                rintro e w7 ⟨rfl, hN7, hF7⟩
                have HN7 := hide (HN6.out.step hN7 hF7)
                have HG7 := hide (HG6.out.own HN6.out hF7)
                have HW7 := hide (HW6.out.frm hF7 hg3)
                have hwords := KO.out.words HN7.out.n.ok
                rw [HWe.out] at hwords
                have HWW := hide hwords
                clear hN7 hF7 hwords
                go_wp2_with fail
                refine (dread_all HG7.out HN7.out.n (mD_ok KO.out.n) (DrvS.calm_crash _ _)).mono ?_
                rintro e w8 ⟨A2, cp2, rfl, hR8, -, hF8⟩
                rw [HWW.out] at hR8
                have HR8 := hide hR8
                have HN8 := hide (HN7.out.frm hF8)
                have HW8 := hide (HW7.out.frm hF8 (fun e => e))
                clear hR8 hF8
                go_wp2_with fail
                refine (sameWords_self 192 _ (by simp) _ _ _ _ _ HR8.out HW8.out.rd (by simp)).mono ?_
                rintro e w9 ⟨rfl, m9, rfl⟩
                go_wp2_with fail
                refine (awake_is _).mono ?_
                rintro e w10 ⟨rfl, hF10⟩
                have HFF := hide ((HN8.out.f.drewN m9).trans hF10)
                clear hF10
                go_wp2
                go_ret
                exact ⟨rfl, HFF.out⟩
          · have hs1 : ((steps : Int) ≤ (x.length : Int)) := by omega
            have hs2 : ((steps : Int) < (x.length : Int)) := by omega
            have hac := arms_calm HC.out steps
            go_wp2_with fail
            refine (arm_is (steps : Int) HN3.out.n (by omega)).mono ?_
            rintro e w4 ⟨rfl, hN4, hF4⟩
            obtain ⟨s1, hs1⟩ : ∃ s1, s0.arms steps = s1 := ⟨_, rfl⟩
            rw [hs1] at hN4 hac
            have HN1 := hide (HN3.out.step hN4 hF4)
            have HG1 := hide (HG3.out.own HN3.out hF4)
            have HW1 := hide (HW3.out.frm hF4 hg3)
            have HD1 : Hid (mD.Ok s1) := mD_ok (hac.2.1.trans HN5'.out)
            have KO : Hid (KeepsOut s1 s0 k x (steps) 40 true) := by
              have h := keeps_go HN1.out.n.ok hac.1 (hac.2.1.trans HN5'.out) (hac.2.2.1.trans HHF.out) hac.2.2.2.1 hx64 hset (steps) (by rw [hac.2.2.2.2 x.length]; omega)
              rw [if_neg (by omega), decide_eq_false (by omega)] at h
              exact h
            clear hN4 hF4 hac hs1 HN3 HG3 HW3
            clear hs
            go_wp2_with fail
            refine (dwrite_at _ AL cL x.length x rfl HG1.out HN1.out.n HD1.out (RXw.out HN1.out).1 (RXw.out HN1.out).2 RX.out.u hxc hxi).mono ?_
            rintro e w5 ⟨he, hN5, hF5⟩
            rw [KO.out.e] at he
            subst he
            have HN5 := hide (HN1.out.step hN5 hF5)
            have HG5 := hide (HG1.out.own HN1.out hF5)
            have HW5 := hide (HW1.out.frm hF5 hg3)
            clear hN5 hF5
            go_wp2_with fail
            go_loopw [23] (fun i wr => DKRel2 w w5 p q c g g3 (mD.wr s1 k x) W0 x k (steps) i wr) (fun i _ => (steps) - (intOf i).toNat)
            case atStart => exact ⟨0, Nat.zero_le _, rfl, HN5.out, HG5.out, HW5.out, Frm.refl _ _⟩
            case round =>
              obtain ⟨j, hj, rfl, hN6, hG6, hW6, hF6⟩ := hrel
              have HN6 := hide hN6
              have HG6 := hide hG6
              have HW6 := hide hW6
              have HF6 := hide hF6
              clear hN6 hG6 hW6 hF6
              by_cases hlt : j < (steps)
              · have hjx : j < x.length := Nat.lt_of_lt_of_le hlt KO.out.mx
                obtain ⟨ba, oa, rfl, hca⟩ := (RXw.out HN6.out).1 (ints_ne (by intro e; rw [e] at hjx; simp at hjx))
                have c1 := hca j _ (ints_get hjx)
                have c2 := HW6.out.cell (i := k + j) (by omega)
                have c3 := HW6.out.frozen (k + j)
                have i0 : (0 : Int) ≤ (j : Int) := by omega
                have i1 : (j : Int) < (x.length : Int) := by omega
                have i2 : (0 : Int) ≤ (k : Int) + j := by omega
                have i3 : (k : Int) + j < 192 := by omega
                have hw2 : IntKind.i64.wrap ((k : Int) + j) = (k : Int) + j := IntWalk.i64_in _ (by omega)
                have ht2 : ((k : Int) + j).toNat = k + j := by omega
                obtain ⟨y, hy⟩ : ∃ y, x.getD j 0 = y := ⟨_, rfl⟩
                rw [hy] at c1
                have HY := hide hy
                clear hca hy
                go_wp2_with fail
                go_roundw
                case rel =>
                  have hf1 : Frm (One g3) wr (wr.setCell ⟨g3, k + j, none⟩ (.int .u32 y)) := (Frm.refl _ wr).set1 _ _
                  have hnx := HW6.out.next (show k + j < 192 by omega)
                  rw [HY.out] at hnx
                  exact ⟨j + 1, by omega, by go_num, HN6.out.of_one hf1 HP3.out, HG6.out.frm hf1 hgg3, hnx, HF6.out.trans hf1⟩
                case measure => first | (simp [intOf]; omega) | simp [intOf]
              · obtain rfl : j = (steps) := by omega
                go_wp2_with (go_at_call 22; refine (down_is HN6.out.n).mono ?_; rw [KO.out.dn]; rintro e w' ⟨rfl, rfl⟩)
                refine (crash_is none 0 [] HN6.out.n (Rd.nil _ _) (fun _ a ha => by cases ha) (by simp)).mono ?_
                rintro e w7 ⟨rfl, hN7, hF7⟩
                have HN7 := hide (HN6.out.step hN7 hF7)
                have HG7 := hide (HG6.out.own HN6.out hF7)
                have HW7 := hide (HW6.out.frm hF7 hg3)
                have hwords := KO.out.words HN7.out.n.ok
                rw [HWe.out] at hwords
                have HWW := hide hwords
                clear hN7 hF7 hwords
                go_wp2_with fail
                refine (dread_all HG7.out HN7.out.n (mD_ok KO.out.n) (DrvS.calm_crash _ _)).mono ?_
                rintro e w8 ⟨A2, cp2, rfl, hR8, -, hF8⟩
                rw [HWW.out] at hR8
                have HR8 := hide hR8
                have HN8 := hide (HN7.out.frm hF8)
                have HW8 := hide (HW7.out.frm hF8 (fun e => e))
                clear hR8 hF8
                go_wp2_with fail
                refine (sameWords_self 192 _ (by simp) _ _ _ _ _ HR8.out HW8.out.rd (by simp)).mono ?_
                rintro e w9 ⟨rfl, m9, rfl⟩
                go_wp2_with fail
                refine (awake_is _).mono ?_
                rintro e w10 ⟨rfl, hF10⟩
                have HFF := hide ((HN8.out.f.drewN m9).trans hF10)
                clear hF10
                go_wp2
                go_ret
                exact ⟨rfl, HFF.out⟩
          · subst hs
            have hac := arms_calm HC.out x.length
            go_wp2_with fail
            refine (arm_is (x.length : Int) HN3.out.n (by omega)).mono ?_
            rintro e w4 ⟨rfl, hN4, hF4⟩
            obtain ⟨s1, hs1⟩ : ∃ s1, s0.arms x.length = s1 := ⟨_, rfl⟩
            rw [hs1] at hN4 hac
            have HN1 := hide (HN3.out.step hN4 hF4)
            have HG1 := hide (HG3.out.own HN3.out hF4)
            have HW1 := hide (HW3.out.frm hF4 hg3)
            have HD1 : Hid (mD.Ok s1) := mD_ok (hac.2.1.trans HN5'.out)
            have KO : Hid (KeepsOut s1 s0 k x (x.length) 0 false) := by
              have h := keeps_go HN1.out.n.ok hac.1 (hac.2.1.trans HN5'.out) (hac.2.2.1.trans HHF.out) hac.2.2.2.1 hx64 hset (x.length) (by rw [hac.2.2.2.2 x.length]; omega)
              rw [if_pos (by omega), decide_eq_true (by omega)] at h
              exact h
            clear hN4 hF4 hac hs1 HN3 HG3 HW3
            go_wp2_with fail
            refine (dwrite_at _ AL cL x.length x rfl HG1.out HN1.out.n HD1.out (RXw.out HN1.out).1 (RXw.out HN1.out).2 RX.out.u hxc hxi).mono ?_
            rintro e w5 ⟨he, hN5, hF5⟩
            rw [KO.out.e] at he
            subst he
            have HN5 := hide (HN1.out.step hN5 hF5)
            have HG5 := hide (HG1.out.own HN1.out hF5)
            have HW5 := hide (HW1.out.frm hF5 hg3)
            clear hN5 hF5
            go_wp2_with fail
            go_loopw [23] (fun i wr => DKRel2 w w5 p q c g g3 (mD.wr s1 k x) W0 x k (x.length) i wr) (fun i _ => (x.length) - (intOf i).toNat)
            case atStart => exact ⟨0, Nat.zero_le _, rfl, HN5.out, HG5.out, HW5.out, Frm.refl _ _⟩
            case round =>
              obtain ⟨j, hj, rfl, hN6, hG6, hW6, hF6⟩ := hrel
              have HN6 := hide hN6
              have HG6 := hide hG6
              have HW6 := hide hW6
              have HF6 := hide hF6
              clear hN6 hG6 hW6 hF6
              by_cases hlt : j < (x.length)
              · have hjx : j < x.length := Nat.lt_of_lt_of_le hlt KO.out.mx
                obtain ⟨ba, oa, rfl, hca⟩ := (RXw.out HN6.out).1 (ints_ne (by intro e; rw [e] at hjx; simp at hjx))
                have c1 := hca j _ (ints_get hjx)
                have c2 := HW6.out.cell (i := k + j) (by omega)
                have c3 := HW6.out.frozen (k + j)
                have i0 : (0 : Int) ≤ (j : Int) := by omega
                have i1 : (j : Int) < (x.length : Int) := by omega
                have i2 : (0 : Int) ≤ (k : Int) + j := by omega
                have i3 : (k : Int) + j < 192 := by omega
                have hw2 : IntKind.i64.wrap ((k : Int) + j) = (k : Int) + j := IntWalk.i64_in _ (by omega)
                have ht2 : ((k : Int) + j).toNat = k + j := by omega
                obtain ⟨y, hy⟩ : ∃ y, x.getD j 0 = y := ⟨_, rfl⟩
                rw [hy] at c1
                have HY := hide hy
                clear hca hy
                go_wp2_with fail
                go_roundw
                case rel =>
                  have hf1 : Frm (One g3) wr (wr.setCell ⟨g3, k + j, none⟩ (.int .u32 y)) := (Frm.refl _ wr).set1 _ _
                  have hnx := HW6.out.next (show k + j < 192 by omega)
                  rw [HY.out] at hnx
                  exact ⟨j + 1, by omega, by go_num, HN6.out.of_one hf1 HP3.out, HG6.out.frm hf1 hgg3, hnx, HF6.out.trans hf1⟩
                case measure => first | (simp [intOf]; omega) | simp [intOf]
              · obtain rfl : j = (x.length) := by omega
                go_wp2_with (go_at_call 22; refine (down_is HN6.out.n).mono ?_; rw [KO.out.dn]; rintro e w' ⟨rfl, rfl⟩)
                refine (crash_is none 0 [] HN6.out.n (Rd.nil _ _) (fun _ a ha => by cases ha) (by simp)).mono ?_
                rintro e w7 ⟨rfl, hN7, hF7⟩
                have HN7 := hide (HN6.out.step hN7 hF7)
                have HG7 := hide (HG6.out.own HN6.out hF7)
                have HW7 := hide (HW6.out.frm hF7 hg3)
                have hwords := KO.out.words HN7.out.n.ok
                rw [HWe.out] at hwords
                have HWW := hide hwords
                clear hN7 hF7 hwords
                go_wp2_with fail
                refine (dread_all HG7.out HN7.out.n (mD_ok KO.out.n) (DrvS.calm_crash _ _)).mono ?_
                rintro e w8 ⟨A2, cp2, rfl, hR8, -, hF8⟩
                rw [HWW.out] at hR8
                have HR8 := hide hR8
                have HN8 := hide (HN7.out.frm hF8)
                have HW8 := hide (HW7.out.frm hF8 (fun e => e))
                clear hR8 hF8
                go_wp2_with fail
                refine (sameWords_self 192 _ (by simp) _ _ _ _ _ HR8.out HW8.out.rd (by simp)).mono ?_
                rintro e w9 ⟨rfl, m9, rfl⟩
                go_wp2_with fail
                refine (awake_is _).mono ?_
                rintro e w10 ⟨rfl, hF10⟩
                have HFF := hide ((HN8.out.f.drewN m9).trans hF10)
                clear hF10
                go_wp2
                go_ret
                exact ⟨rfl, HFF.out⟩
        · obtain ⟨s1, hs1⟩ : ∃ s1, s0 = s1 := ⟨_, rfl⟩
          have HN1 : Hid (Own w wr p q c s1) := by rw [← hs1]; exact HN3.out
          have HG1 := HG3
          have HW1 := HW3
          have HD1 : Hid (mD.Ok s1) := by rw [← hs1]; exact HD.out
          have hcd : s1.doneN x.length = x.length := by rw [← hs1]; exact calm_done HC.out _
          have KO : Hid (KeepsOut s1 s0 k x (x.length) 0 false) := by
            have h := keeps_go HN1.out.n.ok (by rw [← hs1]; exact HC.out.dn) (by rw [← hs1]; exact HN5'.out) (by rw [← hs1]; exact HHF.out) (by rw [hs1]) hx64 hset (x.length) (by rw [hcd])
            rw [if_pos (by omega), decide_eq_true (by omega)] at h
            exact h
          clear hs1 hcd HN3 HG3 HW3
          go_wp2_with fail
          refine (dwrite_at _ AL cL x.length x rfl HG1.out HN1.out.n HD1.out (RXw.out HN1.out).1 (RXw.out HN1.out).2 RX.out.u hxc hxi).mono ?_
          rintro e w5 ⟨he, hN5, hF5⟩
          rw [KO.out.e] at he
          subst he
          have HN5 := hide (HN1.out.step hN5 hF5)
          have HG5 := hide (HG1.out.own HN1.out hF5)
          have HW5 := hide (HW1.out.frm hF5 hg3)
          clear hN5 hF5
          go_wp2_with fail
          go_loopw [23] (fun i wr => DKRel2 w w5 p q c g g3 (mD.wr s1 k x) W0 x k (x.length) i wr) (fun i _ => (x.length) - (intOf i).toNat)
          case atStart => exact ⟨0, Nat.zero_le _, rfl, HN5.out, HG5.out, HW5.out, Frm.refl _ _⟩
          case round =>
            obtain ⟨j, hj, rfl, hN6, hG6, hW6, hF6⟩ := hrel
            have HN6 := hide hN6
            have HG6 := hide hG6
            have HW6 := hide hW6
            have HF6 := hide hF6
            clear hN6 hG6 hW6 hF6
            by_cases hlt : j < (x.length)
            · have hjx : j < x.length := Nat.lt_of_lt_of_le hlt KO.out.mx
              obtain ⟨ba, oa, rfl, hca⟩ := (RXw.out HN6.out).1 (ints_ne (by intro e; rw [e] at hjx; simp at hjx))
              have c1 := hca j _ (ints_get hjx)
              have c2 := HW6.out.cell (i := k + j) (by omega)
              have c3 := HW6.out.frozen (k + j)
              have i0 : (0 : Int) ≤ (j : Int) := by omega
              have i1 : (j : Int) < (x.length : Int) := by omega
              have i2 : (0 : Int) ≤ (k : Int) + j := by omega
              have i3 : (k : Int) + j < 192 := by omega
              have hw2 : IntKind.i64.wrap ((k : Int) + j) = (k : Int) + j := IntWalk.i64_in _ (by omega)
              have ht2 : ((k : Int) + j).toNat = k + j := by omega
              obtain ⟨y, hy⟩ : ∃ y, x.getD j 0 = y := ⟨_, rfl⟩
              rw [hy] at c1
              have HY := hide hy
              clear hca hy
              go_wp2_with fail
              go_roundw
              case rel =>
                have hf1 : Frm (One g3) wr (wr.setCell ⟨g3, k + j, none⟩ (.int .u32 y)) := (Frm.refl _ wr).set1 _ _
                have hnx := HW6.out.next (show k + j < 192 by omega)
                rw [HY.out] at hnx
                exact ⟨j + 1, by omega, by go_num, HN6.out.of_one hf1 HP3.out, HG6.out.frm hf1 hgg3, hnx, HF6.out.trans hf1⟩
              case measure => first | (simp [intOf]; omega) | simp [intOf]
            · obtain rfl : j = (x.length) := by omega
              go_wp2_with (go_at_call 22; refine (down_is HN6.out.n).mono ?_; rw [KO.out.dn]; rintro e w' ⟨rfl, rfl⟩)
              refine (crash_is none 0 [] HN6.out.n (Rd.nil _ _) (fun _ a ha => by cases ha) (by simp)).mono ?_
              rintro e w7 ⟨rfl, hN7, hF7⟩
              have HN7 := hide (HN6.out.step hN7 hF7)
              have HG7 := hide (HG6.out.own HN6.out hF7)
              have HW7 := hide (HW6.out.frm hF7 hg3)
              have hwords := KO.out.words HN7.out.n.ok
              rw [HWe.out] at hwords
              have HWW := hide hwords
              clear hN7 hF7 hwords
              go_wp2_with fail
              refine (dread_all HG7.out HN7.out.n (mD_ok KO.out.n) (DrvS.calm_crash _ _)).mono ?_
              rintro e w8 ⟨A2, cp2, rfl, hR8, -, hF8⟩
              rw [HWW.out] at hR8
              have HR8 := hide hR8
              have HN8 := hide (HN7.out.frm hF8)
              have HW8 := hide (HW7.out.frm hF8 (fun e => e))
              clear hR8 hF8
              go_wp2_with fail
              refine (sameWords_self 192 _ (by simp) _ _ _ _ _ HR8.out HW8.out.rd (by simp)).mono ?_
              rintro e w9 ⟨rfl, m9, rfl⟩
              go_wp2_with fail
              refine (awake_is _).mono ?_
              rintro e w10 ⟨rfl, hF10⟩
              have HFF := hide ((HN8.out.f.drewN m9).trans hF10)
              clear hF10
              go_wp2
              go_ret
              exact ⟨rfl, HFF.out⟩
end Go.Proofs.Ytplngfphklpicaa
