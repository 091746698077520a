/-
  What is erased is blank: the walk, at most 64 words.
-/
import Derived.Test.YtplngfphklpicaaDrvErases0
namespace Go.Proofs.Ytplngfphklpicaa
open Go.RowKit
set_option maxRecDepth 100000 in
set_option maxHeartbeats 4000000 in
theorem driveErases_2 (w : World) (A : Option Addr) (cp : Nat) (ops : List OpS) (hO : OpsAt w w.heap.size A ops) (hm : (ops.length : Int) ≤ 9223372036854775807) (sec : Int) (b1 : -9223372036854775808 ≤ sec ∧ sec ≤ 9223372036854775807)
    (AL : Option Addr) (cL : Nat) (l : List Int) (hL : RowArg w w.heap.size AL cL l) (h64 : l.length ≤ 64) :
    Calls Try.prog 7 #[.slice A ops.length cp, .int .i64 sec, .slice AL l.length cL] w fun e w' => e = .returned (.bool true) ∧ Frm NoB w w' := by
  have HM := hide (made_is A cp ops hO (Nat.le_refl _) hm)
  have HL := hide hL
  have hll := hL.l
  have hlm := hL.m
  have hxl : (l.take 64).length = min 64 l.length := List.length_take
  have hx64 : (l.take 64).length ≤ 64 := by omega
  have hxc : (l.take 64).length ≤ cL := by omega
  have hxi : ((l.take 64).length : Int) ≤ 9223372036854775807 := by omega
  obtain ⟨k, hk⟩ := Int.eq_ofNat_of_zero_le (pick_lo sec (n := 3) (by omega))
  have hk3 : k < 3 := by have := pick_hi sec (n := 3) (by omega); omega
  have PK : Hid (∀ w0, Calls Try.prog 19 #[.int .i64 sec, .int .i64 3] w0 fun e w' => e = .returned (.int .i64 k) ∧ w0 = w') := fun w0 => by
    have h := pick_is sec 3 w0 (by omega) (by omega) b1.1 b1.2
    have e : pick sec ((3 : Nat) : Int) = k := hk
    rwa [e] at h
  have hw : IntKind.i64.wrap (64 * (k : Int)) = 64 * (k : Int) := IntWalk.i64_in _ (by omega)
  obtain ⟨x, hx⟩ : ∃ x, l.take 64 = x := ⟨_, rfl⟩
  rw [hx] at hxl hx64 hxc hxi
  have HX := hide hx
  clear hO hL hk hx
  obtain rfl : x = l := by rw [← HX.out, List.take_of_length_le h64]
  clear hxl
  go_enter Try.func7, Try.ntmps7
  go_wp2_with fail
  refine HM.out.mono ?_
  rintro e w1 ⟨p, q, c, g, rfl, hN, hG⟩
  have HC : Hid (DrvS.Calm ((mRuns ops).crash [])) := DrvS.calm_crash _ _
  have hn5 : ((mRuns ops).crash []).n = 5 := mRuns_n ops
  obtain ⟨s0, hs0⟩ : ∃ s0, (mRuns ops).crash [] = s0 := ⟨_, rfl⟩
  rw [hs0] at hN HC hn5
  have HN := hide hN
  have HG := hide hG
  have HD : Hid (mD.Ok s0) := mD_ok hn5
  have hl0 := DrvS.words_length (a := 0) (m := 192) HN.out.n.ok HD.out (by decide)
  clear hN hG hs0 HM
  go_wp2_with fail
  refine (PK.out _).mono ?_
  rintro e w' ⟨rfl, rfl⟩
  go_wp2_with fail
  have RX : Hid (RowArg w w.heap.size AL cL x) := by have h := HL.out.take 64; rw [HX.out] at h; exact h
  have RXw : Hid (∀ {w' : World} {s : NorS}, Own w w' p q c s → Rd w' AL (ints .u32 x) ∧ (x ≠ [] → ∀ y, AL = some y → ¬ Two p q y.block ∧ y.block < w'.heap.size)) := fun {w'} {s} ho => by
    have r := RX.out.frm ho.f (fun _ _ e => e)
    exact ⟨r.r, fun hne y hy => ⟨below_two ho.p0 ho.q0 _ (r.b hne y hy), by have := r.b hne y hy; have := ho.f.size; omega⟩⟩
  refine (dread_all HG.out HN.out.n HD.out HC.out).mono ?_
  rintro e w2 ⟨A1, cp1, rfl, hR1, hA1, hF2⟩
  have HN2 := hide (HN.out.frm hF2)
  have HG2 := hide (HG.out.frm hF2 (fun e => e))
  have hpw := HN.out.n.ltp
  have hqw := HN.out.n.ltq
  have HA1 : Hid (∀ y, A1 = some y → ¬ Two p q y.block) := fun y hy e => by
    have := hA1 y hy
    rcases e with e | e <;> omega
  have HR1 := hide hR1
  have hce := DrvS.calm_er HC.out HN.out.n.ok HD.out hk3
  have HE1 := hide hce.1
  clear hR1 hA1 hF2 hpw hqw hce
  go_wp2_with fail
  refine (ownd_erase k HN2.out HG2.out HD.out (by omega)).mono ?_
  rintro e w3 ⟨he, hN3, hF3⟩
  rw [HE1.out] at he
  subst he
  have E2 := DrvS.erases2 (k := k) (x := x) HC.out HN.out.n.ok HD.out hk3 hN3.n.ok hx64 RX.out.u
  rw [cast64] at E2
  obtain ⟨f0, f1, f2, f3, d1, d2, d3, f4⟩ := E2
  have F0 : Hid (mD.blank (mD.er s0 k) (64 * (k : Int)) 64 = true) := f0
  have F1 := hide f1; have F2 := hide f2; have F3 := hide f3; have D1 := hide d1; have D2 := hide d2; have D3 := hide d3
  have F4 := hide (fun j (hj : j < 192) => f4 j 192 hj)
  have HN3 := hide hN3
  have HG3 := hide (HG2.out.own HN2.out hF3)
  have HR3 := hide (Rd.frm' HR1.out hF3 (fun _ => HA1.out))
  clear hN3 hF3 f0 f1 f2 f3 d1 d2 d3 f4 HN HG HN2 HG2 HR1
  go_wp2_with fail
  refine (ownd_blank _ _ HN3.out HG3.out D1.out true F0.out).mono ?_
  rintro e w4 ⟨rfl, hN4, hF4⟩
  have HN4 := hide hN4
  have HG4 := hide (HG3.out.frm hF4 (fun e => e))
  have HR4 := hide (Rd.frm' HR3.out hF4 (fun _ _ _ e => e))
  clear hN4 hF4 HN3 HG3 HR3
  go_wp2_with fail
  refine (dwrite_at _ AL cL x.length x rfl HG4.out HN4.out.n D1.out (RXw.out HN4.out).1 (RXw.out HN4.out).2 RX.out.u hxc hxi).mono ?_
  rintro e w5 ⟨he, hN5, hF5⟩
  rw [F1.out] at he
  subst he
  have HN5 := hide (HN4.out.step hN5 hF5)
  have HG5 := hide (HG4.out.own HN4.out hF5)
  have HR5 := hide (Rd.frm' HR4.out hF5 (fun _ => HA1.out))
  clear hN5 hF5 HN4 HG4 HR4
  go_wp2_with fail
  refine (dwrite_at _ AL cL x.length x rfl HG5.out HN5.out.n D2.out (RXw.out HN5.out).1 (RXw.out HN5.out).2 RX.out.u hxc hxi).mono ?_
  rintro e w6 ⟨he, hN6, hF6⟩
  rw [F2.out] at he
  subst he
  have HN6 := hide (HN5.out.step hN6 hF6)
  have HG6 := hide (HG5.out.own HN5.out hF6)
  have HR6 := hide (Rd.frm' HR5.out hF6 (fun _ => HA1.out))
  clear hN6 hF6 HN5 HG5 HR5
  go_wp2_with fail
  refine (dread_all HG6.out HN6.out.n D3.out F3.out).mono ?_
  rintro e w7 ⟨A2, cp2, rfl, hR2, hA2, hF7⟩
  have HN7 := hide (HN6.out.frm hF7)
  have HR7 := hide (Rd.frm' HR6.out hF7 (fun _ _ _ e => e))
  have HR2 := hide hR2
  have hl1 := DrvS.words_length (a := 0) (m := 192) HN6.out.n.ok D3.out (by decide)
  obtain ⟨W0, hW0⟩ : ∃ W0, mD.words s0 0 192 = W0 := ⟨_, rfl⟩
  obtain ⟨W3, hW3⟩ : ∃ W3, mD.words (mD.wr (mD.wr (mD.er s0 k) (64 * (k : Int)) x) (64 * (k : Int)) x) 0 192 = W3 := ⟨_, rfl⟩
  rw [hW0] at HR7 F4 hl0
  rw [hW3] at HR2 F4 hl1
  have RX7 := hide (RXw.out HN7.out).1
  clear hR2 hA2 hF7 HN6 HG6 HR6 hW0 hW3 F0 F1 F2 F3 D1 D2 D3 HE1 RXw HC HD
  go_wp2_with fail
  go_loopw [87] (fun i wr => DErRel w7 i wr) (fun i _ => 192 - (intOf i).toNat)
  case atStart => exact ⟨0, by omega, rfl, rfl⟩
  case round =>
    obtain ⟨j, hj, rfl, rfl⟩ := hrel
    by_cases hlt : j < 192
    · obtain ⟨a1, o1, rfl, c1⟩ := HR7.out (ints_ne (by intro e; rw [e] at hl0; simp at hl0))
      obtain ⟨a2, o2, rfl, c2⟩ := HR2.out (ints_ne (by intro e; rw [e] at hl1; simp at hl1))
      have c1 := c1 j _ (ints_get (by omega))
      have c2 := c2 j _ (ints_get (by omega))
      have i0 : (0 : Int) ≤ (j : Int) := by omega
      have i1 : (j : Int) < 192 := by omega
      have f := F4.out j hlt
      have q1 : Int.tdiv (j : Int) 64 = ((j / 64 : Nat) : Int) := by rw [Int.tdiv_eq_ediv_of_nonneg (by omega)]; omega
      have q2 : Int.tmod (j : Int) 64 = ((j % 64 : Nat) : Int) := by rw [Int.tmod_eq_emod_of_nonneg (by omega)]; omega
      by_cases hjk : j / 64 = k
      · rw [if_pos hjk] at f
        have b1 : (((j / 64 : Nat) : Int) == (k : Int)) = true := by rw [hjk]; simp
        by_cases hr : j % 64 < x.length
        · rw [if_pos hr] at f
          obtain ⟨a3, o3, rfl, c3⟩ := RX7.out (ints_ne (by intro e; rw [e] at hr; simp at hr))
          have c3 := c3 (j % 64) _ (ints_get hr)
          rw [← f] at c3
          have b2 : (((j % 64 : Nat) : Int) < (x.length : Int)) := by omega
          have b3 : (0 : Int) ≤ ((j % 64 : Nat) : Int) := by omega
          generalize W3.getD j 0 = y at *
          clear f
          go_wp2_with fail
          go_roundw
          case rel => exact ⟨j + 1, by omega, by go_num, rfl⟩
          case measure => first | (simp [intOf]; omega) | simp [intOf]
        · rw [if_neg hr] at f
          have b2 : ¬ (((j % 64 : Nat) : Int) < (x.length : Int)) := by omega
          rw [f] at c2
          clear f
          go_wp2_with fail
          go_roundw
          case rel => exact ⟨j + 1, by omega, by go_num, rfl⟩
          case measure => first | (simp [intOf]; omega) | simp [intOf]
      · rw [if_neg hjk] at f
        have b1 : (((j / 64 : Nat) : Int) == (k : Int)) = false := by rw [beq_eq_false_iff_ne]; omega
        rw [f] at c2
        generalize W0.getD j 0 = y at *
        clear f
        go_wp2_with fail
        go_roundw
        case rel => exact ⟨j + 1, by omega, by go_num, rfl⟩
        case measure => first | (simp [intOf]; omega) | simp [intOf]
    · obtain rfl : j = 192 := by omega
      go_wp2_with fail
      refine (awake_is _).mono ?_
      rintro e w8 ⟨rfl, hF8⟩
      go_wp2
      go_ret
      exact ⟨rfl, HN7.out.f.trans hF8⟩

end Go.Proofs.Ytplngfphklpicaa
