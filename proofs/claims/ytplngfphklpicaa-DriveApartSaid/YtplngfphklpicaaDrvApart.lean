/-
  A drive changes words of its own sectors alone: the walk.
-/
import Derived.Test.YtplngfphklpicaaDrvApartP
import Derived.Test.YtplngfphklpicaaDrvKeeps0
namespace Go.Proofs.Ytplngfphklpicaa
open Go.RowKit
def ApRel (w : World) (ops : List OpS) (mark : Int) (p q c ga gb gc gp : Nat) (i : Value) (wr : World) : Prop := ∃ (j : Nat) (s : NorS), j ≤ ops.length ∧ j ≤ 40 ∧ i = .int .i64 j ∧ Own w wr p q c s ∧ DrvS.Apart mark s ∧ DrvAt wr ga p DrvS.aD ∧ DrvAt wr gb p mD ∧ DrvAt wr gc p DrvS.cD ∧ DrvAt wr gp p DrvS.pD
set_option maxRecDepth 100000 in
set_option maxHeartbeats 4000000 in
theorem driveApart_is (w : World) (A : Option Addr) (cp : Nat) (ops : List OpS) (hO : OpsAt w w.heap.size A ops) (hm : (ops.length : Int) ≤ 9223372036854775807) (mark : Int) (m0 : 0 ≤ mark ∧ mark ≤ 4294967295) :
    Calls Try.prog 6 #[.slice A ops.length cp, .int .u32 mark] w fun e w' => e = .returned (.bool true) ∧ Frm NoB w w' := by
  have HO := hide hO
  have UM : Hid (U32 [mark]) := fun x hx => by
    rcases List.mem_singleton.1 hx with rfl; omega
  have M0 := hide m0
  clear hO m0
  go_enter Try.func6, Try.ntmps6
  go_wp2_with fail
  refine (own_new 5 0 (Frm.refl NoB w) (by omega) (by omega) (by omega)).mono ?_
  rintro e w1 ⟨p, q, c, rfl, hN, -, -, -⟩
  have HN := hide hN
  have HST : Hid _ := DrvS.apart_start (mark := mark) hN.n.ok M0.out.1 (by have := M0.out.2; omega)
  have hnew : (NorS.new 5 0).n = 5 := rfl
  generalize NorS.new 5 0 = s0 at *
  clear hN
  go_wp2_with fail
  refine (ownd_open 0 1 HN.out (by omega) (by rw [hnew]; decide)).mono ?_
  rintro e w2 ⟨ga, rfl, hA, hN, -, hF⟩
  have HN2 := hide hN
  have HA2 : Hid (DrvAt w2 ga p DrvS.aD) := hA
  clear hN hA hF HN
  go_wp2_with fail
  refine (ownd_open 1 3 HN2.out (by omega) (by rw [hnew]; decide)).mono ?_
  rintro e w3 ⟨gb, rfl, hB, hN, -, hF⟩
  have HN3 := hide hN
  have HA3 := hide (HA2.out.frm hF (fun e => e))
  have HB3 : Hid (DrvAt w3 gb p mD) := hB
  clear hN hB hF HN2 HA2
  go_wp2_with fail
  refine (ownd_open 4 1 HN3.out (by omega) (by rw [hnew]; decide)).mono ?_
  rintro e w4 ⟨gc, rfl, hC, hN, -, hF⟩
  have HN4 := hide hN
  have HA4 := hide (HA3.out.frm hF (fun e => e))
  have HB4 := hide (HB3.out.frm hF (fun e => e))
  have HC4 : Hid (DrvAt w4 gc p DrvS.cD) := hC
  clear hN hC hF HN3 HA3 HB3
  go_wp2_with fail
  refine (ownd_part 1 2 HN4.out HB4.out (DrvS.bD_ok hnew) (by omega) (by decide)).mono ?_
  rintro e w5 ⟨gp, rfl, hP, hN, -, hF⟩
  have HN5 := hide hN
  have HA5 := hide (HA4.out.frm hF (fun e => e))
  have HB5 := hide (HB4.out.frm hF (fun e => e))
  have HC5 := hide (HC4.out.frm hF (fun e => e))
  have HP5 : Hid (DrvAt w5 gp p DrvS.pD) := hP
  clear hN hP hF HN4 HA4 HB4 HC4
  go_wp2_with fail
  refine (ownd_write 3 [mark] HN5.out HA5.out (DrvS.aD_ok hnew) UM.out (by simp) 1 rfl _ rfl).mono ?_
  rintro e w6 ⟨he, hN, hF⟩
  rw [HST.out.1] at he
  subst he
  have HA6 := hide (HA5.out.own HN5.out hF)
  have HB6 := hide (HB5.out.own HN5.out hF)
  have HC6 := hide (HC5.out.own HN5.out hF)
  have HP6 := hide (HP5.out.own HN5.out hF)
  have HN6 := hide hN
  clear hN hF HN5 HA5 HB5 HC5 HP5
  go_wp2_with fail
  refine (ownd_write 5 [mark] HN6.out HC6.out (DrvS.cD_ok HST.out.2.1) UM.out (by simp) 1 rfl _ rfl).mono ?_
  rintro e w7 ⟨he, hN, hF⟩
  rw [HST.out.2.2.1] at he
  subst he
  have HA7 := hide (HA6.out.own HN6.out hF)
  have HB7 := hide (HB6.out.own HN6.out hF)
  have HC7 := hide (HC6.out.own HN6.out hF)
  have HP7 := hide (HP6.out.own HN6.out hF)
  have HN7 := hide hN
  have HQ : Hid (DrvS.Apart mark _) := HST.out.2.2.2
  generalize DrvS.cD.wr (DrvS.aD.wr s0 3 [mark]) 5 [mark] = s1 at *
  clear hN hF HN6 HA6 HB6 HC6 HP6 HST hnew
  go_wp2_with fail
  go_loopw [15] (fun i wr => ApRel w ops mark p q c ga gb gc gp i wr) (fun i _ => ops.length - (intOf i).toNat)
  case atStart => exact ⟨0, s1, by omega, by omega, rfl, HN7.out, HQ.out, HA7.out, HB7.out, HC7.out, HP7.out⟩
  case round =>
    obtain ⟨j, s, hj, hj40, rfl, hN, hQ, hA, hB, hC, hP⟩ := hrel
    have HN1 := hide hN
    have HA1 := hide hA; have HB1 := hide hB; have HC1 := hide hC; have HP1 := hide hP
    have HQ1 := hide hQ
    have hsz := hN.f.size
    clear hN hA hB hC hP hQ HN7 HA7 HB7 HC7 HP7 HQ
    by_cases hlt : j < ops.length
    · by_cases hlt4 : j < 40
      · obtain ⟨b, x, AL, cL, AK, cK, rfl, hb, h0, h1, h2, h3, h4, h5⟩ := (HO.out.frm HN1.out.f (fun _ _ e => e)).at_ j hlt
        have H0 := hide h0
        have q1 : Int.tmod (j : Int) 3 = ((j % 3 : Nat) : Int) := by rw [Int.tmod_eq_emod_of_nonneg (by omega)]; omega
        clear h0
        have key : ∀ (d : DrvS) (g : Nat), DrvAt wr g p d → 1 ≤ d.first → d.first + d.many ≤ 4 → 1 ≤ d.many → Calls Try.prog 27 #[.pointer (some ⟨p, 0, none⟩), .pointer (some ⟨g, 0, none⟩), opVal (ops[j]'hlt) AL cL AK cK] wr fun e w2 => ∃ E s2, e = .returned (.int .i64 E) ∧ Own w w2 p q c s2 ∧ DrvS.Apart mark s2 ∧ DrvAt w2 ga p DrvS.aD ∧ DrvAt w2 gb p mD ∧ DrvAt w2 gc p DrvS.cD ∧ DrvAt w2 gp p DrvS.pD := fun d g hg k1 k2 k3 => by
          refine (does_is hg HN1.out.n ⟨k3, by rw [HQ1.out.n]; omega⟩ H0.out HN1.out.p0 HN1.out.q0 hsz).mono ?_
          rintro e w3 ⟨rfl, hN3, hF3⟩
          exact ⟨_, _, rfl, HN1.out.step hN3 hF3, HQ1.out.does HN1.out.n.ok k1 k2 _, HA1.out.own HN1.out hF3, HB1.out.own HN1.out hF3, HC1.out.own HN1.out hF3, HP1.out.own HN1.out hF3⟩
        have KB := hide (key mD gb HB1.out (by decide) (by decide) (by decide))
        have KP := hide (key DrvS.pD gp HP1.out (by decide) (by decide) (by decide))
        clear key HN1 HA1 HB1 HC1 HP1 HQ1 H0 hsz
        obtain ⟨bb, b1⟩ : ∃ bb, (((j % 3 : Nat) : Int) == 2) = bb := ⟨_, rfl⟩
        cases bb
        · go_wp2_with fail
          refine KB.out.mono ?_
          rintro e w3 ⟨E, s2, rfl, hN, hQ, hA, hB, hC, hP⟩
          have HN3 := hide hN
          have HA3 := hide hA; have HB3 := hide hB; have HC3 := hide hC; have HP3 := hide hP
          have HQ3 := hide hQ
          have hn5 := hQ.n
          obtain ⟨dn, hdn⟩ : ∃ dn, s2.down = dn := ⟨_, rfl⟩
          have HDn := hide hdn
          clear hN hA hB hC hP hQ KB KP h1 h2 h3 h4 h5 hdn
          go_wp2_with fail
          refine (down_is HN3.out.n).mono ?_
          rw [HDn.out]
          rintro e w' ⟨rfl, rfl⟩
          cases dn
          · have L := hide (HQ3.out.looks HN3.out.n.ok HDn.out)
            go_wp2_with fail
            refine (dread_is 64 128 HB3.out HN3.out.n (DrvS.bD_ok hn5)).mono ?_
            rintro e w4 ⟨A1, cp1, h1, hR, -, -, hF⟩
            rw [L.out.x, L.out.l] at h1
            subst h1
            have HN4 := hide (HN3.out.frm hF)
            have HA4 := hide (HA3.out.frm hF (fun e => e)); have HB4 := hide (HB3.out.frm hF (fun e => e)); have HC4 := hide (HC3.out.frm hF (fun e => e)); have HP4 := hide (HP3.out.frm hF (fun e => e))
            have HR4 := hide hR
            clear hF hR HN3 HA3 HB3 HC3 HP3
            go_wp2_with fail
            refine (dread_is 0 128 HP4.out HN4.out.n (DrvS.pD_ok hn5)).mono ?_
            rintro e w5 ⟨A2, cp2, h1, hR, -, -, hF⟩
            rw [L.out.e] at h1 hR
            rw [L.out.y, L.out.l] at h1
            subst h1
            have HN5 := hide (HN4.out.frm hF)
            have HA5 := hide (HA4.out.frm hF (fun e => e)); have HB5 := hide (HB4.out.frm hF (fun e => e)); have HC5 := hide (HC4.out.frm hF (fun e => e)); have HP5 := hide (HP4.out.frm hF (fun e => e))
            have HR5 := hide hR
            have HR6 := hide (Rd.frm' HR4.out hF (fun _ _ _ e => e))
            clear hF hR HN4 HA4 HB4 HC4 HP4 HR4
            go_wp2_with fail
            refine (sameWords_self 128 _ L.out.l A1 A2 cp1 cp2 _ HR6.out HR5.out (by rw [L.out.l]; decide)).mono ?_
            rintro e w6 ⟨rfl, m6, rfl⟩
            have hF : Frm NoB w5 (w5.drewN m6) := (Frm.refl NoB w5).drewN m6
            have HN6 := hide (HN5.out.frm hF)
            have HA6 := hide (HA5.out.frm hF (fun e => e)); have HB6 := hide (HB5.out.frm hF (fun e => e)); have HC6 := hide (HC5.out.frm hF (fun e => e)); have HP6 := hide (HP5.out.frm hF (fun e => e))
            clear hF HN5 HA5 HB5 HC5 HP5 HR5 HR6
            generalize w5.drewN m6 = w6 at *
            go_wp2_with fail
            refine (ownd_reads 3 [mark] HN6.out HA6.out (DrvS.aD_ok hn5) (by simp) 1 rfl _ rfl true L.out.a).mono ?_
            rintro e w7 ⟨rfl, hN, hF⟩
            have HN7 := hide hN
            have HA7 := hide (HA6.out.frm hF (fun e => e)); have HB7 := hide (HB6.out.frm hF (fun e => e)); have HC7 := hide (HC6.out.frm hF (fun e => e)); have HP7 := hide (HP6.out.frm hF (fun e => e))
            clear hF hN HN6 HA6 HB6 HC6 HP6
            go_wp2_with fail
            refine (ownd_reads 5 [mark] HN7.out HC7.out (DrvS.cD_ok hn5) (by simp) 1 rfl _ rfl true L.out.c).mono ?_
            rintro e w8 ⟨rfl, hN, hF⟩
            have HN8 := hide hN
            have HA8 := hide (HA7.out.frm hF (fun e => e)); have HB8 := hide (HB7.out.frm hF (fun e => e)); have HC8 := hide (HC7.out.frm hF (fun e => e)); have HP8 := hide (HP7.out.frm hF (fun e => e))
            clear hF hN HN7 HA7 HB7 HC7 HP7
            go_wp2_with fail
            refine (ownd_blank 0 3 HN8.out HA8.out (DrvS.aD_ok hn5) true L.out.a1).mono ?_
            rintro e w9 ⟨rfl, hN, hF⟩
            have HN9 := hide hN
            have HA9 := hide (HA8.out.frm hF (fun e => e)); have HB9 := hide (HB8.out.frm hF (fun e => e)); have HC9 := hide (HC8.out.frm hF (fun e => e)); have HP9 := hide (HP8.out.frm hF (fun e => e))
            clear hF hN HN8 HA8 HB8 HC8 HP8
            go_wp2_with fail
            refine (ownd_blank 4 60 HN9.out HA9.out (DrvS.aD_ok hn5) true L.out.a2).mono ?_
            rintro e w10 ⟨rfl, hN, hF⟩
            have HN10 := hide hN
            have HA10 := hide (HA9.out.frm hF (fun e => e)); have HB10 := hide (HB9.out.frm hF (fun e => e)); have HC10 := hide (HC9.out.frm hF (fun e => e)); have HP10 := hide (HP9.out.frm hF (fun e => e))
            clear hF hN HN9 HA9 HB9 HC9 HP9
            go_wp2_with fail
            refine (ownd_blank 0 5 HN10.out HC10.out (DrvS.cD_ok hn5) true L.out.c1).mono ?_
            rintro e w11 ⟨rfl, hN, hF⟩
            have HN11 := hide hN
            have HA11 := hide (HA10.out.frm hF (fun e => e)); have HB11 := hide (HB10.out.frm hF (fun e => e)); have HC11 := hide (HC10.out.frm hF (fun e => e)); have HP11 := hide (HP10.out.frm hF (fun e => e))
            clear hF hN HN10 HA10 HB10 HC10 HP10
            go_wp2_with fail
            refine (ownd_blank 6 58 HN11.out HC11.out (DrvS.cD_ok hn5) true L.out.c2).mono ?_
            rintro e w12 ⟨rfl, hN, hF⟩
            have HN12 := hide hN
            have HA12 := hide (HA11.out.frm hF (fun e => e)); have HB12 := hide (HB11.out.frm hF (fun e => e)); have HC12 := hide (HC11.out.frm hF (fun e => e)); have HP12 := hide (HP11.out.frm hF (fun e => e))
            clear hF hN HN11 HA11 HB11 HC11 HP11 L
            go_wp2
            go_roundw
            case rel => exact ⟨j + 1, s2, by omega, by omega, by go_num, HN12.out, HQ3.out, HA12.out, HB12.out, HC12.out, HP12.out⟩
            case measure => simp [intOf]; omega
          · go_wp2
            go_roundw
            case rel => exact ⟨j + 1, s2, by omega, by omega, by go_num, HN3.out, HQ3.out, HA3.out, HB3.out, HC3.out, HP3.out⟩
            case measure => simp [intOf]; omega
        · go_wp2_with fail
          refine KP.out.mono ?_
          rintro e w3 ⟨E, s2, rfl, hN, hQ, hA, hB, hC, hP⟩
          have HN3 := hide hN
          have HA3 := hide hA; have HB3 := hide hB; have HC3 := hide hC; have HP3 := hide hP
          have HQ3 := hide hQ
          have hn5 := hQ.n
          obtain ⟨dn, hdn⟩ : ∃ dn, s2.down = dn := ⟨_, rfl⟩
          have HDn := hide hdn
          clear hN hA hB hC hP hQ KB KP h1 h2 h3 h4 h5 hdn
          go_wp2_with fail
          refine (down_is HN3.out.n).mono ?_
          rw [HDn.out]
          rintro e w' ⟨rfl, rfl⟩
          cases dn
          · have L := hide (HQ3.out.looks HN3.out.n.ok HDn.out)
            go_wp2_with fail
            refine (dread_is 64 128 HB3.out HN3.out.n (DrvS.bD_ok hn5)).mono ?_
            rintro e w4 ⟨A1, cp1, h1, hR, -, -, hF⟩
            rw [L.out.x, L.out.l] at h1
            subst h1
            have HN4 := hide (HN3.out.frm hF)
            have HA4 := hide (HA3.out.frm hF (fun e => e)); have HB4 := hide (HB3.out.frm hF (fun e => e)); have HC4 := hide (HC3.out.frm hF (fun e => e)); have HP4 := hide (HP3.out.frm hF (fun e => e))
            have HR4 := hide hR
            clear hF hR HN3 HA3 HB3 HC3 HP3
            go_wp2_with fail
            refine (dread_is 0 128 HP4.out HN4.out.n (DrvS.pD_ok hn5)).mono ?_
            rintro e w5 ⟨A2, cp2, h1, hR, -, -, hF⟩
            rw [L.out.e] at h1 hR
            rw [L.out.y, L.out.l] at h1
            subst h1
            have HN5 := hide (HN4.out.frm hF)
            have HA5 := hide (HA4.out.frm hF (fun e => e)); have HB5 := hide (HB4.out.frm hF (fun e => e)); have HC5 := hide (HC4.out.frm hF (fun e => e)); have HP5 := hide (HP4.out.frm hF (fun e => e))
            have HR5 := hide hR
            have HR6 := hide (Rd.frm' HR4.out hF (fun _ _ _ e => e))
            clear hF hR HN4 HA4 HB4 HC4 HP4 HR4
            go_wp2_with fail
            refine (sameWords_self 128 _ L.out.l A1 A2 cp1 cp2 _ HR6.out HR5.out (by rw [L.out.l]; decide)).mono ?_
            rintro e w6 ⟨rfl, m6, rfl⟩
            have hF : Frm NoB w5 (w5.drewN m6) := (Frm.refl NoB w5).drewN m6
            have HN6 := hide (HN5.out.frm hF)
            have HA6 := hide (HA5.out.frm hF (fun e => e)); have HB6 := hide (HB5.out.frm hF (fun e => e)); have HC6 := hide (HC5.out.frm hF (fun e => e)); have HP6 := hide (HP5.out.frm hF (fun e => e))
            clear hF HN5 HA5 HB5 HC5 HP5 HR5 HR6
            generalize w5.drewN m6 = w6 at *
            go_wp2_with fail
            refine (ownd_reads 3 [mark] HN6.out HA6.out (DrvS.aD_ok hn5) (by simp) 1 rfl _ rfl true L.out.a).mono ?_
            rintro e w7 ⟨rfl, hN, hF⟩
            have HN7 := hide hN
            have HA7 := hide (HA6.out.frm hF (fun e => e)); have HB7 := hide (HB6.out.frm hF (fun e => e)); have HC7 := hide (HC6.out.frm hF (fun e => e)); have HP7 := hide (HP6.out.frm hF (fun e => e))
            clear hF hN HN6 HA6 HB6 HC6 HP6
            go_wp2_with fail
            refine (ownd_reads 5 [mark] HN7.out HC7.out (DrvS.cD_ok hn5) (by simp) 1 rfl _ rfl true L.out.c).mono ?_
            rintro e w8 ⟨rfl, hN, hF⟩
            have HN8 := hide hN
            have HA8 := hide (HA7.out.frm hF (fun e => e)); have HB8 := hide (HB7.out.frm hF (fun e => e)); have HC8 := hide (HC7.out.frm hF (fun e => e)); have HP8 := hide (HP7.out.frm hF (fun e => e))
            clear hF hN HN7 HA7 HB7 HC7 HP7
            go_wp2_with fail
            refine (ownd_blank 0 3 HN8.out HA8.out (DrvS.aD_ok hn5) true L.out.a1).mono ?_
            rintro e w9 ⟨rfl, hN, hF⟩
            have HN9 := hide hN
            have HA9 := hide (HA8.out.frm hF (fun e => e)); have HB9 := hide (HB8.out.frm hF (fun e => e)); have HC9 := hide (HC8.out.frm hF (fun e => e)); have HP9 := hide (HP8.out.frm hF (fun e => e))
            clear hF hN HN8 HA8 HB8 HC8 HP8
            go_wp2_with fail
            refine (ownd_blank 4 60 HN9.out HA9.out (DrvS.aD_ok hn5) true L.out.a2).mono ?_
            rintro e w10 ⟨rfl, hN, hF⟩
            have HN10 := hide hN
            have HA10 := hide (HA9.out.frm hF (fun e => e)); have HB10 := hide (HB9.out.frm hF (fun e => e)); have HC10 := hide (HC9.out.frm hF (fun e => e)); have HP10 := hide (HP9.out.frm hF (fun e => e))
            clear hF hN HN9 HA9 HB9 HC9 HP9
            go_wp2_with fail
            refine (ownd_blank 0 5 HN10.out HC10.out (DrvS.cD_ok hn5) true L.out.c1).mono ?_
            rintro e w11 ⟨rfl, hN, hF⟩
            have HN11 := hide hN
            have HA11 := hide (HA10.out.frm hF (fun e => e)); have HB11 := hide (HB10.out.frm hF (fun e => e)); have HC11 := hide (HC10.out.frm hF (fun e => e)); have HP11 := hide (HP10.out.frm hF (fun e => e))
            clear hF hN HN10 HA10 HB10 HC10 HP10
            go_wp2_with fail
            refine (ownd_blank 6 58 HN11.out HC11.out (DrvS.cD_ok hn5) true L.out.c2).mono ?_
            rintro e w12 ⟨rfl, hN, hF⟩
            have HN12 := hide hN
            have HA12 := hide (HA11.out.frm hF (fun e => e)); have HB12 := hide (HB11.out.frm hF (fun e => e)); have HC12 := hide (HC11.out.frm hF (fun e => e)); have HP12 := hide (HP11.out.frm hF (fun e => e))
            clear hF hN HN11 HA11 HB11 HC11 HP11 L
            go_wp2
            go_roundw
            case rel => exact ⟨j + 1, s2, by omega, by omega, by go_num, HN12.out, HQ3.out, HA12.out, HB12.out, HC12.out, HP12.out⟩
            case measure => simp [intOf]; omega
          · go_wp2
            go_roundw
            case rel => exact ⟨j + 1, s2, by omega, by omega, by go_num, HN3.out, HQ3.out, HA3.out, HB3.out, HC3.out, HP3.out⟩
            case measure => simp [intOf]; omega
      · obtain rfl : j = 40 := by omega
        go_wp2_with fail
        refine (awake_is _).mono ?_
        rintro e w8 ⟨rfl, hF8⟩
        go_wp2
        go_ret
        exact ⟨rfl, HN1.out.f.trans hF8⟩
    · obtain rfl : j = ops.length := by omega
      go_wp2_with fail
      refine (awake_is _).mono ?_
      rintro e w8 ⟨rfl, hF8⟩
      go_wp2
      go_ret
      exact ⟨rfl, HN1.out.f.trans hF8⟩
end Go.Proofs.Ytplngfphklpicaa
