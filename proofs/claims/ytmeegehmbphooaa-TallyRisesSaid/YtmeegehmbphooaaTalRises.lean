/-
  Behind any crash the count is what it was, or one more: the walk.
-/
import Derived.Test.YtmeegehmbphooaaTalFal
import Derived.Test.YtmeegehmbphooaaTal2
namespace Go.Proofs.Ytmeegehmbphooaa
open Go.RowKit
def TrRel1 (w : World) (n : Nat) (p q c gd : Nat) (x10 x12 x13 : Value) (wr : World) : Prop := ∃ (j g : Nat) (s : NorS) (cn : Int), j ≤ n ∧ j ≤ 4 ∧ x13 = .int .i64 j ∧ x12 = .int .i64 cn ∧ x10 = .pointer (some ⟨g, 0, none⟩) ∧ OwnT w wr p q c gd g tR s ∧ RInv s cn
def TrRel2 (w : World) (p q c gd g n : Nat) (x12 x14 : Value) (wr : World) : Prop := ∃ (i : Nat) (s : NorS) (cn : Int), i ≤ n ∧ x14 = .int .i64 i ∧ x12 = .int .i64 cn ∧ OwnT w wr p q c gd g tR s ∧ RInv s cn
set_option maxRecDepth 100000 in
set_option maxHeartbeats 16000000 in
theorem tallyRises_is (w : World) (base : Int) (hb0 : 0 ≤ base) (hb1 : base < 4294967296) (A : Option Addr) (cp : Nat) (fs : List FalS) (hx : FalsAt w w.heap.size A fs) (hxm : (fs.length : Int) ≤ 9223372036854775807) :
    Calls Try.prog 6 #[.int .u32 base, .slice A fs.length cp] w fun e w' => e = .returned (.bool true) ∧ Frm NoB w w' := by
  have HX := hide hx
  clear hx
  obtain ⟨b, hb⟩ : ∃ b : Nat, base % 2147483648 = b := ⟨(base % 2147483648).toNat, by omega⟩
  have hb' : Int.tmod base 2147483648 = (b : Int) := by rw [Int.tmod_eq_emod_of_nonneg hb0]; exact hb
  have hb2 : b < 2147483648 := by omega
  go_enter Try.func6, Try.ntmps6
  go_wp2_with fail
  refine (own_new 2 2 (Frm.refl NoB w) (by omega) (by omega) (by omega)).mono ?_
  rintro e w1 ⟨p, q, c, rfl, hN, -, -, -⟩
  have HN : Hid (Own w w1 p q c tr0) := hN
  clear hN
  go_wp2_with fail
  refine (ownd_open 0 2 HN.out (by omega) (by decide)).mono ?_
  rintro e w2 ⟨gd, rfl, hG, hN, -, -⟩
  have HN2 : Hid (Own w w2 p q c tr0) := hN
  have HG2 : Hid (DrvAt w2 gd p tR) := hG
  clear hG hN HN
  rcases Nat.eq_zero_or_pos b with hz | hp
  case inl =>
    subst hz
    have HS : Hid (RInv tr0 ((0 : Nat) : Int)) := rinv0
    have HNS : Hid (∃ (wS : World) (sS : NorS), wS = w2 ∧ sS = tr0) := ⟨_, _, rfl, rfl⟩
    go_wp2_with fail
    obtain ⟨wS, hwS⟩ : ∃ x, x = w2 := ⟨_, rfl⟩
    obtain ⟨sS, hsS⟩ : ∃ x, x = tr0 := ⟨_, rfl⟩
    rw [← hwS, ← hsS] at HN2
    rw [← hwS] at HG2 ⊢
    rw [← hsS] at HS
    clear hwS hsS HNS
    refine (ownt_open HN2.out HG2.out HS.out.dk rfl HS.out.c.dn).mono ?_
    rintro e w4 ⟨g, rfl, hT, -, -⟩
    have HT := hide hT
    clear hT HN2 HG2
    go_wp2_with fail
    refine (ownt_count HT.out).mono ?_
    rintro e w' ⟨he, rfl⟩
    rw [HS.out.l] at he
    subst he
    go_wp2_with fail
    go_loopw [10, 12, 13] (fun x10 x12 x13 wr => TrRel1 w fs.length p q c gd x10 x12 x13 wr) (fun _ _ i _ => fs.length - (intOf i).toNat)
    case atStart => exact ⟨0, g, sS, _, by omega, by omega, rfl, rfl, rfl, HT.out, HS.out⟩
    case round =>
      clear HT HS
      obtain ⟨j, g1, s, cn, hj, hj4, rfl, rfl, rfl, hT, hI⟩ := hrel
      have HT := hide hT
      have HI := hide hI
      obtain ⟨wo, rfl⟩ : ∃ wo : World, wo = wr := ⟨_, rfl⟩
      clear hT hI
      by_cases hlt : j < fs.length
      · by_cases hlt4 : j < 4
        · obtain ⟨bk, o, AK, cK, rfl, hbk, hF0, c0, c1, c2⟩ := HX.out.at_ j hlt
          obtain ⟨fj, hfj⟩ : ∃ f, fs[j]'hlt = f := ⟨_, rfl⟩
          rw [hfj] at hF0 c0 c1 c2
          clear hfj
          obtain ⟨ah, ar, ks⟩ := fj
          have hah0 := hF0.a0; have hah1 := hF0.a1; have har0 := hF0.m0
          simp only at hah0 hah1 har0 c0 c1 c2
          obtain ⟨n, hn⟩ : ∃ n : Nat, ah % 1991 = n := ⟨(ah % 1991).toNat, by omega⟩
          have hn' : Int.tmod ah 1991 = (n : Int) := by rw [Int.tmod_eq_emod_of_nonneg hah0]; exact hn
          have hn4 : n < 1991 := by omega
          obtain ⟨m, hm⟩ : ∃ m : Nat, ar % 5 = m := ⟨(ar % 5).toNat, by omega⟩
          have hm' : Int.tmod ar 5 = (m : Int) := by rw [Int.tmod_eq_emod_of_nonneg har0]; exact hm
          have hm4 : m ≤ 4 := by omega
          have HB : Hid (∀ W, Frm NoB w W → W.cell? ⟨bk, o + j * 3, none⟩ = some (.int .u16 ah) ∧ W.cell? ⟨bk, o + j * 3 + 1, none⟩ = some (.int .u8 ar) ∧ W.cell? ⟨bk, o + j * 3 + 2, none⟩ = some (.slice AK ks.length cK) ∧ FalIs W w.heap.size ⟨ah, ar, ks⟩ AK cK) := fun W hf => by
            have hc : ∀ {n : Nat} {v : Value}, w.cell? ⟨bk, n, none⟩ = some v → W.cell? ⟨bk, n, none⟩ = some v := fun {n v} hv => by
              rw [hf.cell (World.block_lt_of_cell? w _ hv) (fun e => e)]; exact hv
            exact ⟨hc c0, hc c1, hc c2, hF0.frm hf (fun _ _ e => e)⟩
          have i0 : (0 : Int) ≤ (j : Int) := by omega
          have i1 : (j : Int) < (fs.length : Int) := by omega
          have t4 : decide ((j : Int) < 4) = true := decide_eq_true (by omega)
          clear c0 c1 c2 hF0 hm hn
          go_wp2_with fail
          go_loopw [12, 14] (fun x12 x14 wr => TrRel2 w p q c gd g1 n x12 x14 wr) (fun _ i _ => n - (intOf i).toNat)
          case atStart => exact ⟨0, s, cn, by omega, rfl, rfl, HT.out, HI.out⟩
          case round =>
            clear HT HI
            obtain ⟨i, s1, cn1, hi, rfl, rfl, hT, hI⟩ := hrel
            have HT := hide hT
            have HI := hide hI
            have hcz := hI.z
            have hcm := hI.m
            have cx := (HB.out wr hT.o.f).1
            clear hT hI
            by_cases hin : i < n
            · by_cases hcl : cn1 < 2147483648
              · have HST := hide (HI.out.step hcl)
                have tcl : decide (cn1 < 2147483648) = true := decide_eq_true hcl
                go_wp2_with fail
                refine (ownt_step HT.out HST.out.1).mono ?_
                rintro e w5 ⟨rfl, hT2, -⟩
                have HT2 := hide hT2
                clear hT2 cx
                go_wp2_with fail
                refine (ownt_count HT2.out).mono ?_
                rintro e w' ⟨he, rfl⟩
                rw [HST.out.2.l] at he
                subst he
                go_wp2
                go_roundw
                case rel => exact ⟨i + 1, _, cn1 + 1, by omega, by go_num, by go_num, HT2.out, HST.out.2⟩
                case measure => simp [intOf]; omega
              · have tcl : decide (cn1 < 2147483648) = false := decide_eq_false hcl
                have cy := (HB.out wr HT.out.o.f).2.1
                go_wp2_with fail
                refine (ownt_arm (m : Int) HT.out (by omega)).mono ?_
                rintro e w5 ⟨rfl, hT2⟩
                have HT2 := hide hT2
                have HOK := hide hT2.o.n.ok
                clear hT2 cy
                go_wp2_with fail
                refine (ownt_fall HT2.out).mono ?_
                rintro e w6 ⟨he, hN, hG⟩
                obtain ⟨E, hE⟩ : ∃ E, (tR.stp (s1.arms m)).2 = E := ⟨_, rfl⟩
                rw [hE] at he
                subst he
                have cz := (HB.out w6 hN.f).2.2.1
                have HFK := hide (HB.out w6 hN.f).2.2.2
                have HN := hide hN
                have HG := hide hG
                clear hN hG HT2 HT
                by_cases hE0 : E = 0
                · subst hE0
                  have hE := hide hE
                  go_wp2_with fail
                  refine (owndr_crash AK cK ks HN.out HG.out HFK.out.rk HFK.out.bk HFK.out.kl).mono ?_
                  rintro e w7 ⟨rfl, hN2, hG2⟩
                  obtain ⟨c', hI', l1, l2, l3⟩ := HI.out.fall hm4 HOK.out ks hN2.n.ok
                  have hc' := l3 hE.out
                  subst hc'
                  have HN2 := hide hN2
                  have HG2 := hide hG2
                  have HI2 := hide hI'
                  clear hN2 hG2 hI' HI HB HX HN HG hE HOK l1 l2 l3
                  generalize (tR.stp (s1.arms m)).1.crash ks = s2 at HN2 HG2 HI2
                  go_wp2_with fail
                  refine (ownt_open HN2.out HG2.out HI2.out.dk rfl HI2.out.c.dn).mono ?_
                  rintro e w8 ⟨g2, rfl, hT3, -, -⟩
                  have HT3 := hide hT3
                  clear hT3 HN2 HG2
                  go_wp2_with fail
                  refine (ownt_count HT3.out).mono ?_
                  rintro e w' ⟨he, rfl⟩
                  rw [HI2.out.l] at he
                  subst he
                  go_wp2_with fail
                  refine (ownt_count HT3.out).mono ?_
                  rintro e w' ⟨he, rfl⟩
                  rw [HI2.out.l] at he
                  subst he
                  go_wp2_with fail
                  refine (ownt_count HT3.out).mono ?_
                  rintro e w' ⟨he, rfl⟩
                  rw [HI2.out.l] at he
                  subst he
                  go_wp2_with fail
                  refine (ownt_count HT3.out).mono ?_
                  rintro e w' ⟨he, rfl⟩
                  rw [HI2.out.l] at he
                  subst he
                  go_wp2
                  go_roundw
                  case rel => exact ⟨j + 1, g2, _, cn1 + 1, by omega, by omega, by go_num, by go_num, rfl, HT3.out, HI2.out⟩
                  case measure => simp [intOf]; omega
                · have tE : (E == 0) = false := by simpa using hE0
                  have hE := hide hE
                  go_wp2_with fail
                  refine (owndr_crash AK cK ks HN.out HG.out HFK.out.rk HFK.out.bk HFK.out.kl).mono ?_
                  rintro e w7 ⟨rfl, hN2, hG2⟩
                  obtain ⟨c', hI', l1, l2, l3⟩ := HI.out.fall hm4 HOK.out ks hN2.n.ok
                  rcases (by omega : c' = cn1 ∨ c' = cn1 + 1) with hc' | hc'
                  · subst hc'
                    have HN2 := hide hN2
                    have HG2 := hide hG2
                    have HI2 := hide hI'
                    clear hN2 hG2 hI' HI HB HX HN HG hE HOK l1 l2 l3
                    generalize (tR.stp (s1.arms m)).1.crash ks = s2 at HN2 HG2 HI2
                    go_wp2_with fail
                    refine (ownt_open HN2.out HG2.out HI2.out.dk rfl HI2.out.c.dn).mono ?_
                    rintro e w8 ⟨g2, rfl, hT3, -, -⟩
                    have HT3 := hide hT3
                    clear hT3 HN2 HG2
                    go_wp2_with fail
                    refine (ownt_count HT3.out).mono ?_
                    rintro e w' ⟨he, rfl⟩
                    rw [HI2.out.l] at he
                    subst he
                    go_wp2_with fail
                    refine (ownt_count HT3.out).mono ?_
                    rintro e w' ⟨he, rfl⟩
                    rw [HI2.out.l] at he
                    subst he
                    go_wp2_with fail
                    refine (ownt_count HT3.out).mono ?_
                    rintro e w' ⟨he, rfl⟩
                    rw [HI2.out.l] at he
                    subst he
                    go_wp2_with fail
                    refine (ownt_count HT3.out).mono ?_
                    rintro e w' ⟨he, rfl⟩
                    rw [HI2.out.l] at he
                    subst he
                    go_wp2
                    go_roundw
                    case rel => exact ⟨j + 1, g2, _, c', by omega, by omega, by go_num, by go_num, rfl, HT3.out, HI2.out⟩
                    case measure => simp [intOf]; omega
                  · subst hc'
                    have HN2 := hide hN2
                    have HG2 := hide hG2
                    have HI2 := hide hI'
                    clear hN2 hG2 hI' HI HB HX HN HG hE HOK l1 l2 l3
                    generalize (tR.stp (s1.arms m)).1.crash ks = s2 at HN2 HG2 HI2
                    go_wp2_with fail
                    refine (ownt_open HN2.out HG2.out HI2.out.dk rfl HI2.out.c.dn).mono ?_
                    rintro e w8 ⟨g2, rfl, hT3, -, -⟩
                    have HT3 := hide hT3
                    clear hT3 HN2 HG2
                    go_wp2_with fail
                    refine (ownt_count HT3.out).mono ?_
                    rintro e w' ⟨he, rfl⟩
                    rw [HI2.out.l] at he
                    subst he
                    go_wp2_with fail
                    refine (ownt_count HT3.out).mono ?_
                    rintro e w' ⟨he, rfl⟩
                    rw [HI2.out.l] at he
                    subst he
                    go_wp2_with fail
                    refine (ownt_count HT3.out).mono ?_
                    rintro e w' ⟨he, rfl⟩
                    rw [HI2.out.l] at he
                    subst he
                    go_wp2_with fail
                    refine (ownt_count HT3.out).mono ?_
                    rintro e w' ⟨he, rfl⟩
                    rw [HI2.out.l] at he
                    subst he
                    go_wp2
                    go_roundw
                    case rel => exact ⟨j + 1, g2, _, cn1 + 1, by omega, by omega, by go_num, by go_num, rfl, HT3.out, HI2.out⟩
                    case measure => simp [intOf]; omega
            · obtain rfl : i = n := by omega
              have cy := (HB.out wr HT.out.o.f).2.1
              go_wp2_with fail
              refine (ownt_arm (m : Int) HT.out (by omega)).mono ?_
              rintro e w5 ⟨rfl, hT2⟩
              have HT2 := hide hT2
              have HOK := hide hT2.o.n.ok
              clear hT2 cy
              go_wp2_with fail
              refine (ownt_fall HT2.out).mono ?_
              rintro e w6 ⟨he, hN, hG⟩
              obtain ⟨E, hE⟩ : ∃ E, (tR.stp (s1.arms m)).2 = E := ⟨_, rfl⟩
              rw [hE] at he
              subst he
              have cz := (HB.out w6 hN.f).2.2.1
              have HFK := hide (HB.out w6 hN.f).2.2.2
              have HN := hide hN
              have HG := hide hG
              clear hN hG HT2 HT
              by_cases hE0 : E = 0
              · subst hE0
                have hE := hide hE
                go_wp2_with fail
                refine (owndr_crash AK cK ks HN.out HG.out HFK.out.rk HFK.out.bk HFK.out.kl).mono ?_
                rintro e w7 ⟨rfl, hN2, hG2⟩
                obtain ⟨c', hI', l1, l2, l3⟩ := HI.out.fall hm4 HOK.out ks hN2.n.ok
                have hc' := l3 hE.out
                subst hc'
                have HN2 := hide hN2
                have HG2 := hide hG2
                have HI2 := hide hI'
                clear hN2 hG2 hI' HI HB HX HN HG hE HOK l1 l2 l3
                generalize (tR.stp (s1.arms m)).1.crash ks = s2 at HN2 HG2 HI2
                go_wp2_with fail
                refine (ownt_open HN2.out HG2.out HI2.out.dk rfl HI2.out.c.dn).mono ?_
                rintro e w8 ⟨g2, rfl, hT3, -, -⟩
                have HT3 := hide hT3
                clear hT3 HN2 HG2
                go_wp2_with fail
                refine (ownt_count HT3.out).mono ?_
                rintro e w' ⟨he, rfl⟩
                rw [HI2.out.l] at he
                subst he
                go_wp2_with fail
                refine (ownt_count HT3.out).mono ?_
                rintro e w' ⟨he, rfl⟩
                rw [HI2.out.l] at he
                subst he
                go_wp2_with fail
                refine (ownt_count HT3.out).mono ?_
                rintro e w' ⟨he, rfl⟩
                rw [HI2.out.l] at he
                subst he
                go_wp2_with fail
                refine (ownt_count HT3.out).mono ?_
                rintro e w' ⟨he, rfl⟩
                rw [HI2.out.l] at he
                subst he
                go_wp2
                go_roundw
                case rel => exact ⟨j + 1, g2, _, cn1 + 1, by omega, by omega, by go_num, by go_num, rfl, HT3.out, HI2.out⟩
                case measure => simp [intOf]; omega
              · have tE : (E == 0) = false := by simpa using hE0
                have hE := hide hE
                go_wp2_with fail
                refine (owndr_crash AK cK ks HN.out HG.out HFK.out.rk HFK.out.bk HFK.out.kl).mono ?_
                rintro e w7 ⟨rfl, hN2, hG2⟩
                obtain ⟨c', hI', l1, l2, l3⟩ := HI.out.fall hm4 HOK.out ks hN2.n.ok
                rcases (by omega : c' = cn1 ∨ c' = cn1 + 1) with hc' | hc'
                · subst hc'
                  have HN2 := hide hN2
                  have HG2 := hide hG2
                  have HI2 := hide hI'
                  clear hN2 hG2 hI' HI HB HX HN HG hE HOK l1 l2 l3
                  generalize (tR.stp (s1.arms m)).1.crash ks = s2 at HN2 HG2 HI2
                  go_wp2_with fail
                  refine (ownt_open HN2.out HG2.out HI2.out.dk rfl HI2.out.c.dn).mono ?_
                  rintro e w8 ⟨g2, rfl, hT3, -, -⟩
                  have HT3 := hide hT3
                  clear hT3 HN2 HG2
                  go_wp2_with fail
                  refine (ownt_count HT3.out).mono ?_
                  rintro e w' ⟨he, rfl⟩
                  rw [HI2.out.l] at he
                  subst he
                  go_wp2_with fail
                  refine (ownt_count HT3.out).mono ?_
                  rintro e w' ⟨he, rfl⟩
                  rw [HI2.out.l] at he
                  subst he
                  go_wp2_with fail
                  refine (ownt_count HT3.out).mono ?_
                  rintro e w' ⟨he, rfl⟩
                  rw [HI2.out.l] at he
                  subst he
                  go_wp2_with fail
                  refine (ownt_count HT3.out).mono ?_
                  rintro e w' ⟨he, rfl⟩
                  rw [HI2.out.l] at he
                  subst he
                  go_wp2
                  go_roundw
                  case rel => exact ⟨j + 1, g2, _, c', by omega, by omega, by go_num, by go_num, rfl, HT3.out, HI2.out⟩
                  case measure => simp [intOf]; omega
                · subst hc'
                  have HN2 := hide hN2
                  have HG2 := hide hG2
                  have HI2 := hide hI'
                  clear hN2 hG2 hI' HI HB HX HN HG hE HOK l1 l2 l3
                  generalize (tR.stp (s1.arms m)).1.crash ks = s2 at HN2 HG2 HI2
                  go_wp2_with fail
                  refine (ownt_open HN2.out HG2.out HI2.out.dk rfl HI2.out.c.dn).mono ?_
                  rintro e w8 ⟨g2, rfl, hT3, -, -⟩
                  have HT3 := hide hT3
                  clear hT3 HN2 HG2
                  go_wp2_with fail
                  refine (ownt_count HT3.out).mono ?_
                  rintro e w' ⟨he, rfl⟩
                  rw [HI2.out.l] at he
                  subst he
                  go_wp2_with fail
                  refine (ownt_count HT3.out).mono ?_
                  rintro e w' ⟨he, rfl⟩
                  rw [HI2.out.l] at he
                  subst he
                  go_wp2_with fail
                  refine (ownt_count HT3.out).mono ?_
                  rintro e w' ⟨he, rfl⟩
                  rw [HI2.out.l] at he
                  subst he
                  go_wp2_with fail
                  refine (ownt_count HT3.out).mono ?_
                  rintro e w' ⟨he, rfl⟩
                  rw [HI2.out.l] at he
                  subst he
                  go_wp2
                  go_roundw
                  case rel => exact ⟨j + 1, g2, _, cn1 + 1, by omega, by omega, by go_num, by go_num, rfl, HT3.out, HI2.out⟩
                  case measure => simp [intOf]; omega
        · obtain rfl : j = 4 := by omega
          go_wp2_with fail
          refine (awake_is _).mono ?_
          rintro e wz ⟨rfl, hz⟩
          go_wp2
          go_ret
          exact ⟨rfl, HT.out.o.f.trans hz⟩
      · obtain rfl : j = fs.length := by omega
        go_wp2_with fail
        refine (awake_is _).mono ?_
        rintro e wz ⟨rfl, hz⟩
        go_wp2
        go_ret
        exact ⟨rfl, HT.out.o.f.trans hz⟩
  case inr =>
    have hp' : 0 < (b : Int) := by omega
    have tpos : decide (0 < (b : Int)) = true := decide_eq_true hp'
    have tpos' : decide ((b : Int) > 0) = true := decide_eq_true hp'
    have xb : Value.int .u32 (bits .xor .u32 (if IntKind.u32.signed = true then -1 else IntKind.u32.max) (b : Int)) = Value.int .u32 (4294967295 - (b : Int)) := by rw [xor_not (by omega) (by omega)]
    have hRB := rinvB hp' (show (b : Int) < 2147483648 by omega)
    have HE := hide hRB.1
    have HS := hide hRB.2
    clear hRB
    go_wp2_with fail
    refine (ownd_write 0 [(b : Int), 4294967295 - b] HN2.out HG2.out tR_ok (by intro x hx; simp at hx; omega) (by simp) _ rfl _ rfl).mono ?_
    rintro e w3 ⟨he, hN, hF⟩
    rw [HE.out] at he
    subst he
    have HN3 := hide hN
    have hne2 := HG2.out.ne HN2.out.n
    have HG3 := hide (HG2.out.frm hF (fun e => e.elim hne2.1 hne2.2))
    clear hne2
    clear hN hF HN2 HG2
    go_wp2_with fail
    obtain ⟨sS, hsS⟩ : ∃ x, x = tR.wr tr0 0 [(b : Int), 4294967295 - b] := ⟨_, rfl⟩
    rw [← hsS] at HN3 HS
    clear hsS HE
    have HN2 := HN3
    have HG2 := HG3
    clear HN3 HG3
    refine (ownt_open HN2.out HG2.out HS.out.dk rfl HS.out.c.dn).mono ?_
    rintro e w4 ⟨g, rfl, hT, -, -⟩
    have HT := hide hT
    clear hT HN2 HG2
    go_wp2_with fail
    refine (ownt_count HT.out).mono ?_
    rintro e w' ⟨he, rfl⟩
    rw [HS.out.l] at he
    subst he
    go_wp2_with fail
    go_loopw [10, 12, 13] (fun x10 x12 x13 wr => TrRel1 w fs.length p q c gd x10 x12 x13 wr) (fun _ _ i _ => fs.length - (intOf i).toNat)
    case atStart => exact ⟨0, g, sS, _, by omega, by omega, rfl, rfl, rfl, HT.out, HS.out⟩
    case round =>
      clear HT HS
      obtain ⟨j, g1, s, cn, hj, hj4, rfl, rfl, rfl, hT, hI⟩ := hrel
      have HT := hide hT
      have HI := hide hI
      obtain ⟨wo, rfl⟩ : ∃ wo : World, wo = wr := ⟨_, rfl⟩
      clear hT hI
      by_cases hlt : j < fs.length
      · by_cases hlt4 : j < 4
        · obtain ⟨bk, o, AK, cK, rfl, hbk, hF0, c0, c1, c2⟩ := HX.out.at_ j hlt
          obtain ⟨fj, hfj⟩ : ∃ f, fs[j]'hlt = f := ⟨_, rfl⟩
          rw [hfj] at hF0 c0 c1 c2
          clear hfj
          obtain ⟨ah, ar, ks⟩ := fj
          have hah0 := hF0.a0; have hah1 := hF0.a1; have har0 := hF0.m0
          simp only at hah0 hah1 har0 c0 c1 c2
          obtain ⟨n, hn⟩ : ∃ n : Nat, ah % 1991 = n := ⟨(ah % 1991).toNat, by omega⟩
          have hn' : Int.tmod ah 1991 = (n : Int) := by rw [Int.tmod_eq_emod_of_nonneg hah0]; exact hn
          have hn4 : n < 1991 := by omega
          obtain ⟨m, hm⟩ : ∃ m : Nat, ar % 5 = m := ⟨(ar % 5).toNat, by omega⟩
          have hm' : Int.tmod ar 5 = (m : Int) := by rw [Int.tmod_eq_emod_of_nonneg har0]; exact hm
          have hm4 : m ≤ 4 := by omega
          have HB : Hid (∀ W, Frm NoB w W → W.cell? ⟨bk, o + j * 3, none⟩ = some (.int .u16 ah) ∧ W.cell? ⟨bk, o + j * 3 + 1, none⟩ = some (.int .u8 ar) ∧ W.cell? ⟨bk, o + j * 3 + 2, none⟩ = some (.slice AK ks.length cK) ∧ FalIs W w.heap.size ⟨ah, ar, ks⟩ AK cK) := fun W hf => by
            have hc : ∀ {n : Nat} {v : Value}, w.cell? ⟨bk, n, none⟩ = some v → W.cell? ⟨bk, n, none⟩ = some v := fun {n v} hv => by
              rw [hf.cell (World.block_lt_of_cell? w _ hv) (fun e => e)]; exact hv
            exact ⟨hc c0, hc c1, hc c2, hF0.frm hf (fun _ _ e => e)⟩
          have i0 : (0 : Int) ≤ (j : Int) := by omega
          have i1 : (j : Int) < (fs.length : Int) := by omega
          have t4 : decide ((j : Int) < 4) = true := decide_eq_true (by omega)
          clear c0 c1 c2 hF0 hm hn
          go_wp2_with fail
          go_loopw [12, 14] (fun x12 x14 wr => TrRel2 w p q c gd g1 n x12 x14 wr) (fun _ i _ => n - (intOf i).toNat)
          case atStart => exact ⟨0, s, cn, by omega, rfl, rfl, HT.out, HI.out⟩
          case round =>
            clear HT HI
            obtain ⟨i, s1, cn1, hi, rfl, rfl, hT, hI⟩ := hrel
            have HT := hide hT
            have HI := hide hI
            have hcz := hI.z
            have hcm := hI.m
            have cx := (HB.out wr hT.o.f).1
            clear hT hI
            by_cases hin : i < n
            · by_cases hcl : cn1 < 2147483648
              · have HST := hide (HI.out.step hcl)
                have tcl : decide (cn1 < 2147483648) = true := decide_eq_true hcl
                go_wp2_with fail
                refine (ownt_step HT.out HST.out.1).mono ?_
                rintro e w5 ⟨rfl, hT2, -⟩
                have HT2 := hide hT2
                clear hT2 cx
                go_wp2_with fail
                refine (ownt_count HT2.out).mono ?_
                rintro e w' ⟨he, rfl⟩
                rw [HST.out.2.l] at he
                subst he
                go_wp2
                go_roundw
                case rel => exact ⟨i + 1, _, cn1 + 1, by omega, by go_num, by go_num, HT2.out, HST.out.2⟩
                case measure => simp [intOf]; omega
              · have tcl : decide (cn1 < 2147483648) = false := decide_eq_false hcl
                have cy := (HB.out wr HT.out.o.f).2.1
                go_wp2_with fail
                refine (ownt_arm (m : Int) HT.out (by omega)).mono ?_
                rintro e w5 ⟨rfl, hT2⟩
                have HT2 := hide hT2
                have HOK := hide hT2.o.n.ok
                clear hT2 cy
                go_wp2_with fail
                refine (ownt_fall HT2.out).mono ?_
                rintro e w6 ⟨he, hN, hG⟩
                obtain ⟨E, hE⟩ : ∃ E, (tR.stp (s1.arms m)).2 = E := ⟨_, rfl⟩
                rw [hE] at he
                subst he
                have cz := (HB.out w6 hN.f).2.2.1
                have HFK := hide (HB.out w6 hN.f).2.2.2
                have HN := hide hN
                have HG := hide hG
                clear hN hG HT2 HT
                by_cases hE0 : E = 0
                · subst hE0
                  have hE := hide hE
                  go_wp2_with fail
                  refine (owndr_crash AK cK ks HN.out HG.out HFK.out.rk HFK.out.bk HFK.out.kl).mono ?_
                  rintro e w7 ⟨rfl, hN2, hG2⟩
                  obtain ⟨c', hI', l1, l2, l3⟩ := HI.out.fall hm4 HOK.out ks hN2.n.ok
                  have hc' := l3 hE.out
                  subst hc'
                  have HN2 := hide hN2
                  have HG2 := hide hG2
                  have HI2 := hide hI'
                  clear hN2 hG2 hI' HI HB HX HN HG hE HOK l1 l2 l3
                  generalize (tR.stp (s1.arms m)).1.crash ks = s2 at HN2 HG2 HI2
                  go_wp2_with fail
                  refine (ownt_open HN2.out HG2.out HI2.out.dk rfl HI2.out.c.dn).mono ?_
                  rintro e w8 ⟨g2, rfl, hT3, -, -⟩
                  have HT3 := hide hT3
                  clear hT3 HN2 HG2
                  go_wp2_with fail
                  refine (ownt_count HT3.out).mono ?_
                  rintro e w' ⟨he, rfl⟩
                  rw [HI2.out.l] at he
                  subst he
                  go_wp2_with fail
                  refine (ownt_count HT3.out).mono ?_
                  rintro e w' ⟨he, rfl⟩
                  rw [HI2.out.l] at he
                  subst he
                  go_wp2_with fail
                  refine (ownt_count HT3.out).mono ?_
                  rintro e w' ⟨he, rfl⟩
                  rw [HI2.out.l] at he
                  subst he
                  go_wp2_with fail
                  refine (ownt_count HT3.out).mono ?_
                  rintro e w' ⟨he, rfl⟩
                  rw [HI2.out.l] at he
                  subst he
                  go_wp2
                  go_roundw
                  case rel => exact ⟨j + 1, g2, _, cn1 + 1, by omega, by omega, by go_num, by go_num, rfl, HT3.out, HI2.out⟩
                  case measure => simp [intOf]; omega
                · have tE : (E == 0) = false := by simpa using hE0
                  have hE := hide hE
                  go_wp2_with fail
                  refine (owndr_crash AK cK ks HN.out HG.out HFK.out.rk HFK.out.bk HFK.out.kl).mono ?_
                  rintro e w7 ⟨rfl, hN2, hG2⟩
                  obtain ⟨c', hI', l1, l2, l3⟩ := HI.out.fall hm4 HOK.out ks hN2.n.ok
                  rcases (by omega : c' = cn1 ∨ c' = cn1 + 1) with hc' | hc'
                  · subst hc'
                    have HN2 := hide hN2
                    have HG2 := hide hG2
                    have HI2 := hide hI'
                    clear hN2 hG2 hI' HI HB HX HN HG hE HOK l1 l2 l3
                    generalize (tR.stp (s1.arms m)).1.crash ks = s2 at HN2 HG2 HI2
                    go_wp2_with fail
                    refine (ownt_open HN2.out HG2.out HI2.out.dk rfl HI2.out.c.dn).mono ?_
                    rintro e w8 ⟨g2, rfl, hT3, -, -⟩
                    have HT3 := hide hT3
                    clear hT3 HN2 HG2
                    go_wp2_with fail
                    refine (ownt_count HT3.out).mono ?_
                    rintro e w' ⟨he, rfl⟩
                    rw [HI2.out.l] at he
                    subst he
                    go_wp2_with fail
                    refine (ownt_count HT3.out).mono ?_
                    rintro e w' ⟨he, rfl⟩
                    rw [HI2.out.l] at he
                    subst he
                    go_wp2_with fail
                    refine (ownt_count HT3.out).mono ?_
                    rintro e w' ⟨he, rfl⟩
                    rw [HI2.out.l] at he
                    subst he
                    go_wp2_with fail
                    refine (ownt_count HT3.out).mono ?_
                    rintro e w' ⟨he, rfl⟩
                    rw [HI2.out.l] at he
                    subst he
                    go_wp2
                    go_roundw
                    case rel => exact ⟨j + 1, g2, _, c', by omega, by omega, by go_num, by go_num, rfl, HT3.out, HI2.out⟩
                    case measure => simp [intOf]; omega
                  · subst hc'
                    have HN2 := hide hN2
                    have HG2 := hide hG2
                    have HI2 := hide hI'
                    clear hN2 hG2 hI' HI HB HX HN HG hE HOK l1 l2 l3
                    generalize (tR.stp (s1.arms m)).1.crash ks = s2 at HN2 HG2 HI2
                    go_wp2_with fail
                    refine (ownt_open HN2.out HG2.out HI2.out.dk rfl HI2.out.c.dn).mono ?_
                    rintro e w8 ⟨g2, rfl, hT3, -, -⟩
                    have HT3 := hide hT3
                    clear hT3 HN2 HG2
                    go_wp2_with fail
                    refine (ownt_count HT3.out).mono ?_
                    rintro e w' ⟨he, rfl⟩
                    rw [HI2.out.l] at he
                    subst he
                    go_wp2_with fail
                    refine (ownt_count HT3.out).mono ?_
                    rintro e w' ⟨he, rfl⟩
                    rw [HI2.out.l] at he
                    subst he
                    go_wp2_with fail
                    refine (ownt_count HT3.out).mono ?_
                    rintro e w' ⟨he, rfl⟩
                    rw [HI2.out.l] at he
                    subst he
                    go_wp2_with fail
                    refine (ownt_count HT3.out).mono ?_
                    rintro e w' ⟨he, rfl⟩
                    rw [HI2.out.l] at he
                    subst he
                    go_wp2
                    go_roundw
                    case rel => exact ⟨j + 1, g2, _, cn1 + 1, by omega, by omega, by go_num, by go_num, rfl, HT3.out, HI2.out⟩
                    case measure => simp [intOf]; omega
            · obtain rfl : i = n := by omega
              have cy := (HB.out wr HT.out.o.f).2.1
              go_wp2_with fail
              refine (ownt_arm (m : Int) HT.out (by omega)).mono ?_
              rintro e w5 ⟨rfl, hT2⟩
              have HT2 := hide hT2
              have HOK := hide hT2.o.n.ok
              clear hT2 cy
              go_wp2_with fail
              refine (ownt_fall HT2.out).mono ?_
              rintro e w6 ⟨he, hN, hG⟩
              obtain ⟨E, hE⟩ : ∃ E, (tR.stp (s1.arms m)).2 = E := ⟨_, rfl⟩
              rw [hE] at he
              subst he
              have cz := (HB.out w6 hN.f).2.2.1
              have HFK := hide (HB.out w6 hN.f).2.2.2
              have HN := hide hN
              have HG := hide hG
              clear hN hG HT2 HT
              by_cases hE0 : E = 0
              · subst hE0
                have hE := hide hE
                go_wp2_with fail
                refine (owndr_crash AK cK ks HN.out HG.out HFK.out.rk HFK.out.bk HFK.out.kl).mono ?_
                rintro e w7 ⟨rfl, hN2, hG2⟩
                obtain ⟨c', hI', l1, l2, l3⟩ := HI.out.fall hm4 HOK.out ks hN2.n.ok
                have hc' := l3 hE.out
                subst hc'
                have HN2 := hide hN2
                have HG2 := hide hG2
                have HI2 := hide hI'
                clear hN2 hG2 hI' HI HB HX HN HG hE HOK l1 l2 l3
                generalize (tR.stp (s1.arms m)).1.crash ks = s2 at HN2 HG2 HI2
                go_wp2_with fail
                refine (ownt_open HN2.out HG2.out HI2.out.dk rfl HI2.out.c.dn).mono ?_
                rintro e w8 ⟨g2, rfl, hT3, -, -⟩
                have HT3 := hide hT3
                clear hT3 HN2 HG2
                go_wp2_with fail
                refine (ownt_count HT3.out).mono ?_
                rintro e w' ⟨he, rfl⟩
                rw [HI2.out.l] at he
                subst he
                go_wp2_with fail
                refine (ownt_count HT3.out).mono ?_
                rintro e w' ⟨he, rfl⟩
                rw [HI2.out.l] at he
                subst he
                go_wp2_with fail
                refine (ownt_count HT3.out).mono ?_
                rintro e w' ⟨he, rfl⟩
                rw [HI2.out.l] at he
                subst he
                go_wp2_with fail
                refine (ownt_count HT3.out).mono ?_
                rintro e w' ⟨he, rfl⟩
                rw [HI2.out.l] at he
                subst he
                go_wp2
                go_roundw
                case rel => exact ⟨j + 1, g2, _, cn1 + 1, by omega, by omega, by go_num, by go_num, rfl, HT3.out, HI2.out⟩
                case measure => simp [intOf]; omega
              · have tE : (E == 0) = false := by simpa using hE0
                have hE := hide hE
                go_wp2_with fail
                refine (owndr_crash AK cK ks HN.out HG.out HFK.out.rk HFK.out.bk HFK.out.kl).mono ?_
                rintro e w7 ⟨rfl, hN2, hG2⟩
                obtain ⟨c', hI', l1, l2, l3⟩ := HI.out.fall hm4 HOK.out ks hN2.n.ok
                rcases (by omega : c' = cn1 ∨ c' = cn1 + 1) with hc' | hc'
                · subst hc'
                  have HN2 := hide hN2
                  have HG2 := hide hG2
                  have HI2 := hide hI'
                  clear hN2 hG2 hI' HI HB HX HN HG hE HOK l1 l2 l3
                  generalize (tR.stp (s1.arms m)).1.crash ks = s2 at HN2 HG2 HI2
                  go_wp2_with fail
                  refine (ownt_open HN2.out HG2.out HI2.out.dk rfl HI2.out.c.dn).mono ?_
                  rintro e w8 ⟨g2, rfl, hT3, -, -⟩
                  have HT3 := hide hT3
                  clear hT3 HN2 HG2
                  go_wp2_with fail
                  refine (ownt_count HT3.out).mono ?_
                  rintro e w' ⟨he, rfl⟩
                  rw [HI2.out.l] at he
                  subst he
                  go_wp2_with fail
                  refine (ownt_count HT3.out).mono ?_
                  rintro e w' ⟨he, rfl⟩
                  rw [HI2.out.l] at he
                  subst he
                  go_wp2_with fail
                  refine (ownt_count HT3.out).mono ?_
                  rintro e w' ⟨he, rfl⟩
                  rw [HI2.out.l] at he
                  subst he
                  go_wp2_with fail
                  refine (ownt_count HT3.out).mono ?_
                  rintro e w' ⟨he, rfl⟩
                  rw [HI2.out.l] at he
                  subst he
                  go_wp2
                  go_roundw
                  case rel => exact ⟨j + 1, g2, _, c', by omega, by omega, by go_num, by go_num, rfl, HT3.out, HI2.out⟩
                  case measure => simp [intOf]; omega
                · subst hc'
                  have HN2 := hide hN2
                  have HG2 := hide hG2
                  have HI2 := hide hI'
                  clear hN2 hG2 hI' HI HB HX HN HG hE HOK l1 l2 l3
                  generalize (tR.stp (s1.arms m)).1.crash ks = s2 at HN2 HG2 HI2
                  go_wp2_with fail
                  refine (ownt_open HN2.out HG2.out HI2.out.dk rfl HI2.out.c.dn).mono ?_
                  rintro e w8 ⟨g2, rfl, hT3, -, -⟩
                  have HT3 := hide hT3
                  clear hT3 HN2 HG2
                  go_wp2_with fail
                  refine (ownt_count HT3.out).mono ?_
                  rintro e w' ⟨he, rfl⟩
                  rw [HI2.out.l] at he
                  subst he
                  go_wp2_with fail
                  refine (ownt_count HT3.out).mono ?_
                  rintro e w' ⟨he, rfl⟩
                  rw [HI2.out.l] at he
                  subst he
                  go_wp2_with fail
                  refine (ownt_count HT3.out).mono ?_
                  rintro e w' ⟨he, rfl⟩
                  rw [HI2.out.l] at he
                  subst he
                  go_wp2_with fail
                  refine (ownt_count HT3.out).mono ?_
                  rintro e w' ⟨he, rfl⟩
                  rw [HI2.out.l] at he
                  subst he
                  go_wp2
                  go_roundw
                  case rel => exact ⟨j + 1, g2, _, cn1 + 1, by omega, by omega, by go_num, by go_num, rfl, HT3.out, HI2.out⟩
                  case measure => simp [intOf]; omega
        · obtain rfl : j = 4 := by omega
          go_wp2_with fail
          refine (awake_is _).mono ?_
          rintro e wz ⟨rfl, hz⟩
          go_wp2
          go_ret
          exact ⟨rfl, HT.out.o.f.trans hz⟩
      · obtain rfl : j = fs.length := by omega
        go_wp2_with fail
        refine (awake_is _).mono ?_
        rintro e wz ⟨rfl, hz⟩
        go_wp2
        go_ret
        exact ⟨rfl, HT.out.o.f.trans hz⟩
end Go.Proofs.Ytmeegehmbphooaa
