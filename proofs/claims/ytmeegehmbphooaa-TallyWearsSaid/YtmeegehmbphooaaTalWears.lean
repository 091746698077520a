/-
  So many steps erase no more sectors than one in 1985 of them, and one at first: the walk.
-/
import Derived.Test.YtmeegehmbphooaaTalOwn
import Derived.Test.YtmeegehmbphooaaTalWP
namespace Go.Proofs.Ytmeegehmbphooaa
open Go.RowKit
theorem tread_all {w0 w : World} {p q c gd g : Nat} {s : NorS} (h : OwnT w0 w p q c gd g tmD s) (hdn : s.down = false) :
    Calls Try.prog 11 #[.pointer (some ⟨gd, 0, none⟩), .int .i64 0, .int .i64 128] w fun e w' => ∃ b o cp, e = .returned (.tuple #[.slice (some ⟨b, o, none⟩) 128 cp, .int .i64 0]) ∧ (∀ i, i < 128 → w'.cell? ⟨b, o + i, none⟩ = some (.int .u32 (tmD.fn s i))) ∧ w.heap.size ≤ b ∧ Frm NoB w w' := by
  have hE : tmD.rdE s 0 128 = 0 := DrvS.rdE_ok hdn (by decide)
  have hlw : (tmD.words s 0 128).length = 128 := DrvS.words_length h.o.n.ok h.dk (by decide)
  have e1 : tmD.rd s 0 128 = tmD.words s 0 128 := by unfold DrvS.rd; rw [if_pos hE]; rfl
  refine (dread_is 0 128 h.dr h.o.n h.dk).mono ?_
  rintro e w' ⟨A, cp, rfl, h1, h2, h3, h4⟩
  rw [e1] at h1 ⊢
  obtain ⟨b, o, rfl, h5⟩ := h1 (by intro e; have := congrArg List.length e; rw [ints_length, hlw] at this; simp at this)
  refine ⟨b, o, cp, by rw [hlw, hE], fun i hi => ?_, h2 _ rfl, h4⟩
  have := h5 i _ (ints_get (by rw [hlw]; exact hi))
  rwa [DrvS.words_get hi] at this
def TwRel1 (w : World) (p q c gd g n : Nat) (x7 x8 : Value) (wr : World) : Prop := ∃ (k : Nat) (s : NorS), k ≤ n ∧ x8 = .int .i64 k ∧ x7 = .int .i64 (((k + 1984) / 1985 : Nat) : Int) ∧ OwnT w wr p q c gd g tmD s ∧ WInv tmD s k
def TwRel2 (wq : World) (f f' : Nat → Int) (x13 x14 x62 : Value) (wr : World) : Prop := ∃ i : Nat, i ≤ 128 ∧ x62 = .int .i64 i ∧ x13 = .int .i64 (chg f f' i) ∧ x14 = .bool (riseB f f' i) ∧ Frm NoB wq wr
set_option maxRecDepth 100000 in
set_option maxHeartbeats 16000000 in
theorem tallyWears_is (w : World) (x : Int) (hx0 : 0 ≤ x) (hx1 : x < 65536) :
    Calls Try.prog 4 #[.int .u16 x] w fun e w' => e = .returned (.bool true) ∧ Frm NoB w w' := by
  obtain ⟨n, hn⟩ : ∃ n : Nat, x % 4001 = n := ⟨(x % 4001).toNat, by omega⟩
  have hn' : Int.tmod x 4001 = (n : Int) := by rw [Int.tmod_eq_emod_of_nonneg hx0]; exact hn
  have hn4 : n ≤ 4000 := by omega
  go_enter Try.func4, Try.ntmps4
  go_wp2_with fail
  refine (made_is w).mono ?_
  rintro e w1 ⟨p, q, c, gd, g, rfl, hT, -⟩
  have HT := hide hT
  clear hT
  go_wp2_with fail
  go_loopw [7, 8] (fun x7 x8 wr => TwRel1 w p q c gd g n x7 x8 wr) (fun _ i _ => n - (intOf i).toNat)
  case atStart => exact ⟨0, tm0, by omega, rfl, rfl, HT.out, winv0 tm0_calm tm0_look⟩
  case round =>
    clear HT
    obtain ⟨k, s, hk, rfl, rfl, hT, hI⟩ := hrel
    have HT := hide hT
    have HI := hide hI
    obtain ⟨wo, rfl⟩ : ∃ wo : World, wo = wr := ⟨_, rfl⟩
    by_cases hkn : k < n
    · have hst := hI.step hT.o.n.ok hT.dk rfl (by omega)
      have hwd := hI.words hT.o.n.ok hT.dk rfl (by omega)
      have hu := fun i => DrvS.fn_u32 (d := tmD) hT.o.n.ok i
      have hu' := fun i => DrvS.fn_u32 (d := tmD) (DrvS.stp_Ok (d := tmD) hT.o.n.ok) i
      have HST := hide hst
      have HWD := hide hwd
      have HU := hide hu
      have HU' := hide hu'
      have hpB := hT.o.n.ltp; have hqB := hT.o.n.ltq; have hgB := TalAt.lt hT.t
      clear hT hI hst hwd hu hu'
      go_wp2_with fail
      refine (tread_all HT.out (Hid.out HI).c.dn).mono ?_
      rintro e w2 ⟨b1, o1, cp1, rfl, hR1, hb1, hF2⟩
      have HT2 := hide (HT.out.frm hF2)
      have HR1 := hide hR1
      clear hR1 hF2 HT
      go_wp2_with fail
      refine (ownt_step HT2.out HST.out.1).mono ?_
      rintro e w3 ⟨rfl, hT3, hF3⟩
      have hlt : ∀ i, i < 128 → w3.cell? ⟨b1, o1 + i, none⟩ = some (.int .u32 (tmD.fn s i)) := fun i hi => by
        have h := HR1.out i hi
        rw [hF3.cell (World.block_lt_of_cell? w2 _ h) (fun e => by have e : b1 = p ∨ b1 = q ∨ b1 = g := e; omega)]; exact h
      have HT3 := hide hT3
      have HR1 := hide hlt
      clear hT3 hF3 hlt HT2
      obtain ⟨s', hs'⟩ : ∃ s', (tmD.stp s).1 = s' := ⟨_, rfl⟩
      rw [hs'] at HT3 HWD HU' HST
      clear hs'
      go_wp2_with fail
      refine (tread_all HT3.out (Hid.out HST).2.1.c.dn).mono ?_
      rintro e w4 ⟨b2, o2, cp2, rfl, hR2, -, hF4⟩
      have HT4 := hide (HT3.out.frm hF4)
      have HR2 := hide hR2
      have HR1 : Hid (∀ i, i < 128 → w4.cell? ⟨b1, o1 + i, none⟩ = some (.int .u32 (tmD.fn s i))) := fun i hi => by
        have := HR1.out i hi
        rw [hF4.cell (World.block_lt_of_cell? w3 _ this) (fun e => e)]; exact this
      clear hR2 hF4 HT3
      go_wp2_with fail
      obtain ⟨f, hf⟩ : ∃ f, tmD.fn s = f := ⟨_, rfl⟩
      obtain ⟨f', hf'⟩ : ∃ f', tmD.fn s' = f' := ⟨_, rfl⟩
      rw [hf] at HR1 HU HWD
      rw [hf'] at HR2 HU' HWD
      clear hf hf'
      go_loopw [13, 14, 62] (fun x13 x14 x62 wr => TwRel2 w4 f f' x13 x14 x62 wr) (fun _ _ i _ => 128 - (intOf i).toNat)
      case atStart => exact ⟨0, by omega, rfl, rfl, rfl, Frm.refl _ _⟩
      case round =>
        obtain ⟨i, hi, rfl, rfl, rfl, hF5⟩ := hrel
        have HF5 := hide hF5
        have hcl := chg_le f f' i
        by_cases hil : i < 128
        · have c1 := HR1.out i hil
          have c2 := HR2.out i hil
          rw [← hF5.cell (World.block_lt_of_cell? w4 _ c1) (fun e => e)] at c1
          rw [← hF5.cell (World.block_lt_of_cell? w4 _ c2) (fun e => e)] at c2
          have hchg : chg f f' (i + 1) = chg f f' i + if f i = f' i then 0 else 1 := rfl
          have hrise : riseB f f' (i + 1) = (riseB f f' i || !(wand (f' i) (f i) == f' i)) := rfl
          have u1 := HU.out i
          have u2 := HU'.out i
          have hand := andNot_ne u2.1 u2.2 u1.1 u1.2
          obtain ⟨bb, hbb⟩ : ∃ bb, (!(wand (f' i) (f i) == f' i)) = bb := ⟨_, rfl⟩
          rw [hbb] at hand hrise
          clear hbb
          generalize f i = y1 at c1 hchg hand
          generalize f' i = y2 at c2 hchg hand
          have HC := hide hchg
          have HRI := hide hrise
          generalize riseB f f' i = rb at HRI
          generalize chg f f' i = cn at HC hcl
          have m0 : (0 : Int) ≤ (i : Int) := by omega
          have m1 : (i : Int) < 128 := by omega
          clear hF5 hchg hrise u1 u2
          by_cases hyy : y1 = y2
          · have ty : (y1 != y2) = false := by simp [hyy]
            have HC2 : Hid (chg f f' (i + 1) = cn) := by show _ = _; rw [HC.out, if_pos hyy]; rfl
            clear hyy
            cases rb with
            | true =>
              go_wp2_with fail
              go_quiet (fail)
              go_wp2_with fail
              go_quiet (fail)
              go_wp2
              go_roundw
              case rel => exact ⟨i + 1, by omega, by go_num, by rw [HC2.out], by rw [HRI.out]; rfl, HF5.out.drewN _⟩
              case measure => simp [intOf]; omega
            | false =>
              go_wp2_with fail
              go_quiet (fail)
              go_wp2_with fail
              go_quiet (fail)
              go_wp2
              go_roundw
              case rel => exact ⟨i + 1, by omega, by go_num, by rw [HC2.out], by rw [HRI.out]; rfl, HF5.out.drewN _⟩
              case measure => simp [intOf]; omega
          · have ty : (y1 != y2) = true := by simpa using hyy
            have HC2 : Hid (chg f f' (i + 1) = cn + 1) := by show _ = _; rw [HC.out, if_neg hyy]
            clear hyy
            cases rb with
            | true =>
              go_wp2_with fail
              go_quiet (fail)
              go_wp2_with fail
              go_quiet (fail)
              go_wp2
              go_roundw
              case rel => exact ⟨i + 1, by omega, by go_num, by rw [HC2.out]; go_num, by rw [HRI.out]; rfl, HF5.out.drewN _⟩
              case measure => simp [intOf]; omega
            | false =>
              go_wp2_with fail
              go_quiet (fail)
              go_wp2_with fail
              go_quiet (fail)
              go_wp2
              go_roundw
              case rel => exact ⟨i + 1, by omega, by go_num, by rw [HC2.out]; go_num, by rw [HRI.out]; rfl, HF5.out.drewN _⟩
              case measure => simp [intOf]; omega
        · obtain rfl : i = 128 := by omega
          have HI' := hide (Hid.out HST).2.1
          obtain ⟨cn, hcn⟩ : ∃ cn, chg f f' 128 = cn := ⟨_, rfl⟩
          obtain ⟨rb, hrb⟩ : ∃ rb, riseB f f' 128 = rb := ⟨_, rfl⟩
          rw [hcn, hrb] at HWD
          rw [hcn] at hcl ⊢
          rw [hrb]
          have hwd := HWD.out
          clear hF5 hcn hrb HWD HST
          have t85 : Int.tmod (k : Int) 1985 = ((k % 1985 : Nat) : Int) := by rw [Int.tmod_eq_emod_of_nonneg (by omega)]; omega
          have t86 : (k : Int) % 1985 = ((k % 1985 : Nat) : Int) := by omega
          by_cases hz : k % 1985 = 0
          · have h1 := hwd.1 hz
            have hq : (k + 1 + 1984) / 1985 = (k + 1984) / 1985 + 1 := by omega
            rw [hz] at t85 t86
            have HQ := hide hq
            have tcn : decide ((cn : Int) < 1) = false := decide_eq_false (by omega)
            have tcn' : decide (cn < 1) = false := decide_eq_false (by omega)
            have hb : (k + 1984) / 1985 ≤ 10 := by omega
            have HB := hide hb
            clear hwd hz hq h1 hb
            go_wp2
            go_roundw
            case rel => exact ⟨k + 1, s', by omega, by go_num, by rw [HQ.out]; have := HB.out; go_num, HT4.out.frm HF5.out, HI'.out⟩
            case measure => simp [intOf]; omega
          · obtain ⟨h1, h2⟩ := hwd.2 hz
            subst h1 h2
            have hq : (k + 1 + 1984) / 1985 = (k + 1984) / 1985 := by omega
            have HQ := hide hq
            have tz : (((k % 1985 : Nat) : Int) == 0) = false := by simp; omega
            have tz' : ((k % 1985) == 0) = false := by simp; omega
            generalize k % 1985 = mk at t85 t86 tz tz'
            clear hwd hz hq
            go_wp2
            go_roundw
            case rel => exact ⟨k + 1, s', by omega, by go_num, by rw [HQ.out]; rfl, HT4.out.frm HF5.out, HI'.out⟩
            case measure => simp [intOf]; omega
    · obtain rfl : k = n := by omega
      have hdv : Int.tdiv ((k : Int) + 1984) 1985 = (((k + 1984) / 1985 : Nat) : Int) := by rw [Int.tdiv_eq_ediv_of_nonneg (by omega)]; omega
      have hdv' : ((k : Int) + 1984) / 1985 = (((k + 1984) / 1985 : Nat) : Int) := by omega
      generalize (k + 1984) / 1985 = tn at hdv hdv'
      have te : ((tn : Int) == (tn : Int)) = true := by simp
      clear hT hI
      go_wp2_with fail
      refine (awake_is _).mono ?_
      rintro e wz ⟨rfl, hz⟩
      go_wp2
      go_ret
      exact ⟨rfl, HT.out.o.f.trans hz⟩
end Go.Proofs.Ytmeegehmbphooaa
