/-
  The chapter's examples of the drive, and its bounds: the walk. (Printed: wip/drvgen.py numbers)
-/
import Derived.Test.YtplngfphklpicaaDrvAwake
namespace Go.Proofs.Ytplngfphklpicaa
open Go.RowKit
def dn0 : NorS := NorS.new 4 1
def dnD_g : DrvS := ⟨1, 3⟩
def dnD_g2 : DrvS := ⟨dnD_g.first + 2, 1⟩
def dnD_g3 : DrvS := ⟨dnD_g2.first + 0, 1⟩
def dn1 : NorS := dnD_g.wr dn0 191 [1, 2]
theorem dn1_e : dnD_g.wrE dn0 (191) [1, 2] = 2 := by kernel_rfl
def dn2 : NorS := dnD_g.er dn1 (-1)
theorem dn2_e : dnD_g.erE dn1 (-1) = 2 := by kernel_rfl
def dn3 : NorS := dnD_g2.wr dn2 63 [0]
theorem dn3_e : dnD_g2.wrE dn2 (63) [0] = 0 := by kernel_rfl
def dn4 : NorS := dn3.arms 0
def dn5 : NorS := dnD_g.wr dn4 0 [1]
theorem dn5_e : dnD_g.wrE dn4 (0) [1] = 40 := by kernel_rfl
def dn6 : NorS := dnD_g.wr dn5 0 []
theorem dn6_e : dnD_g.wrE dn5 (0) [] = 40 := by kernel_rfl
def dn7 : NorS := dnD_g.er dn6 (0)
theorem dn7_e : dnD_g.erE dn6 (0) = 40 := by kernel_rfl
def DNumRel (w : World) (p q c NB : Nat) (i : Value) (wr : World) : Prop := ∃ j : Nat, j ≤ 6 ∧ i = .int .i64 j ∧ Own w wr p q c dn0 ∧ Blk wr NB 55 #[.int .i64 (-1), .int .i64 1, .int .i64 0, .int .i64 0, .int .i64 0, .int .i64 5, .int .i64 4, .int .i64 1, .int .i64 2, .int .i64 3, .int .i64 4611686018427387904, .int .i64 4611686018427387904]
set_option maxRecDepth 100000 in
set_option maxHeartbeats 4000000 in
theorem driveNumbers_is (w : World) : Calls Try.prog 5 #[] w fun e w' => e = .returned (.bool true) ∧ Frm NoB w w' := by
  go_enter Try.func5, Try.ntmps5
  go_wp2_with fail
  refine (own_new 4 1 (Frm.refl NoB w) (by omega) (by omega) (by omega)).mono ?_
  rintro e w1 ⟨p, q, c, rfl, hN, hp, hq, hF⟩
  have HN0 : Hid (Own w w1 p q c dn0) := hN
  clear hN hp hq hF
  go_wp2_with fail
  go_loopw [52] (fun i wr => DNumRel w p q c w1.heap.size i wr) (fun i _ => 6 - (intOf i).toNat)
  case atStart => exact ⟨0, by omega, rfl, HN0.out.alloc _, Blk.new _ _ _⟩
  case round =>
    obtain ⟨j, hj, rfl, hN, hB⟩ := hrel
    obtain ⟨wo, rfl⟩ : ∃ wo : World, wo = wr := ⟨_, rfl⟩
    rcases (by omega : j = 6 ∨ j = 0 ∨ j = 1 ∨ j = 2 ∨ j = 3 ∨ j = 4 ∨ j = 5) with rfl | rfl | rfl | rfl | rfl | rfl | rfl
    · have HN9 : Hid (Own w wo p q c dn0) := hN
      clear hN hB HN0
      go_wp2_with fail
      refine (dopen_no 0 1 (.pointer none) (Or.inl rfl)).mono ?_
      rintro e w' ⟨rfl, rfl⟩
      go_wp2_with fail
      refine (ownd_open 1 3 HN9.out (by omega) (by decide)).mono ?_
      rintro e w2 ⟨g, rfl, hG, hN, -, hF⟩
      have HN21 : Hid (Own w w2 p q c dn0) := hN
      clear hN
      clear HN9
      have HG21 : Hid (DrvAt w2 g p dnD_g) := hG
      clear hG hF
      go_wp2_with fail
      refine (dpart_bad (0) (4) HG21.out (by decide) (by decide)).mono ?_
      rintro e w' ⟨rfl, rfl⟩
      go_wp2_with fail
      refine (dpart_bad (3) (1) HG21.out (by decide) (by decide)).mono ?_
      rintro e w' ⟨rfl, rfl⟩
      go_wp2_with fail
      refine (dpart_bad (-1) (2) HG21.out (by decide) (by decide)).mono ?_
      rintro e w' ⟨rfl, rfl⟩
      go_wp2_with fail
      refine (ownd_part 2 1 HN21.out HG21.out (DrvS.ok_dec (by kernel_rfl)) (by omega) (by decide)).mono ?_
      rintro e w3 ⟨g2, rfl, hG, hN, -, hF⟩
      have HG22 : Hid (DrvAt w3 g p dnD_g) := HG21.out.frm hF (fun e => e)
      clear HG21
      have HN24 : Hid (Own w w3 p q c dn0) := hN
      clear hN
      clear HN21
      have HG24 : Hid (DrvAt w3 g2 p dnD_g2) := hG
      clear hG hF
      go_wp2_with fail
      refine (ownd_part 0 1 HN24.out HG24.out (DrvS.ok_dec (by kernel_rfl)) (by omega) (by decide)).mono ?_
      rintro e w4 ⟨g3, rfl, hG, hN, -, hF⟩
      have HG25 : Hid (DrvAt w4 g p dnD_g) := HG22.out.frm hF (fun e => e)
      clear HG22
      have HG26 : Hid (DrvAt w4 g2 p dnD_g2) := HG24.out.frm hF (fun e => e)
      clear HG24
      have HN28 : Hid (Own w w4 p q c dn0) := hN
      clear hN
      clear HN24
      have HG28 : Hid (DrvAt w4 g3 p dnD_g3) := hG
      clear hG hF
      go_wp2_with fail
      refine (dsize_is (d := dnD_g2) HG26.out (by decide)).mono ?_
      rintro e w' ⟨rfl, rfl⟩
      go_wp2_with fail
      refine (dsectors_is (d := dnD_g3) HG28.out).mono ?_
      rintro e w' ⟨rfl, rfl⟩
      go_wp2_with fail
      refine (ownd_read (0) (193) HN28.out HG25.out (DrvS.ok_dec (by kernel_rfl)) (2) (by kernel_rfl) 0 (by kernel_rfl)).mono ?_
      rintro e w5 ⟨A5, cp5, rfl, hN, hF⟩
      have HG29 : Hid (DrvAt w5 g p dnD_g) := HG25.out.frm hF (fun e => e)
      clear HG25
      have HG30 : Hid (DrvAt w5 g2 p dnD_g2) := HG26.out.frm hF (fun e => e)
      clear HG26
      have HG31 : Hid (DrvAt w5 g3 p dnD_g3) := HG28.out.frm hF (fun e => e)
      clear HG28
      have HN33 : Hid (Own w w5 p q c dn0) := hN
      clear hN
      clear HN28 hF
      go_wp2_with fail
      refine (ownd_read (193) (0) HN33.out HG29.out (DrvS.ok_dec (by kernel_rfl)) (2) (by kernel_rfl) 0 (by kernel_rfl)).mono ?_
      rintro e w6 ⟨A6, cp6, rfl, hN, hF⟩
      have HG33 : Hid (DrvAt w6 g p dnD_g) := HG29.out.frm hF (fun e => e)
      clear HG29
      have HG34 : Hid (DrvAt w6 g2 p dnD_g2) := HG30.out.frm hF (fun e => e)
      clear HG30
      have HG35 : Hid (DrvAt w6 g3 p dnD_g3) := HG31.out.frm hF (fun e => e)
      clear HG31
      have HN37 : Hid (Own w w6 p q c dn0) := hN
      clear hN
      clear HN33 hF
      go_wp2_with fail
      refine (ownd_read (-1) (0) HN37.out HG33.out (DrvS.ok_dec (by kernel_rfl)) (2) (by kernel_rfl) 0 (by kernel_rfl)).mono ?_
      rintro e w7 ⟨A7, cp7, rfl, hN, hF⟩
      have HG37 : Hid (DrvAt w7 g p dnD_g) := HG33.out.frm hF (fun e => e)
      clear HG33
      have HG38 : Hid (DrvAt w7 g2 p dnD_g2) := HG34.out.frm hF (fun e => e)
      clear HG34
      have HG39 : Hid (DrvAt w7 g3 p dnD_g3) := HG35.out.frm hF (fun e => e)
      clear HG35
      have HN41 : Hid (Own w w7 p q c dn0) := hN
      clear hN
      clear HN37 hF
      go_wp2_with fail
      refine (ownd_read (0) (-1) HN41.out HG37.out (DrvS.ok_dec (by kernel_rfl)) (2) (by kernel_rfl) 0 (by kernel_rfl)).mono ?_
      rintro e w8 ⟨A8, cp8, rfl, hN, hF⟩
      have HG41 : Hid (DrvAt w8 g p dnD_g) := HG37.out.frm hF (fun e => e)
      clear HG37
      have HG42 : Hid (DrvAt w8 g2 p dnD_g2) := HG38.out.frm hF (fun e => e)
      clear HG38
      have HG43 : Hid (DrvAt w8 g3 p dnD_g3) := HG39.out.frm hF (fun e => e)
      clear HG39
      have HN45 : Hid (Own w w8 p q c dn0) := hN
      clear hN
      clear HN41 hF
      go_wp2_with fail
      refine (ownd_read (192) (0) HN45.out HG41.out (DrvS.ok_dec (by kernel_rfl)) (0) (by kernel_rfl) 0 (by kernel_rfl)).mono ?_
      rintro e w9 ⟨A9, cp9, rfl, hN, hF⟩
      have HG45 : Hid (DrvAt w9 g p dnD_g) := HG41.out.frm hF (fun e => e)
      clear HG41
      have HG46 : Hid (DrvAt w9 g2 p dnD_g2) := HG42.out.frm hF (fun e => e)
      clear HG42
      have HG47 : Hid (DrvAt w9 g3 p dnD_g3) := HG43.out.frm hF (fun e => e)
      clear HG43
      have HN49 : Hid (Own w w9 p q c dn0) := hN
      clear hN
      clear HN45 hF
      go_wp2_with fail
      refine (ownd_write (191) [1, 2] HN49.out HG45.out (DrvS.ok_dec (by kernel_rfl)) (by intro x hx; simp at hx; omega) (by simp) _ rfl _ rfl).mono ?_
      rintro e w10 ⟨he, hN, hF⟩
      rw [show dnD_g.wrE dn0 (191) [1, 2] = 2 from dn1_e] at he
      subst he
      have HG49 : Hid (DrvAt w10 g p dnD_g) := HG45.out.own HN49.out hF
      clear HG45
      have HG50 : Hid (DrvAt w10 g2 p dnD_g2) := HG46.out.own HN49.out hF
      clear HG46
      have HG51 : Hid (DrvAt w10 g3 p dnD_g3) := HG47.out.own HN49.out hF
      clear HG47
      have HN53 : Hid (Own w w10 p q c dn1) := hN
      clear hN
      clear HN49 hF
      go_wp2_with fail
      refine (ownd_erase (-1) HN53.out HG49.out (DrvS.ok_dec (by kernel_rfl)) (by omega)).mono ?_
      rintro e w11 ⟨he, hN, hF⟩
      rw [show dnD_g.erE dn1 (-1) = 2 from dn2_e] at he
      subst he
      have HG53 : Hid (DrvAt w11 g p dnD_g) := HG49.out.own HN53.out hF
      clear HG49
      have HG54 : Hid (DrvAt w11 g2 p dnD_g2) := HG50.out.own HN53.out hF
      clear HG50
      have HG55 : Hid (DrvAt w11 g3 p dnD_g3) := HG51.out.own HN53.out hF
      clear HG51
      have HN57 : Hid (Own w w11 p q c dn2) := hN
      clear hN
      clear HN53 hF
      go_wp2_with fail
      refine (ownd_blank (0) (192) HN57.out HG53.out (DrvS.ok_dec (by kernel_rfl)) true (by kernel_rfl)).mono ?_
      rintro e w12 ⟨rfl, hN, hF⟩
      have HG57 : Hid (DrvAt w12 g p dnD_g) := HG53.out.frm hF (fun e => e)
      clear HG53
      have HG58 : Hid (DrvAt w12 g2 p dnD_g2) := HG54.out.frm hF (fun e => e)
      clear HG54
      have HG59 : Hid (DrvAt w12 g3 p dnD_g3) := HG55.out.frm hF (fun e => e)
      clear HG55
      have HN61 : Hid (Own w w12 p q c dn2) := hN
      clear hN
      clear HN57 hF
      go_wp2_with fail
      refine (ownd_blank (0) (193) HN61.out HG57.out (DrvS.ok_dec (by kernel_rfl)) false (by kernel_rfl)).mono ?_
      rintro e w13 ⟨rfl, hN, hF⟩
      have HG61 : Hid (DrvAt w13 g p dnD_g) := HG57.out.frm hF (fun e => e)
      clear HG57
      have HG62 : Hid (DrvAt w13 g2 p dnD_g2) := HG58.out.frm hF (fun e => e)
      clear HG58
      have HG63 : Hid (DrvAt w13 g3 p dnD_g3) := HG59.out.frm hF (fun e => e)
      clear HG59
      have HN65 : Hid (Own w w13 p q c dn2) := hN
      clear hN
      clear HN61 hF
      go_wp2_with fail
      refine (ownd_blank (192) (0) HN65.out HG61.out (DrvS.ok_dec (by kernel_rfl)) true (by kernel_rfl)).mono ?_
      rintro e w14 ⟨rfl, hN, hF⟩
      have HG65 : Hid (DrvAt w14 g p dnD_g) := HG61.out.frm hF (fun e => e)
      clear HG61
      have HG66 : Hid (DrvAt w14 g2 p dnD_g2) := HG62.out.frm hF (fun e => e)
      clear HG62
      have HG67 : Hid (DrvAt w14 g3 p dnD_g3) := HG63.out.frm hF (fun e => e)
      clear HG63
      have HN69 : Hid (Own w w14 p q c dn2) := hN
      clear hN
      clear HN65 hF
      go_wp2_with fail
      refine (ownd_write (63) [0] HN69.out HG66.out (DrvS.ok_dec (by kernel_rfl)) (by intro x hx; simp at hx; omega) (by simp) _ rfl _ rfl).mono ?_
      rintro e w15 ⟨he, hN, hF⟩
      rw [show dnD_g2.wrE dn2 (63) [0] = 0 from dn3_e] at he
      subst he
      have HG69 : Hid (DrvAt w15 g p dnD_g) := HG65.out.own HN69.out hF
      clear HG65
      have HG70 : Hid (DrvAt w15 g2 p dnD_g2) := HG66.out.own HN69.out hF
      clear HG66
      have HG71 : Hid (DrvAt w15 g3 p dnD_g3) := HG67.out.own HN69.out hF
      clear HG67
      have HN73 : Hid (Own w w15 p q c dn3) := hN
      clear hN
      clear HN69 hF
      go_wp2_with fail
      refine (ownd_blank (0) (192) HN73.out HG69.out (DrvS.ok_dec (by kernel_rfl)) false (by kernel_rfl)).mono ?_
      rintro e w16 ⟨rfl, hN, hF⟩
      have HG73 : Hid (DrvAt w16 g p dnD_g) := HG69.out.frm hF (fun e => e)
      clear HG69
      have HG74 : Hid (DrvAt w16 g2 p dnD_g2) := HG70.out.frm hF (fun e => e)
      clear HG70
      have HG75 : Hid (DrvAt w16 g3 p dnD_g3) := HG71.out.frm hF (fun e => e)
      clear HG71
      have HN77 : Hid (Own w w16 p q c dn3) := hN
      clear hN
      clear HN73 hF
      go_wp2_with fail
      refine (ownd_blank (0) (191) HN77.out HG73.out (DrvS.ok_dec (by kernel_rfl)) true (by kernel_rfl)).mono ?_
      rintro e w17 ⟨rfl, hN, hF⟩
      have HG77 : Hid (DrvAt w17 g p dnD_g) := HG73.out.frm hF (fun e => e)
      clear HG73
      have HG78 : Hid (DrvAt w17 g2 p dnD_g2) := HG74.out.frm hF (fun e => e)
      clear HG74
      have HG79 : Hid (DrvAt w17 g3 p dnD_g3) := HG75.out.frm hF (fun e => e)
      clear HG75
      have HN81 : Hid (Own w w17 p q c dn3) := hN
      clear hN
      clear HN77 hF
      go_wp2_with fail
      refine (ownd_reads (63) [0] HN81.out HG79.out (DrvS.ok_dec (by kernel_rfl)) (by simp) _ rfl _ rfl true (by kernel_rfl)).mono ?_
      rintro e w18 ⟨rfl, hN, hF⟩
      have HG81 : Hid (DrvAt w18 g p dnD_g) := HG77.out.frm hF (fun e => e)
      clear HG77
      have HG82 : Hid (DrvAt w18 g2 p dnD_g2) := HG78.out.frm hF (fun e => e)
      clear HG78
      have HG83 : Hid (DrvAt w18 g3 p dnD_g3) := HG79.out.frm hF (fun e => e)
      clear HG79
      have HN85 : Hid (Own w w18 p q c dn3) := hN
      clear hN
      clear HN81 hF
      go_wp2_with fail
      refine (ownd_reads (191) [0] HN85.out HG81.out (DrvS.ok_dec (by kernel_rfl)) (by simp) _ rfl _ rfl true (by kernel_rfl)).mono ?_
      rintro e w19 ⟨rfl, hN, hF⟩
      have HG85 : Hid (DrvAt w19 g p dnD_g) := HG81.out.frm hF (fun e => e)
      clear HG81
      have HG86 : Hid (DrvAt w19 g2 p dnD_g2) := HG82.out.frm hF (fun e => e)
      clear HG82
      have HG87 : Hid (DrvAt w19 g3 p dnD_g3) := HG83.out.frm hF (fun e => e)
      clear HG83
      have HN89 : Hid (Own w w19 p q c dn3) := hN
      clear hN
      clear HN85 hF
      go_wp2_with fail
      refine (ownd_arm 0 HN89.out (by omega)).mono ?_
      rintro e w20 ⟨rfl, hN, hF⟩
      have HG89 : Hid (DrvAt w20 g p dnD_g) := HG85.out.own HN89.out hF
      clear HG85
      have HG90 : Hid (DrvAt w20 g2 p dnD_g2) := HG86.out.own HN89.out hF
      clear HG86
      have HG91 : Hid (DrvAt w20 g3 p dnD_g3) := HG87.out.own HN89.out hF
      clear HG87
      have HN93 : Hid (Own w w20 p q c dn4) := hN
      clear hN
      clear HN89 hF
      go_wp2_with fail
      refine (ownd_write (0) [1] HN93.out HG89.out (DrvS.ok_dec (by kernel_rfl)) (by intro x hx; simp at hx; omega) (by simp) _ rfl _ rfl).mono ?_
      rintro e w21 ⟨he, hN, hF⟩
      rw [show dnD_g.wrE dn4 (0) [1] = 40 from dn5_e] at he
      subst he
      have HG93 : Hid (DrvAt w21 g p dnD_g) := HG89.out.own HN93.out hF
      clear HG89
      have HG94 : Hid (DrvAt w21 g2 p dnD_g2) := HG90.out.own HN93.out hF
      clear HG90
      have HG95 : Hid (DrvAt w21 g3 p dnD_g3) := HG91.out.own HN93.out hF
      clear HG91
      have HN97 : Hid (Own w w21 p q c dn5) := hN
      clear hN
      clear HN93 hF
      go_wp2_with fail
      refine (ownd_read (0) (1) HN97.out HG93.out (DrvS.ok_dec (by kernel_rfl)) (40) (by kernel_rfl) 0 (by kernel_rfl)).mono ?_
      rintro e w22 ⟨A22, cp22, rfl, hN, hF⟩
      have HG97 : Hid (DrvAt w22 g p dnD_g) := HG93.out.frm hF (fun e => e)
      clear HG93
      have HG98 : Hid (DrvAt w22 g2 p dnD_g2) := HG94.out.frm hF (fun e => e)
      clear HG94
      have HG99 : Hid (DrvAt w22 g3 p dnD_g3) := HG95.out.frm hF (fun e => e)
      clear HG95
      have HN101 : Hid (Own w w22 p q c dn5) := hN
      clear hN
      clear HN97 hF
      go_wp2_with fail
      refine (ownd_write_nil (0) HN101.out HG97.out (DrvS.ok_dec (by kernel_rfl))).mono ?_
      rintro e w23 ⟨he, hN, hF⟩
      rw [show dnD_g.wrE dn5 (0) [] = 40 from dn6_e] at he
      subst he
      have HG101 : Hid (DrvAt w23 g p dnD_g) := HG97.out.own HN101.out hF
      clear HG97
      have HG102 : Hid (DrvAt w23 g2 p dnD_g2) := HG98.out.own HN101.out hF
      clear HG98
      have HG103 : Hid (DrvAt w23 g3 p dnD_g3) := HG99.out.own HN101.out hF
      clear HG99
      have HN105 : Hid (Own w w23 p q c dn6) := hN
      clear hN
      clear HN101 hF
      go_wp2_with fail
      refine (ownd_erase (0) HN105.out HG101.out (DrvS.ok_dec (by kernel_rfl)) (by omega)).mono ?_
      rintro e w24 ⟨he, hN, hF⟩
      rw [show dnD_g.erE dn6 (0) = 40 from dn7_e] at he
      subst he
      have HG105 : Hid (DrvAt w24 g p dnD_g) := HG101.out.own HN105.out hF
      clear HG101
      have HG106 : Hid (DrvAt w24 g2 p dnD_g2) := HG102.out.own HN105.out hF
      clear HG102
      have HG107 : Hid (DrvAt w24 g3 p dnD_g3) := HG103.out.own HN105.out hF
      clear HG103
      have HN109 : Hid (Own w w24 p q c dn7) := hN
      clear hN
      clear HN105 hF
      go_wp2_with fail
      refine (ownd_blank (0) (1) HN109.out HG105.out (DrvS.ok_dec (by kernel_rfl)) false (by kernel_rfl)).mono ?_
      rintro e w25 ⟨rfl, hN, hF⟩
      have HG109 : Hid (DrvAt w25 g p dnD_g) := HG105.out.frm hF (fun e => e)
      clear HG105
      have HG110 : Hid (DrvAt w25 g2 p dnD_g2) := HG106.out.frm hF (fun e => e)
      clear HG106
      have HG111 : Hid (DrvAt w25 g3 p dnD_g3) := HG107.out.frm hF (fun e => e)
      clear HG107
      have HN113 : Hid (Own w w25 p q c dn7) := hN
      clear hN
      clear HN109 hF
      go_wp2_with fail
      refine (awake_is _).mono ?_
      rintro e w26 ⟨rfl, hF⟩
      have HZ := hide (HN113.out.f.trans hF)
      clear hF
      go_wp2
      go_ret
      exact ⟨rfl, HZ.out⟩
    · have c0 := hB.cell 0
      have c1 := hB.cell 1
      have HN9 := hide hN
      have HB := hide hB
      clear hN hB
      go_wp2_with fail
      refine (dopen_bad (-1) (1) (Own.n (HN9.out.alloc _)) (by decide)).mono ?_
      rintro e w' ⟨rfl, rfl⟩
      go_wp2
      go_roundw
      case rel => exact ⟨1, by omega, by go_num, HN9.out.alloc _, HB.out.alloc _⟩
      case measure => simp [intOf]
    · have c0 := hB.cell 2
      have c1 := hB.cell 3
      have HN9 := hide hN
      have HB := hide hB
      clear hN hB
      go_wp2_with fail
      refine (dopen_bad (0) (0) (Own.n (HN9.out.alloc _)) (by decide)).mono ?_
      rintro e w' ⟨rfl, rfl⟩
      go_wp2
      go_roundw
      case rel => exact ⟨2, by omega, by go_num, HN9.out.alloc _, HB.out.alloc _⟩
      case measure => simp [intOf]
    · have c0 := hB.cell 4
      have c1 := hB.cell 5
      have HN9 := hide hN
      have HB := hide hB
      clear hN hB
      go_wp2_with fail
      refine (dopen_bad (0) (5) (Own.n (HN9.out.alloc _)) (by decide)).mono ?_
      rintro e w' ⟨rfl, rfl⟩
      go_wp2
      go_roundw
      case rel => exact ⟨3, by omega, by go_num, HN9.out.alloc _, HB.out.alloc _⟩
      case measure => simp [intOf]
    · have c0 := hB.cell 6
      have c1 := hB.cell 7
      have HN9 := hide hN
      have HB := hide hB
      clear hN hB
      go_wp2_with fail
      refine (dopen_bad (4) (1) (Own.n (HN9.out.alloc _)) (by decide)).mono ?_
      rintro e w' ⟨rfl, rfl⟩
      go_wp2
      go_roundw
      case rel => exact ⟨4, by omega, by go_num, HN9.out.alloc _, HB.out.alloc _⟩
      case measure => simp [intOf]
    · have c0 := hB.cell 8
      have c1 := hB.cell 9
      have HN9 := hide hN
      have HB := hide hB
      clear hN hB
      go_wp2_with fail
      refine (dopen_bad (2) (3) (Own.n (HN9.out.alloc _)) (by decide)).mono ?_
      rintro e w' ⟨rfl, rfl⟩
      go_wp2
      go_roundw
      case rel => exact ⟨5, by omega, by go_num, HN9.out.alloc _, HB.out.alloc _⟩
      case measure => simp [intOf]
    · have c0 := hB.cell 10
      have c1 := hB.cell 11
      have HN9 := hide hN
      have HB := hide hB
      clear hN hB
      go_wp2_with fail
      refine (dopen_bad (4611686018427387904) (4611686018427387904) (Own.n (HN9.out.alloc _)) (by decide)).mono ?_
      rintro e w' ⟨rfl, rfl⟩
      go_wp2
      go_roundw
      case rel => exact ⟨6, by omega, by go_num, HN9.out.alloc _, HB.out.alloc _⟩
      case measure => simp [intOf]
end Go.Proofs.Ytplngfphklpicaa
