/-
  The chapter's examples of the drive come out as written. (Printed: wip/drvgen.py awake)
-/
import Derived.Test.YtplngfphklpicaaDrvOwn
namespace Go.Proofs.Ytplngfphklpicaa
open Go.RowKit
def dv0 : NorS := NorS.new 4 0
def dvD_g : DrvS := ⟨1, 2⟩
def dv1 : NorS := dvD_g.wr dv0 62 [1, 2, 3]
theorem dv1_e : dvD_g.wrE dv0 (62) [1, 2, 3] = 0 := by kernel_rfl
theorem dv_n6 : decide (dv1.read 1 62 = 1 ∧ dv1.up 1 62 1 = 0) = true := by kernel_rfl
theorem dv_n7 : decide (dv1.read 2 0 = 3 ∧ dv1.up 2 0 1 = 0) = true := by kernel_rfl
def dv2 : NorS := dvD_g.wr dv1 62 [0, 2, 3]
theorem dv2_e : dvD_g.wrE dv1 (62) [0, 2, 3] = 0 := by kernel_rfl
def dv3 : NorS := dvD_g.wr dv2 62 [1]
theorem dv3_e : dvD_g.wrE dv2 (62) [1] = 50 := by kernel_rfl
def dv4 : NorS := dvD_g.er dv3 (1)
theorem dv4_e : dvD_g.erE dv3 (1) = 0 := by kernel_rfl
def dv5 : NorS := dvD_g.er dv4 (2)
theorem dv5_e : dvD_g.erE dv4 (2) = 2 := by kernel_rfl
def dvD_g2 : DrvS := ⟨dvD_g.first + 1, 1⟩
def dv6 : NorS := dvD_g.wr dv5 64 [9]
theorem dv6_e : dvD_g.wrE dv5 (64) [9] = 0 := by kernel_rfl
set_option maxRecDepth 100000 in
set_option maxHeartbeats 4000000 in
theorem awake_is (w : World) : Calls Try.prog 17 #[] w fun e w' => e = .returned (.bool true) ∧ Frm NoB w w' := by
  go_enter Try.func17, Try.ntmps17
  go_wp2_with fail
  refine (own_new 4 0 (Frm.refl NoB w) (by omega) (by omega) (by omega)).mono ?_
  rintro e w1 ⟨p, q, c, rfl, hN, hp, hq, hF⟩
  have HN0 : Hid (Own w w1 p q c dv0) := hN
  clear hN hp hq hF
  go_wp2_with fail
  refine (ownd_open 1 2 HN0.out (by omega) (by decide)).mono ?_
  rintro e w2 ⟨g, rfl, hG, hN, -, hF⟩
  have HN1 : Hid (Own w w2 p q c dv0) := hN
  clear hN
  clear HN0
  have HG1 : Hid (DrvAt w2 g p dvD_g) := hG
  clear hG hF
  go_wp2_with fail
  refine (dsize_is (d := dvD_g) HG1.out (by decide)).mono ?_
  rintro e w' ⟨rfl, rfl⟩
  go_wp2_with fail
  refine (ownd_write (62) [1, 2, 3] HN1.out HG1.out (DrvS.ok_dec (by kernel_rfl)) (by intro x hx; simp at hx; omega) (by simp) _ rfl _ rfl).mono ?_
  rintro e w3 ⟨he, hN, hF⟩
  rw [show dvD_g.wrE dv0 (62) [1, 2, 3] = 0 from dv1_e] at he
  subst he
  have HG2 : Hid (DrvAt w3 g p dvD_g) := HG1.out.own HN1.out hF
  clear HG1
  have HN4 : Hid (Own w w3 p q c dv1) := hN
  clear hN
  clear HN1 hF
  go_wp2_with fail
  refine (ownd_reads (62) [1, 2, 3] HN4.out HG2.out (DrvS.ok_dec (by kernel_rfl)) (by simp) _ rfl _ rfl true (by kernel_rfl)).mono ?_
  rintro e w4 ⟨rfl, hN, hF⟩
  have HG4 : Hid (DrvAt w4 g p dvD_g) := HG2.out.frm hF (fun e => e)
  clear HG2
  have HN6 : Hid (Own w w4 p q c dv1) := hN
  clear hN
  clear HN4 hF
  go_wp2_with fail
  refine (read_is 1 62 HN6.out.n).mono ?_
  rintro e w' ⟨he, rfl⟩
  rw [(of_decide_eq_true dv_n6).1, (of_decide_eq_true dv_n6).2] at he
  subst he
  go_wp2_with fail
  refine (read_is 2 0 HN6.out.n).mono ?_
  rintro e w' ⟨he, rfl⟩
  rw [(of_decide_eq_true dv_n7).1, (of_decide_eq_true dv_n7).2] at he
  subst he
  go_wp2_with fail
  refine (ownd_write (62) [0, 2, 3] HN6.out HG4.out (DrvS.ok_dec (by kernel_rfl)) (by intro x hx; simp at hx; omega) (by simp) _ rfl _ rfl).mono ?_
  rintro e w5 ⟨he, hN, hF⟩
  rw [show dvD_g.wrE dv1 (62) [0, 2, 3] = 0 from dv2_e] at he
  subst he
  have HG8 : Hid (DrvAt w5 g p dvD_g) := HG4.out.own HN6.out hF
  clear HG4
  have HN10 : Hid (Own w w5 p q c dv2) := hN
  clear hN
  clear HN6 hF
  go_wp2_with fail
  refine (ownd_write (62) [1] HN10.out HG8.out (DrvS.ok_dec (by kernel_rfl)) (by intro x hx; simp at hx; omega) (by simp) _ rfl _ rfl).mono ?_
  rintro e w6 ⟨he, hN, hF⟩
  rw [show dvD_g.wrE dv2 (62) [1] = 50 from dv3_e] at he
  subst he
  have HG10 : Hid (DrvAt w6 g p dvD_g) := HG8.out.own HN10.out hF
  clear HG8
  have HN12 : Hid (Own w w6 p q c dv3) := hN
  clear hN
  clear HN10 hF
  go_wp2_with fail
  refine (ownd_erase (1) HN12.out HG10.out (DrvS.ok_dec (by kernel_rfl)) (by omega)).mono ?_
  rintro e w7 ⟨he, hN, hF⟩
  rw [show dvD_g.erE dv3 (1) = 0 from dv4_e] at he
  subst he
  have HG12 : Hid (DrvAt w7 g p dvD_g) := HG10.out.own HN12.out hF
  clear HG10
  have HN14 : Hid (Own w w7 p q c dv4) := hN
  clear hN
  clear HN12 hF
  go_wp2_with fail
  refine (ownd_reads (62) [0, 2, 4294967295] HN14.out HG12.out (DrvS.ok_dec (by kernel_rfl)) (by simp) _ rfl _ rfl true (by kernel_rfl)).mono ?_
  rintro e w8 ⟨rfl, hN, hF⟩
  have HG14 : Hid (DrvAt w8 g p dvD_g) := HG12.out.frm hF (fun e => e)
  clear HG12
  have HN16 : Hid (Own w w8 p q c dv4) := hN
  clear hN
  clear HN14 hF
  go_wp2_with fail
  refine (ownd_erase (2) HN16.out HG14.out (DrvS.ok_dec (by kernel_rfl)) (by omega)).mono ?_
  rintro e w9 ⟨he, hN, hF⟩
  rw [show dvD_g.erE dv4 (2) = 2 from dv5_e] at he
  subst he
  have HG16 : Hid (DrvAt w9 g p dvD_g) := HG14.out.own HN16.out hF
  clear HG14
  have HN18 : Hid (Own w w9 p q c dv5) := hN
  clear hN
  clear HN16 hF
  go_wp2_with fail
  refine (ownd_part 1 1 HN18.out HG16.out (DrvS.ok_dec (by kernel_rfl)) (by omega) (by decide)).mono ?_
  rintro e w10 ⟨g2, rfl, hG, hN, -, hF⟩
  have HG18 : Hid (DrvAt w10 g p dvD_g) := HG16.out.frm hF (fun e => e)
  clear HG16
  have HN20 : Hid (Own w w10 p q c dv5) := hN
  clear hN
  clear HN18
  have HG20 : Hid (DrvAt w10 g2 p dvD_g2) := hG
  clear hG hF
  go_wp2_with fail
  refine (ownd_write (64) [9] HN20.out HG18.out (DrvS.ok_dec (by kernel_rfl)) (by intro x hx; simp at hx; omega) (by simp) _ rfl _ rfl).mono ?_
  rintro e w11 ⟨he, hN, hF⟩
  rw [show dvD_g.wrE dv5 (64) [9] = 0 from dv6_e] at he
  subst he
  have HG21 : Hid (DrvAt w11 g p dvD_g) := HG18.out.own HN20.out hF
  clear HG18
  have HG22 : Hid (DrvAt w11 g2 p dvD_g2) := HG20.out.own HN20.out hF
  clear HG20
  have HN24 : Hid (Own w w11 p q c dv6) := hN
  clear hN
  clear HN20 hF
  go_wp2_with fail
  refine (ownd_reads (0) [9] HN24.out HG22.out (DrvS.ok_dec (by kernel_rfl)) (by simp) _ rfl _ rfl true (by kernel_rfl)).mono ?_
  rintro e w12 ⟨rfl, hN, hF⟩
  have HG24 : Hid (DrvAt w12 g p dvD_g) := HG21.out.frm hF (fun e => e)
  clear HG21
  have HG25 : Hid (DrvAt w12 g2 p dvD_g2) := HG22.out.frm hF (fun e => e)
  clear HG22
  have HN27 : Hid (Own w w12 p q c dv6) := hN
  clear hN
  clear HN24 hF
  go_wp2
  go_ret
  exact ⟨rfl, HN27.out.f⟩
end Go.Proofs.Ytplngfphklpicaa
