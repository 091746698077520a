/-
  The chapter's examples of the flash come out as written.
-/
import Derived.Test.YtlbnhmcejbidnaaNorLaw6
namespace Go.Proofs.Ytlbnhmcejbidnaa
open Go.RowKit

def aw0 : NorS := NorS.new 4 2
def aw1 : NorS := aw0.program 1 0 [12]
theorem aw1_e : aw0.programE 1 0 [12] = 0 := by kernel_rfl
theorem aw_r3 : decide (aw1.up 1 0 1 = 0 ∧ aw1.read 1 0 = 12) = true := by kernel_rfl
def aw2 : NorS := aw1.program 1 0 [10]
theorem aw2_e : aw1.programE 1 0 [10] = 0 := by kernel_rfl
theorem aw_r6 : decide (aw2.up 1 0 1 = 0 ∧ aw2.read 1 0 = 8) = true := by kernel_rfl
def aw3 : NorS := aw2.erase 1
theorem aw3_e : aw2.eraseE 1 = 0 := by kernel_rfl
theorem aw_r9 : decide (aw3.up 1 0 1 = 0 ∧ aw3.read 1 0 = 4294967295) = true := by kernel_rfl
def aw4 : NorS := aw3.program 1 0 [12]
theorem aw4_e : aw3.programE 1 0 [12] = 0 := by kernel_rfl
def aw5 : NorS := aw4.arms 1
def aw6 : NorS := aw5.program 1 5 [1, 2, 3]
theorem aw6_e : aw5.programE 1 5 [1, 2, 3] = 40 := by kernel_rfl
def aw7 : NorS := aw6.crash []
theorem aw_r16 : decide (aw7.up 1 5 1 = 0 ∧ aw7.read 1 5 = 1) = true := by kernel_rfl
theorem aw_r17 : decide (aw7.up 1 6 1 = 0 ∧ aw7.read 1 6 = 4294967295) = true := by kernel_rfl
def aw8 : NorS := aw7.arms 0
def aw9 : NorS := aw8.erase 1
theorem aw9_e : aw8.eraseE 1 = 40 := by kernel_rfl
def aw10 : NorS := aw9.crash [false, false, false, false, false, true]
theorem aw_r22 : decide (aw10.up 1 0 1 = 0 ∧ aw10.read 1 0 = 12) = true := by kernel_rfl
theorem aw_r23 : decide (aw10.up 1 5 1 = 0 ∧ aw10.read 1 5 = 4294967295) = true := by kernel_rfl
def aw11 : NorS := aw10.rewrite 1 0 [7]
theorem aw11_e : aw10.rewriteE 1 0 [7] = 41 := by kernel_rfl
def aw12 : NorS := aw11.rewrite 2 0 [7]
theorem aw12_e : aw11.rewriteE 2 0 [7] = 0 := by kernel_rfl
theorem aw_r28 : decide (aw12.up 2 0 1 = 0 ∧ aw12.read 2 0 = 7) = true := by kernel_rfl

set_option maxRecDepth 100000 in
set_option maxHeartbeats 4000000 in
theorem awake_is (w : World) : Calls Try.prog 15 #[] w fun e w' => e = .returned (.bool true) ∧ Frm NoB w w' := by
  go_enter Try.func15, Try.ntmps15
  go_wp2_with fail
  refine (own_new 4 2 (Frm.refl NoB w) (by omega) (by omega) (by omega)).mono ?_
  rintro e w1 ⟨p, q, c, rfl, hN, hp, hq, hF⟩
  have HN0 : Hid (Own w w1 p q c aw0) := hN
  clear hN hp hq hF
  go_wp2_with fail
  refine (own_program 1 0 [12] HN0.out (by intro x hx; simp at hx; omega) (by simp) _ rfl _ rfl).mono ?_
  rintro e w2 ⟨he, hN⟩
  rw [show aw0.programE 1 0 [12] = 0 from aw1_e] at he
  subst he
  have HN1 : Hid (Own w w2 p q c aw1) := hN
  clear hN HN0
  go_wp2_with fail
  refine (own_reads 1 0 12 _ HN1.out aw_r3).mono ?_
  rintro e w' ⟨rfl, rfl⟩
  go_wp2_with fail
  refine (own_program 1 0 [10] HN1.out (by intro x hx; simp at hx; omega) (by simp) _ rfl _ rfl).mono ?_
  rintro e w3 ⟨he, hN⟩
  rw [show aw1.programE 1 0 [10] = 0 from aw2_e] at he
  subst he
  have HN2 : Hid (Own w w3 p q c aw2) := hN
  clear hN HN1
  go_wp2_with fail
  refine (own_reads 1 0 8 _ HN2.out aw_r6).mono ?_
  rintro e w' ⟨rfl, rfl⟩
  go_wp2_with fail
  refine (own_erase 1 HN2.out).mono ?_
  rintro e w4 ⟨he, hN⟩
  rw [show aw2.eraseE 1 = 0 from aw3_e] at he
  subst he
  have HN3 : Hid (Own w w4 p q c aw3) := hN
  clear hN HN2
  go_wp2_with fail
  refine (own_reads 1 0 4294967295 _ HN3.out aw_r9).mono ?_
  rintro e w' ⟨rfl, rfl⟩
  go_wp2_with fail
  refine (own_program 1 0 [12] HN3.out (by intro x hx; simp at hx; omega) (by simp) _ rfl _ rfl).mono ?_
  rintro e w5 ⟨he, hN⟩
  rw [show aw3.programE 1 0 [12] = 0 from aw4_e] at he
  subst he
  have HN4 : Hid (Own w w5 p q c aw4) := hN
  clear hN HN3
  go_wp2_with fail
  refine (own_arm _ HN4.out (by omega)).mono ?_
  rintro e w6 ⟨rfl, hN⟩
  have HN5 : Hid (Own w w6 p q c aw5) := hN
  clear hN HN4
  go_wp2_with fail
  refine (own_program 1 5 [1, 2, 3] HN5.out (by intro x hx; simp at hx; omega) (by simp) _ rfl _ rfl).mono ?_
  rintro e w7 ⟨he, hN⟩
  rw [show aw5.programE 1 5 [1, 2, 3] = 40 from aw6_e] at he
  subst he
  have HN6 : Hid (Own w w7 p q c aw6) := hN
  clear hN HN5
  go_wp2_with fail
  refine (own_crash_nil HN6.out).mono ?_
  rintro e w8 ⟨rfl, hN⟩
  have HN7 : Hid (Own w w8 p q c aw7) := hN
  clear hN HN6
  go_wp2_with fail
  refine (own_reads 1 5 1 _ HN7.out aw_r16).mono ?_
  rintro e w' ⟨rfl, rfl⟩
  go_wp2_with fail
  refine (own_reads 1 6 4294967295 _ HN7.out aw_r17).mono ?_
  rintro e w' ⟨rfl, rfl⟩
  go_wp2_with fail
  refine (own_arm _ HN7.out (by omega)).mono ?_
  rintro e w9 ⟨rfl, hN⟩
  have HN8 : Hid (Own w w9 p q c aw8) := hN
  clear hN HN7
  go_wp2_with fail
  refine (own_erase 1 HN8.out).mono ?_
  rintro e w10 ⟨he, hN⟩
  rw [show aw8.eraseE 1 = 40 from aw9_e] at he
  subst he
  have HN9 : Hid (Own w w10 p q c aw9) := hN
  clear hN HN8
  go_wp2_with fail
  refine (own_crash [false, false, false, false, false, true] HN9.out (by simp) _ rfl _ rfl).mono ?_
  rintro e w11 ⟨rfl, hN⟩
  have HN10 : Hid (Own w w11 p q c aw10) := hN
  clear hN HN9
  go_wp2_with fail
  refine (own_reads 1 0 12 _ HN10.out aw_r22).mono ?_
  rintro e w' ⟨rfl, rfl⟩
  go_wp2_with fail
  refine (own_reads 1 5 4294967295 _ HN10.out aw_r23).mono ?_
  rintro e w' ⟨rfl, rfl⟩
  go_wp2_with fail
  refine (own_rewrite 1 0 [7] HN10.out (by intro x hx; simp at hx; omega) (by simp) _ rfl _ rfl).mono ?_
  rintro e w12 ⟨he, hN⟩
  rw [show aw10.rewriteE 1 0 [7] = 41 from aw11_e] at he
  subst he
  have HN11 : Hid (Own w w12 p q c aw11) := hN
  clear hN HN10
  go_wp2_with fail
  refine (own_rewrite 2 0 [7] HN11.out (by intro x hx; simp at hx; omega) (by simp) _ rfl _ rfl).mono ?_
  rintro e w13 ⟨he, hN⟩
  rw [show aw11.rewriteE 2 0 [7] = 0 from aw12_e] at he
  subst he
  have HN12 : Hid (Own w w13 p q c aw12) := hN
  clear hN HN11
  go_wp2_with fail
  refine (own_reads 2 0 7 _ HN12.out aw_r28).mono ?_
  rintro e w' ⟨rfl, rfl⟩
  go_wp2
  go_ret
  exact ⟨rfl, HN12.out.f⟩
end Go.Proofs.Ytlbnhmcejbidnaa
