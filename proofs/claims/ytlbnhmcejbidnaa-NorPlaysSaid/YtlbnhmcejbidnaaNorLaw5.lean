/-
  The helpers of the flash's statements: what an op does (the other kinds), made.
-/
import Derived.Test.YtlbnhmcejbidnaaNorLaw4
namespace Go.Proofs.Ytlbnhmcejbidnaa
open Go.RowKit
section
variable {w : World} {p q c : Nat} {s : NorS} {B : Nat} {o : OpS} {AL AK : Option Addr} {cL cK : Nat}
set_option maxHeartbeats 1000000 in
theorem does_erase (h : NorAt w p q c s) (ho : OpIs w B o AL cL AK cK) (hp : B ≤ p) (hq : B ≤ q) (k : Nat) (hk : o.kind = k) (hk1 : k = 5 ∨ k = 6) :
    Calls Try.prog 10 #[.pointer (some ⟨p, 0, none⟩), opVal o AL cL AK cK] w (DoesPost w p q c s o) := by
  have E : Hid (s.does o = s.erase o.sector) := by show _ = _; unfold NorS.does; rw [if_neg (by omega), if_pos (by omega)]
  have E' : Hid (s.doesE o = s.eraseE o.sector) := by show _ = _; unfold NorS.doesE; rw [if_neg (by omega), if_pos (by omega)]
  unfold opVal
  have hll := ho.ll
  have hlc := ho.lc
  have HO := hide ho
  have H := hide h
  rw [hk]
  clear h ho hk
  have c1 : k = 5 ∨ k = 6 := hk1
  rcases Nat.lt_or_ge 70 o.l.length with h70 | h70
  all_goals
    rcases c1 with rfl | rfl
    all_goals
      go_enter Try.func10, Try.ntmps10
      go_wp2_with fail
      refine (erase_is _ ((Hid.out H).alloc _)).mono ?_
      rintro e w1 ⟨rfl, hN1, hF1⟩
      have HN1 := hide hN1
      have HF1 := hide (((Frm.refl (Two p q) w).alloc _).trans hF1)
      clear hN1 hF1
      go_wp2
      go_ret
      exact ⟨ret_int E'.out.symm, by rw [E.out]; exact HN1.out, HF1.out⟩
set_option maxHeartbeats 1000000 in
theorem does_arm (h : NorAt w p q c s) (ho : OpIs w B o AL cL AK cK) (hp : B ≤ p) (hq : B ≤ q) (k : Nat) (hk : o.kind = k) (hk1 : k = 8) :
    Calls Try.prog 10 #[.pointer (some ⟨p, 0, none⟩), opVal o AL cL AK cK] w (DoesPost w p q c s o) := by
  have E : Hid (s.does o = s.arms o.at_) := by show _ = _; unfold NorS.does; rw [if_neg (by omega), if_neg (by omega), if_neg (by omega), if_pos (by omega)]
  have E' : Hid (s.doesE o = 0) := by show _ = _; unfold NorS.doesE; rw [if_neg (by omega), if_neg (by omega), if_neg (by omega)]
  unfold opVal
  have hll := ho.ll
  have hlc := ho.lc
  have HO := hide ho
  have H := hide h
  rw [hk]
  clear h ho hk
  have c1 : k = 8 := hk1
  rcases Nat.lt_or_ge 70 o.l.length with h70 | h70
  all_goals
    rcases c1 with rfl
    all_goals
      go_enter Try.func10, Try.ntmps10
      go_wp2_with fail
      refine (arm_is _ ((Hid.out H).alloc _) HO.out.a1).mono ?_
      rintro e w1 ⟨rfl, hN1, hF1⟩
      have HN1 := hide hN1
      have HF1 := hide (((Frm.refl (Two p q) w).alloc _).trans hF1)
      clear hN1 hF1
      go_wp2
      go_ret
      exact ⟨ret_int E'.out.symm, by rw [E.out]; exact HN1.out, HF1.out⟩
set_option maxHeartbeats 1000000 in
theorem does_crash (h : NorAt w p q c s) (ho : OpIs w B o AL cL AK cK) (hp : B ≤ p) (hq : B ≤ q) (k : Nat) (hk : o.kind = k) (hk1 : k = 9 ∨ k = 10) :
    Calls Try.prog 10 #[.pointer (some ⟨p, 0, none⟩), opVal o AL cL AK cK] w (DoesPost w p q c s o) := by
  have E : Hid (s.does o = s.crash o.keeps) := by show _ = _; unfold NorS.does; rw [if_neg (by omega), if_neg (by omega), if_neg (by omega), if_neg (by omega), if_pos (by omega)]
  have E' : Hid (s.doesE o = 0) := by show _ = _; unfold NorS.doesE; rw [if_neg (by omega), if_neg (by omega), if_neg (by omega)]
  unfold opVal
  have hll := ho.ll
  have hlc := ho.lc
  have HO := hide ho
  have H := hide h
  rw [hk]
  clear h ho hk
  have c1 : k = 9 ∨ k = 10 := hk1
  rcases Nat.lt_or_ge 70 o.l.length with h70 | h70
  all_goals
    rcases c1 with rfl | rfl
    all_goals
      go_enter Try.func10, Try.ntmps10
      go_wp2_with fail
      refine (crash_is _ _ _ ((Hid.out H).alloc _) (HO.out.rk.frm ((Frm.refl NoB w).alloc _) (fun _ _ e => e)) (fun hne a ha => below_two hp hq _ (HO.out.bk hne a ha)) HO.out.kl).mono ?_
      rintro e w1 ⟨rfl, hN1, hF1⟩
      have HN1 := hide hN1
      have HF1 := hide (((Frm.refl (Two p q) w).alloc _).trans hF1)
      clear hN1 hF1
      go_wp2
      go_ret
      exact ⟨ret_int E'.out.symm, by rw [E.out]; exact HN1.out, HF1.out⟩
set_option maxHeartbeats 1000000 in
theorem does_else (h : NorAt w p q c s) (ho : OpIs w B o AL cL AK cK) (hk1 : ¬ (1 ≤ o.kind ∧ o.kind ≤ 10)) :
    Calls Try.prog 10 #[.pointer (some ⟨p, 0, none⟩), opVal o AL cL AK cK] w (DoesPost w p q c s o) := by
  have E : Hid (s.does o = s) := by show _ = _; unfold NorS.does; rw [if_neg (by omega), if_neg (by omega), if_neg (by omega), if_neg (by omega), if_neg (by omega)]
  have E' : Hid (s.doesE o = 0) := by show _ = _; unfold NorS.doesE; rw [if_neg (by omega), if_neg (by omega), if_neg (by omega)]
  unfold opVal
  have hll := ho.ll
  have hlc := ho.lc
  have H := hide h
  have b1 : (o.kind == 1) = false := by rw [beq_eq_false_iff_ne]; omega
  have b2 : (o.kind == 2) = false := by rw [beq_eq_false_iff_ne]; omega
  have b3 : (o.kind == 3) = false := by rw [beq_eq_false_iff_ne]; omega
  have b4 : (o.kind == 4) = false := by rw [beq_eq_false_iff_ne]; omega
  have b5 : (o.kind == 5) = false := by rw [beq_eq_false_iff_ne]; omega
  have b6 : (o.kind == 6) = false := by rw [beq_eq_false_iff_ne]; omega
  have b7 : (o.kind == 7) = false := by rw [beq_eq_false_iff_ne]; omega
  have b8 : (o.kind == 8) = false := by rw [beq_eq_false_iff_ne]; omega
  have b9 : (o.kind == 9) = false := by rw [beq_eq_false_iff_ne]; omega
  have b10 : (o.kind == 10) = false := by rw [beq_eq_false_iff_ne]; omega
  clear h ho hk1
  rcases Nat.lt_or_ge 70 o.l.length with h70 | h70
  all_goals
    go_enter Try.func10, Try.ntmps10
    go_wp2
    go_ret
    exact ⟨ret_int E'.out.symm, by rw [E.out]; exact (Hid.out H).alloc _, (Frm.refl _ w).alloc _⟩

theorem does_is (h : NorAt w p q c s) (ho : OpIs w B o AL cL AK cK) (hp : B ≤ p) (hq : B ≤ q) :
    Calls Try.prog 10 #[.pointer (some ⟨p, 0, none⟩), opVal o AL cL AK cK] w (DoesPost w p q c s o) := by
  by_cases hk : 1 ≤ o.kind ∧ o.kind ≤ 10
  · obtain ⟨k, hk'⟩ := Int.eq_ofNat_of_zero_le (a := o.kind) (by omega)
    by_cases h4 : k ≤ 4
    · exact does_prog h ho hp hq k hk' ⟨by omega, h4⟩
    · by_cases h6 : k ≤ 6
      · exact does_erase h ho hp hq k hk' (by omega)
      · by_cases h7 : k = 7
        · exact does_rew h ho hp hq k hk' h7
        · by_cases h8 : k = 8
          · exact does_arm h ho hp hq k hk' h8
          · exact does_crash h ho hp hq k hk' (by omega)
  · exact does_else h ho hk

/-- The ops of an argument, all their rows below block B. -/
structure OpsAt (w : World) (B : Nat) (A : Option Addr) (ops : List OpS) : Prop where
  at_ : ∀ i (h : i < ops.length), ∃ b x AL cL AK cK, A = some ⟨b, x, none⟩ ∧ b < B ∧ OpIs w B (ops[i]'h) AL cL AK cK ∧
    w.cell? ⟨b, x + i * 5, none⟩ = some (.int .i64 (ops[i]'h).kind) ∧ w.cell? ⟨b, x + i * 5 + 1, none⟩ = some (.int .i64 (ops[i]'h).sector) ∧ w.cell? ⟨b, x + i * 5 + 2, none⟩ = some (.int .i64 (ops[i]'h).at_) ∧
    w.cell? ⟨b, x + i * 5 + 3, none⟩ = some (.slice AL (ops[i]'h).l.length cL) ∧ w.cell? ⟨b, x + i * 5 + 4, none⟩ = some (.slice AK (ops[i]'h).keeps.length cK)
theorem OpsAt.frm {S : Nat → Prop} {w w' : World} {B : Nat} {A : Option Addr} {ops : List OpS} (h : OpsAt w B A ops) (hf : Frm S w w') (hs : ∀ k, k < B → ¬ S k) : OpsAt w' B A ops := by
  refine ⟨fun i hi => ?_⟩
  obtain ⟨b, x, AL, cL, AK, cK, rfl, hb, h0, h1, h2, h3, h4, h5⟩ := h.at_ i hi
  have hc : ∀ {n : Nat} {v : Value}, w.cell? ⟨b, n, none⟩ = some v → w'.cell? ⟨b, n, none⟩ = some v := fun {n v} hv => by
    rw [hf.cell (World.block_lt_of_cell? w _ hv) (show ¬ S b from hs b hb)]; exact hv
  exact ⟨b, x, AL, cL, AK, cK, rfl, hb, h0.frm hf hs, hc h1, hc h2, hc h3, hc h4, hc h5⟩

namespace NorS
def runs (s : NorS) (ops : List OpS) : NorS := (ops.take 40).foldl NorS.does s
end NorS
def MadeRel (w : World) (B : Nat) (ops : List OpS) (p q c : Nat) (i : Value) (wr : World) : Prop := ∃ j : Nat, j ≤ ops.length ∧ j ≤ 40 ∧ i = .int .i64 j ∧ NorAt wr p q c ((ops.take j).foldl NorS.does (NorS.new 4 2)) ∧ Frm NoB w wr
def MadePost (w : World) (ops : List OpS) (e : Ending) (w' : World) : Prop := ∃ p q c, e = .returned (.tuple #[.pointer (some ⟨p, 0, none⟩), .bool true]) ∧ NorAt w' p q c (((NorS.new 4 2).runs ops).crash []) ∧ w.heap.size ≤ p ∧ w.heap.size ≤ q ∧ Frm NoB w w'

set_option maxHeartbeats 1000000 in
theorem made_is (A : Option Addr) (cp : Nat) (ops : List OpS) (h : OpsAt w B A ops) (hB : B ≤ w.heap.size) (hm : (ops.length : Int) ≤ 9223372036854775807) :
    Calls Try.prog 16 #[.slice A ops.length cp] w (MadePost w ops) := by
  have HO := hide h
  clear h
  go_enter Try.func16, Try.ntmps16
  go_wp2_with fail
  refine (new_is 4 2 w (by omega) (by omega) (by omega)).mono ?_
  rintro e w1 ⟨p, q, c, rfl, hN, hp, hq, hF⟩
  have HN := hide hN
  have HF := hide hF
  clear hN hF
  go_wp2_with fail
  go_loopw [6] (fun i wr => MadeRel w B ops p q c i wr) (fun i _ => ops.length - (intOf i).toNat)
  case atStart => exact ⟨0, by omega, by omega, rfl, HN.out, HF.out⟩
  case round =>
    obtain ⟨j, hj, hj40, rfl, hN, hF⟩ := hrel
    have HN1 := hide hN
    have HF1 := hide hF
    clear hN hF
    by_cases hlt : j < ops.length
    · by_cases hlt4 : j < 40
      · obtain ⟨b, x, AL, cL, AK, cK, rfl, hb, h0, h1, h2, h3, h4, h5⟩ := (HO.out.frm HF1.out (fun _ _ e => e)).at_ j hlt
        have H0 := hide h0
        clear h0
        go_wp2_with fail
        refine (does_is HN1.out H0.out (by omega) (by omega)).mono ?_
        rintro e w2 ⟨rfl, hN2, hF2⟩
        have HN2 := hide hN2
        have HF2 := hide hF2
        clear hN2 hF2 h1 h2 h3 h4 h5
        go_wp2
        go_roundw
        case rel =>
          refine ⟨j + 1, by omega, by omega, by go_num, ?_, (HF1.out).then_ HF2.out (fun i hi he => by rcases he with he | he <;> omega)⟩
          rw [List.take_succ_eq_append_getElem hlt, List.foldl_append]
          exact HN2.out
        case measure => simp [intOf]; omega
      · obtain rfl : j = 40 := by omega
        have e : (ops.take 40).foldl NorS.does (NorS.new 4 2) = (NorS.new 4 2).runs ops := rfl
        go_wp2_with fail
        refine (crash_is none 0 [] HN1.out (Rd.nil _ _) (fun _ a ha => by cases ha) (by simp)).mono ?_
        rintro e w2 ⟨rfl, hN2, hF2⟩
        have HN2 := hide hN2
        have HF2 := hide hF2
        clear hN2 hF2
        go_wp2
        go_ret2
        exact ⟨p, q, c, rfl, HN2.out, hp, hq, HF1.out.then_ HF2.out (fun i hi he => by rcases he with he | he <;> omega)⟩
    · obtain rfl : j = ops.length := by omega
      have e : (ops.take ops.length).foldl NorS.does (NorS.new 4 2) = (NorS.new 4 2).runs ops := by
        rw [List.take_length]; unfold NorS.runs; rw [List.take_of_length_le (by omega)]
      have HE := hide e
      clear e
      go_wp2_with fail
      refine (crash_is none 0 [] HN1.out (Rd.nil _ _) (fun _ a ha => by cases ha) (by simp)).mono ?_
      rintro e w2 ⟨rfl, hN2, hF2⟩
      have HN2 := hide hN2
      have HF2 := hide hF2
      clear hN2 hF2
      go_wp2
      go_ret2
      refine ⟨p, q, c, rfl, ?_, hp, hq, HF1.out.then_ HF2.out (fun i hi he => by rcases he with he | he <;> omega)⟩
      rw [← HE.out]
      exact HN2.out
end
end Go.Proofs.Ytlbnhmcejbidnaa
