/-
  The tally: Step, where it writes one word.
-/
import Derived.Test.YtmeegehmbphooaaTal6
namespace Go.Proofs.Ytmeegehmbphooaa
open Go.RowKit
theorem bitLen_log {n : Nat} (hn : n ≠ 0) (h : n < 18446744073709551616) : Lib.bitLen n = n.log2 + 1 := by
  have hl := Nat.log2_self_le hn
  have hu := Nat.lt_log2_self (n := n)
  have := Lib.bitLen_shift n.log2 n hl h
  have hp : 0 < 2 ^ n.log2 := Nat.pow_pos (by omega)
  have e1 : n / 2 ^ n.log2 = 1 := by
    rw [Nat.div_eq_iff hp]
    rw [Nat.pow_succ] at hu
    omega
  rw [this, e1]
  have : Lib.bitLen 1 = 1 := by decide +kernel
  rw [this]
theorem andNot_top {x : Int} (h1 : 0 < x) (h2 : x < 4294967296) : bits .andNot .u32 x ((2 ^ Nat.log2 x.toNat : Nat) : Int) = clr x := by
  obtain ⟨n, rfl⟩ := Int.eq_ofNat_of_zero_le (a := x) (by omega)
  have hn : n ≠ 0 := by omega
  have hl := Nat.log2_self_le hn
  have hu := Nat.lt_log2_self (n := n)
  have hk : n.log2 < 32 := (Nat.log2_lt hn).2 (by omega)
  unfold clr
  rw [Int.toNat_natCast]
  rw [u32_andNot _ _ (by omega) (by omega) (by omega) (by omega)]
  rw [Int.toNat_natCast, Int.toNat_natCast]
  generalize n.log2 = k at hl hu hk
  obtain ⟨r, rfl⟩ : ∃ r, n = 2 ^ k + r := ⟨n - 2 ^ k, by omega⟩
  have hr : r < 2 ^ k := by rw [Nat.pow_succ] at hu; omega
  have hkk : 2 ^ k < 2 ^ 32 := Nat.pow_lt_pow_right (by omega) hk
  have e3 : 2 ^ k + r = 2 ^ k ||| r := by have := Nat.two_pow_add_eq_or_of_lt hr 1; rwa [Nat.mul_one] at this
  have e : (2 ^ k + r) &&& (4294967295 - 2 ^ k) = r := by
    rw [e3, show 4294967295 - 2 ^ k = 2 ^ 32 - (2 ^ k + 1) from by omega]
    apply Nat.eq_of_testBit_eq
    intro i
    rw [Nat.testBit_and, Nat.testBit_or, Nat.testBit_two_pow_sub_succ hkk, Nat.testBit_two_pow]
    by_cases e : k = i
    · subst e; rw [Nat.testBit_lt_two_pow hr]; simp
    · by_cases hi : i < 32
      · simp [e, hi]
      · have : r.testBit i = false := Nat.testBit_lt_two_pow (Nat.lt_of_lt_of_le (Nat.lt_trans hr hkk) (Nat.pow_le_pow_right (by omega) (by omega)))
        simp [e, hi, this]
  rw [e]
  omega
theorem wrap_u32_nat {m : Nat} (h : m < 4294967296) : IntKind.u32.wrap (m : Int) = (m : Int) := by rw [IntKind.wrap_u32]; omega
theorem wrE_ne5 (d : DrvS) (s : NorS) (a : Int) (l : List Int) : ¬ d.wrE s a l = 5 := by
  unfold DrvS.wrE DrvS.rdE
  intro h
  repeat' split at h
  all_goals first | (cases h; done) | omega
section
variable {w : World} {g gd p q c : Nat} {on count : Int} {over : Bool} {s : NorS} {d : DrvS}
/-- behind a step -/
def StepPost (w : World) (g gd p q c : Nat) (s : NorS) (d : DrvS) (e : Ending) (w' : World) : Prop :=
  e = .returned (.int .i64 (d.stp s).2) ∧ NorAt w' p q c (d.stp s).1 ∧ ((d.stp s).2 = 0 ∨ (d.stp s).2 = 5 → TalAt w' g gd (d.fn (d.stp s).1) (look (d.fn (d.stp s).1)).1 (look (d.fn (d.stp s).1)).2 false) ∧
    (¬ (d.stp s).2 = 0 → ¬ (d.stp s).2 = 5 → ∃ f' on' count', TalAt w' g gd f' on' count' true) ∧ Frm (Tri p q g) w w'
set_option maxRecDepth 100000 in
set_option maxHeartbeats 2000000 in
theorem step_w0 (r : Nat) (h : TalAt w g gd (d.fn s) 0 count false) (hl : look (d.fn s) = (0, count)) (hg : DrvAt w gd p d) (hn : NorAt w p q c s) (hd : d.Ok s) (hc1 : count < 2147483648) (hr : room (d.fn s) 0 = r) (hr2 : 2 ≤ r) (hr64 : r < 64) (hx : 0 < d.fn s r ∧ d.fn s r < 4294967296) :
    Calls Try.prog 10 #[.pointer (some ⟨g, 0, none⟩)] w (StepPost w g gd p q c s d) := by
  have KR := hide (room_0 h (fun i => DrvS.fn_u32 hn.ok i))
  have c3 := h.ccount
  have c4 := h.cover
  have HT := hide h
  have HN := hide hn
  have HG := hide hg
  have HD := hide hd
  have HR := hide hr
  have KN := hide (tnone_is HT.out)
  have t1 : decide (count ≥ 2147483648) = false := decide_eq_false (by omega)
  obtain ⟨x, hxe⟩ : ∃ x, d.fn s r = x := ⟨_, rfl⟩
  rw [hxe] at hx
  have HST : Hid (d.stp s = (d.wr s (r : Int) [clr x], d.wrE s (r : Int) [clr x])) := by
    show _ = _
    unfold DrvS.stp
    rw [hl]
    simp only
    rw [if_neg (by omega), show offOf 0 = 0 from rfl, hr, if_pos ⟨by omega, by omega⟩, show 0 + r = r from by omega, hxe]
    try rfl
  have hyu : 0 ≤ clr x ∧ clr x < 4294967296 := by have := clr_facts hx.1 hx.2; omega
  obtain ⟨k, hk⟩ : ∃ k, Nat.log2 x.toNat = k := ⟨_, rfl⟩
  have hk32 : k < 32 := by rw [← hk]; exact (Nat.log2_lt (by omega)).2 (by omega)
  have hcl := andNot_top hx.1 hx.2
  rw [hk] at hcl
  obtain ⟨z, hz⟩ : ∃ z : Int, z = 31 - k := ⟨_, rfl⟩
  have KLZ : Hid (∀ W, Calls Try.prog 37 #[.int .u32 x] W fun e w' => e = .returned (.int .i64 z) ∧ w' = W) := fun W => by
    refine (lz32_is x W (by omega) (by omega)).mono ?_
    rintro e w' ⟨rfl, rfl⟩
    refine ⟨ret_int ?_, rfl⟩
    rw [bitLen_log (by omega) (by omega), hk]
    omega
  have s1 : IntKind.i64.wrap (31 - z) = (k : Int) := by rw [IntWalk.i64_in _ (by omega)]; omega
  have e2 : ((2 : Int) ^ k) = ((2 ^ k : Nat) : Int) := by rw [Int.natCast_pow]; rfl
  have hpk : 2 ^ k < 4294967296 := Nat.pow_lt_pow_right (m := k) (n := 32) (by omega) hk32
  have xv : Value.int .u32 (bits .andNot .u32 x (IntKind.u32.wrap (2 ^ k))) = Value.int .u32 (clr x) := by
    rw [e2, wrap_u32_nat hpk, hcl]
  obtain ⟨E, hE⟩ : ∃ E, d.wrE s (r : Int) [clr x] = E := ⟨_, rfl⟩
  rw [hE] at HST
  have HE := hide hE
  have HXE := hide hxe
  clear h hn hg hd hl hr hz hk hcl e2 hpk hE hxe
  go_enter Try.func10, Try.ntmps10
  go_wp2_with fail
  refine KN.out.mono ?_
  rintro e w' ⟨rfl, rfl⟩
  go_wp2_with fail
  refine KR.out.mono ?_
  rintro e w1 ⟨rfl, hF⟩
  rw [HR.out]
  have HT1 := hide (HT.out.frm hF (fun e => e))
  have HN1 := hide (HN.out.frm hF (fun e => e) (fun e => e))
  have HG1 := hide (HG.out.frm hF (fun e => e))
  have HF := hide hF
  have c1 := HT1.out.con
  have cr := HT1.out.cw (i := r) (by omega)
  rw [HXE.out, show 1 + (r) = 1 + r from by omega] at cr
  clear hF c3 c4 KN KR
  have z1 : (0 : Int) ≤ (r : Int) := by omega
  have z2 : (r : Int) < 64 := by omega
  have z3 : decide (0 < r) = true := decide_eq_true (by omega)
  have KW : Hid (∀ (n : Nat) (W : World), W = (w1.drewN n).alloc (.cells #[.int .u32 (clr x)] 37) → Calls Try.prog 36 #[.pointer (some ⟨g, 0, none⟩), .int .i64 0, .int .i64 r, .slice (some ⟨w1.heap.size, 0, none⟩) 1 1] W fun e w' => e = .returned (.int .i64 E) ∧ NorAt w' p q c (d.wr s (r : Int) [clr x]) ∧ TalAt w' g gd (if E = 0 then laidF (d.fn s) (r) [clr x] else d.fn s) 0 count false ∧ Frm (Tri p q g) w1 w') := by
    intro n W hW
    subst hW
    have hfa : Frm NoB w1 ((w1.drewN n).alloc (.cells #[.int .u32 (clr x)] 37)) := ((Frm.refl NoB w1).drewN n).alloc _
    refine (twrite_0 (s := s) r (some ⟨w1.heap.size, 0, none⟩) 1 [clr x] (by simp) (by simp; omega) (HT1.out.frm hfa (fun e => e)) (HG1.out.frm hfa (fun e => e)) (HN1.out.frm hfa (fun e => e) (fun e => e)) HD.out
      (rd_lit (w1.drewN n) [.int .u32 (clr x)] 37) (fun x hx => by
        injection hx with hx
        subst hx
        have h1 := HT1.out.lt; have h2 := HN1.out.ltp; have h3 := HN1.out.ltq
        exact ⟨fun e => by have e : w1.heap.size = p ∨ w1.heap.size = q ∨ w1.heap.size = g := e; omega, by simp⟩)
      (fun x hx => by simp only [List.mem_cons, List.not_mem_nil, or_false] at hx; rw [hx]; exact hyu) (by simp)).mono ?_
    rintro e w3 ⟨rfl, hN3, hT3, hF3⟩
    rw [HE.out] at hT3 ⊢
    exact ⟨rfl, hN3, hT3, (Tri.of_no hfa).trans hF3⟩
  by_cases h0 : E = 0
  · subst h0
    go_wp2_with fail
    go_quiet (fail)
    go_wp2_with fail
    go_region_held3 (fun w' => w'.cell? ⟨g, 129, none⟩ = some (.int .i64 0)) (first | go_keep | exact TalAt.con (by assumption))
      (first
        | (go_at_call 37; refine (KLZ.out _).mono ?_; rintro e w' ⟨rfl, rfl⟩)
        | (go_at_call 36; refine (KW.out _ _ rfl).mono ?_; rintro e w3 ⟨rfl, hN3, hT3, hF3⟩))
    have hw := DrvS.wr_ok (b := r) (l := [clr x]) HN1.out.ok HD.out HE.out
    have hT4 : TalAt w3 g gd (d.fn (d.wr s (r : Int) [clr x])) 0 count false := by
      rw [if_pos (by first | trivial | rfl)] at hT3
      exact hT3.congr (fun i hi => hw.2.2.2.2.2 i)
    have KL := hide (look_is hT4 (fun i => DrvS.fn_u32 hN3.ok i))
    have HN3 := hide hN3
    have HT4 := hide hT4
    have HF3 := hide hF3
    clear hw hT4 hT3 hN3 hF3 KW KLZ c1 cr
    go_wp2_with fail
    refine KL.out.mono ?_
    rintro e w4 ⟨rfl, hT5, hF4⟩
    have HT5 := hide hT5
    have HF4 := hide hF4
    have hne := hide (HT4.out.ne HN3.out)
    clear hT5 hF4
    go_wp2
    go_ret
    unfold StepPost
    rw [HST.out]
    exact ⟨rfl, HN3.out.frm HF4.out (fun e => hne.out.1 e.symm) (fun e => hne.out.2 e.symm), fun _ => HT5.out, fun h => absurd rfl h, ((Tri.of_no HF.out).trans HF3.out).trans (Tri.of_one HF4.out)⟩
  · have t5 : (E != 0) = true := by simpa using h0
    have H0 := hide h0
    clear h0
    go_wp2_with fail
    go_quiet (fail)
    go_wp2_with fail
    go_region_held3 (fun w' => w'.cell? ⟨g, 129, none⟩ = some (.int .i64 0)) (first | go_keep | exact TalAt.con (by assumption))
      (first
        | (go_at_call 37; refine (KLZ.out _).mono ?_; rintro e w' ⟨rfl, rfl⟩)
        | (go_at_call 36; refine (KW.out _ _ rfl).mono ?_; rintro e w3 ⟨rfl, hN3, hT3, hF3⟩))
    rw [if_neg H0.out] at hT3
    have c5 := hT3.cover
    have f5 := hT3.fz 131
    have HN3 := hide hN3
    have HT3 := hide hT3
    have HF3 := hide hF3
    have hne := hide (HT3.out.ne HN3.out)
    clear hT3 hN3 hF3 KW KLZ c1 cr
    go_wp2
    go_ret
    unfold StepPost
    rw [HST.out]
    refine ⟨rfl, HN3.out.frm (Frm.set1 (p := g) (Frm.refl _ w3) 131 _) (fun e => hne.out.1 e.symm) (fun e => hne.out.2 e.symm), fun h => ?_, fun _ _ => ⟨_, _, _, HT3.out.set_over true⟩, ((Tri.of_no HF.out).trans HF3.out).trans (Tri.of_one (Frm.set1 (p := g) (Frm.refl _ w3) 131 _))⟩
    rcases h with h | h
    · exact absurd h H0.out
    · exfalso
      have h5 : d.wrE s (r : Int) [clr x] = 5 := HE.out.trans h
      exact wrE_ne5 _ _ _ _ h5
set_option maxRecDepth 100000 in
set_option maxHeartbeats 2000000 in
theorem step_w1 (r : Nat) (h : TalAt w g gd (d.fn s) 1 count false) (hl : look (d.fn s) = (1, count)) (hg : DrvAt w gd p d) (hn : NorAt w p q c s) (hd : d.Ok s) (hc1 : count < 2147483648) (hr : room (d.fn s) 64 = r) (hr2 : 2 ≤ r) (hr64 : r < 64) (hx : 0 < d.fn s (64 + r) ∧ d.fn s (64 + r) < 4294967296) :
    Calls Try.prog 10 #[.pointer (some ⟨g, 0, none⟩)] w (StepPost w g gd p q c s d) := by
  have KR := hide (room_1 h (fun i => DrvS.fn_u32 hn.ok i))
  have c3 := h.ccount
  have c4 := h.cover
  have HT := hide h
  have HN := hide hn
  have HG := hide hg
  have HD := hide hd
  have HR := hide hr
  have KN := hide (tnone_is HT.out)
  have t1 : decide (count ≥ 2147483648) = false := decide_eq_false (by omega)
  obtain ⟨x, hxe⟩ : ∃ x, d.fn s (64 + r) = x := ⟨_, rfl⟩
  rw [hxe] at hx
  have HST : Hid (d.stp s = (d.wr s (64 + (r : Int)) [clr x], d.wrE s (64 + (r : Int)) [clr x])) := by
    show _ = _
    unfold DrvS.stp
    rw [hl]
    simp only
    rw [if_neg (by omega), show offOf 1 = 64 from rfl, hr, if_pos ⟨by omega, by omega⟩, show 64 + r = 64 + r from by omega, hxe]
    try rfl
  have hyu : 0 ≤ clr x ∧ clr x < 4294967296 := by have := clr_facts hx.1 hx.2; omega
  obtain ⟨k, hk⟩ : ∃ k, Nat.log2 x.toNat = k := ⟨_, rfl⟩
  have hk32 : k < 32 := by rw [← hk]; exact (Nat.log2_lt (by omega)).2 (by omega)
  have hcl := andNot_top hx.1 hx.2
  rw [hk] at hcl
  obtain ⟨z, hz⟩ : ∃ z : Int, z = 31 - k := ⟨_, rfl⟩
  have KLZ : Hid (∀ W, Calls Try.prog 37 #[.int .u32 x] W fun e w' => e = .returned (.int .i64 z) ∧ w' = W) := fun W => by
    refine (lz32_is x W (by omega) (by omega)).mono ?_
    rintro e w' ⟨rfl, rfl⟩
    refine ⟨ret_int ?_, rfl⟩
    rw [bitLen_log (by omega) (by omega), hk]
    omega
  have s1 : IntKind.i64.wrap (31 - z) = (k : Int) := by rw [IntWalk.i64_in _ (by omega)]; omega
  have e2 : ((2 : Int) ^ k) = ((2 ^ k : Nat) : Int) := by rw [Int.natCast_pow]; rfl
  have hpk : 2 ^ k < 4294967296 := Nat.pow_lt_pow_right (m := k) (n := 32) (by omega) hk32
  have xv : Value.int .u32 (bits .andNot .u32 x (IntKind.u32.wrap (2 ^ k))) = Value.int .u32 (clr x) := by
    rw [e2, wrap_u32_nat hpk, hcl]
  obtain ⟨E, hE⟩ : ∃ E, d.wrE s (64 + (r : Int)) [clr x] = E := ⟨_, rfl⟩
  rw [hE] at HST
  have HE := hide hE
  have HXE := hide hxe
  clear h hn hg hd hl hr hz hk hcl e2 hpk hE hxe
  go_enter Try.func10, Try.ntmps10
  go_wp2_with fail
  refine KN.out.mono ?_
  rintro e w' ⟨rfl, rfl⟩
  go_wp2_with fail
  refine KR.out.mono ?_
  rintro e w1 ⟨rfl, hF⟩
  rw [HR.out]
  have HT1 := hide (HT.out.frm hF (fun e => e))
  have HN1 := hide (HN.out.frm hF (fun e => e) (fun e => e))
  have HG1 := hide (HG.out.frm hF (fun e => e))
  have HF := hide hF
  have c1 := HT1.out.con
  have cr := HT1.out.cw (i := 64 + r) (by omega)
  rw [HXE.out, show 1 + (64 + r) = 65 + r from by omega] at cr
  clear hF c3 c4 KN KR
  have z1 : (0 : Int) ≤ (r : Int) := by omega
  have z2 : (r : Int) < 64 := by omega
  have z3 : decide (0 < r) = true := decide_eq_true (by omega)
  have KW : Hid (∀ (n : Nat) (W : World), W = (w1.drewN n).alloc (.cells #[.int .u32 (clr x)] 37) → Calls Try.prog 36 #[.pointer (some ⟨g, 0, none⟩), .int .i64 1, .int .i64 r, .slice (some ⟨w1.heap.size, 0, none⟩) 1 1] W fun e w' => e = .returned (.int .i64 E) ∧ NorAt w' p q c (d.wr s (64 + (r : Int)) [clr x]) ∧ TalAt w' g gd (if E = 0 then laidF (d.fn s) (64 + r) [clr x] else d.fn s) 1 count false ∧ Frm (Tri p q g) w1 w') := by
    intro n W hW
    subst hW
    have hfa : Frm NoB w1 ((w1.drewN n).alloc (.cells #[.int .u32 (clr x)] 37)) := ((Frm.refl NoB w1).drewN n).alloc _
    refine (twrite_1 (s := s) r (some ⟨w1.heap.size, 0, none⟩) 1 [clr x] (by simp) (by simp; omega) (HT1.out.frm hfa (fun e => e)) (HG1.out.frm hfa (fun e => e)) (HN1.out.frm hfa (fun e => e) (fun e => e)) HD.out
      (rd_lit (w1.drewN n) [.int .u32 (clr x)] 37) (fun x hx => by
        injection hx with hx
        subst hx
        have h1 := HT1.out.lt; have h2 := HN1.out.ltp; have h3 := HN1.out.ltq
        exact ⟨fun e => by have e : w1.heap.size = p ∨ w1.heap.size = q ∨ w1.heap.size = g := e; omega, by simp⟩)
      (fun x hx => by simp only [List.mem_cons, List.not_mem_nil, or_false] at hx; rw [hx]; exact hyu) (by simp)).mono ?_
    rintro e w3 ⟨rfl, hN3, hT3, hF3⟩
    rw [HE.out] at hT3 ⊢
    exact ⟨rfl, hN3, hT3, (Tri.of_no hfa).trans hF3⟩
  by_cases h0 : E = 0
  · subst h0
    go_wp2_with fail
    go_quiet (fail)
    go_wp2_with fail
    go_region_held3 (fun w' => w'.cell? ⟨g, 129, none⟩ = some (.int .i64 1)) (first | go_keep | exact TalAt.con (by assumption))
      (first
        | (go_at_call 37; refine (KLZ.out _).mono ?_; rintro e w' ⟨rfl, rfl⟩)
        | (go_at_call 36; refine (KW.out _ _ rfl).mono ?_; rintro e w3 ⟨rfl, hN3, hT3, hF3⟩))
    have hw := DrvS.wr_ok (b := 64 + r) (l := [clr x]) HN1.out.ok HD.out HE.out
    have hT4 : TalAt w3 g gd (d.fn (d.wr s (64 + (r : Int)) [clr x])) 1 count false := by
      rw [if_pos (by first | trivial | rfl)] at hT3
      exact hT3.congr (fun i hi => hw.2.2.2.2.2 i)
    have KL := hide (look_is hT4 (fun i => DrvS.fn_u32 hN3.ok i))
    have HN3 := hide hN3
    have HT4 := hide hT4
    have HF3 := hide hF3
    clear hw hT4 hT3 hN3 hF3 KW KLZ c1 cr
    go_wp2_with fail
    refine KL.out.mono ?_
    rintro e w4 ⟨rfl, hT5, hF4⟩
    have HT5 := hide hT5
    have HF4 := hide hF4
    have hne := hide (HT4.out.ne HN3.out)
    clear hT5 hF4
    go_wp2
    go_ret
    unfold StepPost
    rw [HST.out]
    exact ⟨rfl, HN3.out.frm HF4.out (fun e => hne.out.1 e.symm) (fun e => hne.out.2 e.symm), fun _ => HT5.out, fun h => absurd rfl h, ((Tri.of_no HF.out).trans HF3.out).trans (Tri.of_one HF4.out)⟩
  · have t5 : (E != 0) = true := by simpa using h0
    have H0 := hide h0
    clear h0
    go_wp2_with fail
    go_quiet (fail)
    go_wp2_with fail
    go_region_held3 (fun w' => w'.cell? ⟨g, 129, none⟩ = some (.int .i64 1)) (first | go_keep | exact TalAt.con (by assumption))
      (first
        | (go_at_call 37; refine (KLZ.out _).mono ?_; rintro e w' ⟨rfl, rfl⟩)
        | (go_at_call 36; refine (KW.out _ _ rfl).mono ?_; rintro e w3 ⟨rfl, hN3, hT3, hF3⟩))
    rw [if_neg H0.out] at hT3
    have c5 := hT3.cover
    have f5 := hT3.fz 131
    have HN3 := hide hN3
    have HT3 := hide hT3
    have HF3 := hide hF3
    have hne := hide (HT3.out.ne HN3.out)
    clear hT3 hN3 hF3 KW KLZ c1 cr
    go_wp2
    go_ret
    unfold StepPost
    rw [HST.out]
    refine ⟨rfl, HN3.out.frm (Frm.set1 (p := g) (Frm.refl _ w3) 131 _) (fun e => hne.out.1 e.symm) (fun e => hne.out.2 e.symm), fun h => ?_, fun _ _ => ⟨_, _, _, HT3.out.set_over true⟩, ((Tri.of_no HF.out).trans HF3.out).trans (Tri.of_one (Frm.set1 (p := g) (Frm.refl _ w3) 131 _))⟩
    rcases h with h | h
    · exact absurd h H0.out
    · exfalso
      have h5 : d.wrE s (64 + (r : Int)) [clr x] = 5 := HE.out.trans h
      exact wrE_ne5 _ _ _ _ h5
end
end Go.Proofs.Ytmeegehmbphooaa
