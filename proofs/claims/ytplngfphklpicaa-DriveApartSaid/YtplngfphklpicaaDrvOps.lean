/-
  The helpers of the drive's statements: an op, and what it does; made.
-/
import Derived.Test.YtplngfphklpicaaDrvOwn
namespace Go.Proofs.Ytplngfphklpicaa
open Go.RowKit
/-- An op of the flash's statements. -/
structure OpS where
  kind : Int
  sector : Int
  at_ : Int
  l : List Int
  keeps : List Bool
/-- How an op lies in memory, all its rows below block B. -/
structure OpIs (w : World) (B : Nat) (o : OpS) (AL : Option Addr) (cL : Nat) (AK : Option Addr) (cK : Nat) : Prop where
  rl : Rd w AL (ints .u32 o.l)
  bl : o.l ≠ [] → ∀ a, AL = some a → a.block < B
  rk : Rd w AK (bools o.keeps)
  bk : o.keeps ≠ [] → ∀ a, AK = some a → a.block < B
  u : U32 o.l
  k0 : -9223372036854775808 ≤ o.kind
  k1 : o.kind ≤ 9223372036854775807
  s0 : -9223372036854775808 ≤ o.sector
  s1 : o.sector ≤ 9223372036854775807
  a0 : -9223372036854775808 ≤ o.at_
  a1 : o.at_ ≤ 9223372036854775807
  ll : o.l.length ≤ cL
  lc : (cL : Int) ≤ 9223372036854775807
  kl : (o.keeps.length : Int) ≤ 9223372036854775807
  kc : o.keeps.length ≤ cK
def opVal (o : OpS) (AL : Option Addr) (cL : Nat) (AK : Option Addr) (cK : Nat) : Value := .agg #[.int .i64 o.kind, .int .i64 o.sector, .int .i64 o.at_, .slice AL o.l.length cL, .slice AK o.keeps.length cK]
theorem OpIs.frm {S : Nat → Prop} {w w' : World} {B : Nat} {o : OpS} {AL AK : Option Addr} {cL cK : Nat} (h : OpIs w B o AL cL AK cK) (hf : Frm S w w') (hs : ∀ k, k < B → ¬ S k) : OpIs w' B o AL cL AK cK :=
  ⟨by
    by_cases e : o.l = []
    · rw [e]; exact Rd.nil _ _
    · exact h.rl.frm hf (fun a ha => hs _ (h.bl e a ha)), h.bl, by
    by_cases e : o.keeps = []
    · rw [e]; exact Rd.nil _ _
    · exact h.rk.frm hf (fun a ha => hs _ (h.bk e a ha)), h.bk, h.u, h.k0, h.k1, h.s0, h.s1, h.a0, h.a1, h.ll, h.lc, h.kl, h.kc⟩

namespace DrvS
def does (d : DrvS) (s : NorS) (o : OpS) : NorS :=
  if o.kind = 1 ∨ o.kind = 2 ∨ o.kind = 3 ∨ o.kind = 4 then d.wr s o.sector (o.l.take 200)
  else if o.kind = 5 then d.er s o.sector
  else if o.kind = 6 then s
  else if o.kind = 7 then s.arms o.at_
  else if o.kind = 8 ∨ o.kind = 9 then s.crash o.keeps else s
def doesE (d : DrvS) (s : NorS) (o : OpS) : Int :=
  if o.kind = 1 ∨ o.kind = 2 ∨ o.kind = 3 ∨ o.kind = 4 then d.wrE s o.sector (o.l.take 200)
  else if o.kind = 5 then d.erE s o.sector
  else if o.kind = 6 then d.rdE s o.sector (min o.at_ 300)
  else 0
theorem wr_n (d : DrvS) (s : NorS) (a : Int) (l : List Int) : (d.wr s a l).n = s.n := by
  unfold wr; split
  · split
    · rfl
    · exact (NorS.prog_same l s _).1
  · rfl
theorem er_n (d : DrvS) (s : NorS) (k : Int) : (d.er s k).n = s.n := by
  unfold er; split
  · unfold NorS.erase; split
    · split <;> exact NorS.step_n s
    · rfl
  · rfl
theorem does_n (d : DrvS) (s : NorS) (o : OpS) : (d.does s o).n = s.n := by
  unfold does
  repeat' split
  · exact wr_n d s _ _
  · exact er_n d s _
  · rfl
  · unfold NorS.arms; split <;> rfl
  · rfl
  · rfl
theorem runs_n (d : DrvS) (ops : List OpS) : ∀ s : NorS, (ops.foldl d.does s).n = s.n := by
  induction ops with
  | nil => intro s; rfl
  | cons o r ih => intro s; exact (ih _).trans (does_n d s o)
theorem Ok.of_n {d : DrvS} {s s' : NorS} (h : d.Ok s) (e : s'.n = s.n) : d.Ok s' := ⟨h.m, by rw [e]; exact h.n⟩
end DrvS
section
variable {w : World} {g p q c : Nat} {s : NorS} {d : DrvS} {B : Nat} {o : OpS} {AL AK : Option Addr} {cL cK : Nat}
def DoesPost (w : World) (p q c : Nat) (d : DrvS) (s : NorS) (o : OpS) (e : Ending) (w' : World) : Prop := e = .returned (.int .i64 (d.doesE s o)) ∧ NorAt w' p q c (d.does s o) ∧ Frm (Two p q) w w'
theorem dread_at (a m : Int) (h : DrvAt w g p d) (hn : NorAt w p q c s) (hd : d.Ok s) (m' : Int) (hm : m' = m) :
    Calls Try.prog 9 #[.pointer (some ⟨g, 0, none⟩), .int .i64 a, .int .i64 m] w fun e w' => ∃ A n cp, e = .returned (.tuple #[.slice A n cp, .int .i64 (d.rdE s a m')]) ∧ Frm NoB w w' := by
  subst hm
  refine (dread_is a m' h hn hd).mono ?_
  rintro e w' ⟨A, cp, rfl, _, _, _, hf⟩
  exact ⟨A, _, cp, rfl, hf⟩
set_option maxHeartbeats 1000000 in
theorem does_write (hg : DrvAt w g p d) (h : NorAt w p q c s) (hd : d.Ok s) (ho : OpIs w B o AL cL AK cK) (hp : B ≤ p) (hq : B ≤ q) (hB : B ≤ w.heap.size) (k : Nat) (hk : o.kind = k) (hk1 : k = 1 ∨ k = 2 ∨ k = 3 ∨ k = 4) :
    Calls Try.prog 27 #[.pointer (some ⟨p, 0, none⟩), .pointer (some ⟨g, 0, none⟩), opVal o AL cL AK cK] w (DoesPost w p q c d s o) := by
  have E : Hid (d.does s o = d.wr s o.sector (o.l.take 200)) := by show _ = _; unfold DrvS.does; rw [if_pos (by omega)]
  have E' : Hid (d.doesE s o = d.wrE s o.sector (o.l.take 200)) := by show _ = _; unfold DrvS.doesE; rw [if_pos (by omega)]
  unfold opVal
  have hll := ho.ll
  have hlc := ho.lc
  have ha1 := ho.a1
  have HG := hide (hg.frm ((Frm.refl NoB w).alloc (.cells #[.int .i64 o.kind, .int .i64 o.sector, .int .i64 o.at_, .slice AL o.l.length cL, .slice AK o.keeps.length cK] 61)) (fun e => e))
  have HO := hide ho
  have H := hide h
  have HOK := hide hd
  rw [hk] at HG ⊢
  clear hg h ho hk hd
  have HLn : Hid ((o.l.take 200).length = min 200 o.l.length) := List.length_take
  have hh2 : ((o.l.take 200).length : Int) ≤ 9223372036854775807 := by rw [HLn.out]; omega
  have c1 : k = 1 ∨ k = 2 ∨ k = 3 ∨ k = 4 := by omega
  rcases Nat.lt_or_ge 200 o.l.length with h70 | h70
  all_goals
    rcases c1 with rfl | rfl | rfl | rfl
    all_goals
      go_enter Try.func27, Try.ntmps27
      go_wp2_with fail
      refine (dwrite_at _ AL cL _ (o.l.take 200) (HLn.out.trans (by omega)) HG.out ((Hid.out H).alloc _) HOK.out (by rw [ints_take]; exact ((HO.out.rl.frm ((Frm.refl NoB w).alloc _) (fun _ _ e => e)).take 200)) (fun hne a ha => ⟨below_two hp hq _ (HO.out.bl (fun e => hne (by rw [e]; rfl)) a ha), by have := HO.out.bl (fun e => hne (by rw [e]; rfl)) a ha; simp; omega⟩) (HO.out.u.take 200) (by rw [HLn.out]; omega) hh2).mono ?_
      rintro e w1 ⟨rfl, hN1, hF1⟩
      have HN1 := hide hN1
      have HF1 := hide (((Frm.refl (Two p q) w).alloc _).trans hF1)
      clear hN1 hF1
      go_wp2
      go_ret
      exact ⟨ret_int E'.out.symm, by rw [E.out]; exact HN1.out, HF1.out⟩
set_option maxHeartbeats 1000000 in
theorem does_erase (hg : DrvAt w g p d) (h : NorAt w p q c s) (hd : d.Ok s) (ho : OpIs w B o AL cL AK cK) (hp : B ≤ p) (hq : B ≤ q) (hB : B ≤ w.heap.size) (k : Nat) (hk : o.kind = k) (hk1 : k = 5) :
    Calls Try.prog 27 #[.pointer (some ⟨p, 0, none⟩), .pointer (some ⟨g, 0, none⟩), opVal o AL cL AK cK] w (DoesPost w p q c d s o) := by
  have E : Hid (d.does s o = d.er s o.sector) := by show _ = _; unfold DrvS.does; rw [if_neg (by omega), if_pos (by omega)]
  have E' : Hid (d.doesE s o = d.erE s o.sector) := by show _ = _; unfold DrvS.doesE; rw [if_neg (by omega), if_pos (by omega)]
  unfold opVal
  have hll := ho.ll
  have hlc := ho.lc
  have ha1 := ho.a1
  have HG := hide (hg.frm ((Frm.refl NoB w).alloc (.cells #[.int .i64 o.kind, .int .i64 o.sector, .int .i64 o.at_, .slice AL o.l.length cL, .slice AK o.keeps.length cK] 61)) (fun e => e))
  have HO := hide ho
  have H := hide h
  have HOK := hide hd
  rw [hk] at HG ⊢
  clear hg h ho hk hd
  have HLn : Hid ((o.l.take 200).length = min 200 o.l.length) := List.length_take
  have hh2 : ((o.l.take 200).length : Int) ≤ 9223372036854775807 := by rw [HLn.out]; omega
  have c1 : k = 5 := by omega
  rcases Nat.lt_or_ge 200 o.l.length with h70 | h70
  all_goals
    rcases c1 with rfl
    all_goals
      go_enter Try.func27, Try.ntmps27
      go_wp2_with fail
      refine (derase_is _ HG.out ((Hid.out H).alloc _) (by have := HOK.out.n; have := (Hid.out H).ok.n2; omega) HO.out.s0).mono ?_
      rintro e w1 ⟨rfl, hN1, hF1⟩
      have HN1 := hide hN1
      have HF1 := hide (((Frm.refl (Two p q) w).alloc _).trans hF1)
      clear hN1 hF1
      go_wp2
      go_ret
      exact ⟨ret_int E'.out.symm, by rw [E.out]; exact HN1.out, HF1.out⟩
set_option maxHeartbeats 1000000 in
theorem does_read (hg : DrvAt w g p d) (h : NorAt w p q c s) (hd : d.Ok s) (ho : OpIs w B o AL cL AK cK) (hp : B ≤ p) (hq : B ≤ q) (hB : B ≤ w.heap.size) (k : Nat) (hk : o.kind = k) (hk1 : k = 6) :
    Calls Try.prog 27 #[.pointer (some ⟨p, 0, none⟩), .pointer (some ⟨g, 0, none⟩), opVal o AL cL AK cK] w (DoesPost w p q c d s o) := by
  have E : Hid (d.does s o = s) := by show _ = _; unfold DrvS.does; rw [if_neg (by omega), if_neg (by omega), if_pos (by omega)]
  have E' : Hid (d.doesE s o = d.rdE s o.sector (min o.at_ 300)) := by show _ = _; unfold DrvS.doesE; rw [if_neg (by omega), if_neg (by omega), if_pos (by omega)]
  unfold opVal
  have hll := ho.ll
  have hlc := ho.lc
  have ha1 := ho.a1
  have HG := hide (hg.frm ((Frm.refl NoB w).alloc (.cells #[.int .i64 o.kind, .int .i64 o.sector, .int .i64 o.at_, .slice AL o.l.length cL, .slice AK o.keeps.length cK] 61)) (fun e => e))
  have HO := hide ho
  have H := hide h
  have HOK := hide hd
  rw [hk] at HG ⊢
  clear hg h ho hk hd
  have HLn : Hid ((o.l.take 200).length = min 200 o.l.length) := List.length_take
  have hh2 : ((o.l.take 200).length : Int) ≤ 9223372036854775807 := by rw [HLn.out]; omega
  have c1 : k = 6 := by omega
  rcases Nat.lt_or_ge 200 o.l.length with h70 | h70
  all_goals
    rcases Int.lt_or_le 300 o.at_ with h300 | h300
    all_goals
      rcases c1 with rfl
      all_goals
        go_enter Try.func27, Try.ntmps27
        go_wp2_with fail
        refine (dread_at _ _ HG.out ((Hid.out H).alloc _) HOK.out (min o.at_ 300) (by omega)).mono ?_
        rintro e w1 ⟨A1, n1, cp1, rfl, hF1⟩
        have HN1 := hide (((Hid.out H).alloc _).frm hF1 (fun e => e) (fun e => e))
        have HF1 := hide (((Frm.refl (Two p q) w).alloc _).trans (hF1.mono (fun _ _ e => e.elim)))
        clear hF1
        go_wp2
        go_ret
        exact ⟨ret_int E'.out.symm, by rw [E.out]; exact HN1.out, HF1.out⟩
set_option maxHeartbeats 1000000 in
theorem does_arm (hg : DrvAt w g p d) (h : NorAt w p q c s) (hd : d.Ok s) (ho : OpIs w B o AL cL AK cK) (hp : B ≤ p) (hq : B ≤ q) (hB : B ≤ w.heap.size) (k : Nat) (hk : o.kind = k) (hk1 : k = 7) :
    Calls Try.prog 27 #[.pointer (some ⟨p, 0, none⟩), .pointer (some ⟨g, 0, none⟩), opVal o AL cL AK cK] w (DoesPost w p q c d s o) := by
  have E : Hid (d.does s o = s.arms o.at_) := by show _ = _; unfold DrvS.does; rw [if_neg (by omega), if_neg (by omega), if_neg (by omega), if_pos (by omega)]
  have E' : Hid (d.doesE s o = 0) := by show _ = _; unfold DrvS.doesE; rw [if_neg (by omega), if_neg (by omega), if_neg (by omega)]
  unfold opVal
  have hll := ho.ll
  have hlc := ho.lc
  have ha1 := ho.a1
  have HG := hide (hg.frm ((Frm.refl NoB w).alloc (.cells #[.int .i64 o.kind, .int .i64 o.sector, .int .i64 o.at_, .slice AL o.l.length cL, .slice AK o.keeps.length cK] 61)) (fun e => e))
  have HO := hide ho
  have H := hide h
  have HOK := hide hd
  rw [hk] at HG ⊢
  clear hg h ho hk hd
  have HLn : Hid ((o.l.take 200).length = min 200 o.l.length) := List.length_take
  have hh2 : ((o.l.take 200).length : Int) ≤ 9223372036854775807 := by rw [HLn.out]; omega
  have c1 : k = 7 := by omega
  rcases Nat.lt_or_ge 200 o.l.length with h70 | h70
  all_goals
    rcases c1 with rfl
    all_goals
      go_enter Try.func27, Try.ntmps27
      go_wp2_with fail
      refine (arm_is _ ((Hid.out H).alloc _) HO.out.a1).mono ?_
      rintro e w1 ⟨rfl, hN1, hF1⟩
      have HN1 := hide hN1
      have HF1 := hide (((Frm.refl (Two p q) w).alloc _).trans hF1)
      clear hN1 hF1
      go_wp2
      go_ret
      exact ⟨ret_int E'.out.symm, by rw [E.out]; exact HN1.out, HF1.out⟩
set_option maxHeartbeats 1000000 in
theorem does_crash (hg : DrvAt w g p d) (h : NorAt w p q c s) (hd : d.Ok s) (ho : OpIs w B o AL cL AK cK) (hp : B ≤ p) (hq : B ≤ q) (hB : B ≤ w.heap.size) (k : Nat) (hk : o.kind = k) (hk1 : k = 8 ∨ k = 9) :
    Calls Try.prog 27 #[.pointer (some ⟨p, 0, none⟩), .pointer (some ⟨g, 0, none⟩), opVal o AL cL AK cK] w (DoesPost w p q c d s o) := by
  have E : Hid (d.does s o = s.crash o.keeps) := by show _ = _; unfold DrvS.does; rw [if_neg (by omega), if_neg (by omega), if_neg (by omega), if_neg (by omega), if_pos (by omega)]
  have E' : Hid (d.doesE s o = 0) := by show _ = _; unfold DrvS.doesE; rw [if_neg (by omega), if_neg (by omega), if_neg (by omega)]
  unfold opVal
  have hll := ho.ll
  have hlc := ho.lc
  have ha1 := ho.a1
  have HG := hide (hg.frm ((Frm.refl NoB w).alloc (.cells #[.int .i64 o.kind, .int .i64 o.sector, .int .i64 o.at_, .slice AL o.l.length cL, .slice AK o.keeps.length cK] 61)) (fun e => e))
  have HO := hide ho
  have H := hide h
  have HOK := hide hd
  rw [hk] at HG ⊢
  clear hg h ho hk hd
  have HLn : Hid ((o.l.take 200).length = min 200 o.l.length) := List.length_take
  have hh2 : ((o.l.take 200).length : Int) ≤ 9223372036854775807 := by rw [HLn.out]; omega
  have c1 : k = 8 ∨ k = 9 := by omega
  rcases Nat.lt_or_ge 200 o.l.length with h70 | h70
  all_goals
    rcases c1 with rfl | rfl
    all_goals
      go_enter Try.func27, Try.ntmps27
      go_wp2_with fail
      refine (crash_is _ _ _ ((Hid.out H).alloc _) (HO.out.rk.frm ((Frm.refl NoB w).alloc _) (fun _ _ e => e)) (fun hne a ha => below_two hp hq _ (HO.out.bk hne a ha)) HO.out.kl).mono ?_
      rintro e w1 ⟨rfl, hN1, hF1⟩
      have HN1 := hide hN1
      have HF1 := hide (((Frm.refl (Two p q) w).alloc _).trans hF1)
      clear hN1 hF1
      go_wp2
      go_ret
      exact ⟨ret_int E'.out.symm, by rw [E.out]; exact HN1.out, HF1.out⟩
set_option maxHeartbeats 1000000 in
theorem does_else (h : NorAt w p q c s) (ho : OpIs w B o AL cL AK cK) (hk1 : ¬ (1 ≤ o.kind ∧ o.kind ≤ 9)) :
    Calls Try.prog 27 #[.pointer (some ⟨p, 0, none⟩), .pointer (some ⟨g, 0, none⟩), opVal o AL cL AK cK] w (DoesPost w p q c d s o) := by
  have E : Hid (d.does s o = s) := by show _ = _; unfold DrvS.does; rw [if_neg (by omega), if_neg (by omega), if_neg (by omega), if_neg (by omega), if_neg (by omega)]
  have E' : Hid (d.doesE s o = 0) := by show _ = _; unfold DrvS.doesE; rw [if_neg (by omega), if_neg (by omega), if_neg (by omega)]
  unfold opVal
  have hll := ho.ll
  have hlc := ho.lc
  have H := hide h
  have b1 : (o.kind == 1) = false := by rw [beq_eq_false_iff_ne]; omega
  have b2 : (o.kind == 2) = false := by rw [beq_eq_false_iff_ne]; omega
  have b3 : (o.kind == 3) = false := by rw [beq_eq_false_iff_ne]; omega
  have b4 : (o.kind == 4) = false := by rw [beq_eq_false_iff_ne]; omega
  have b5 : (o.kind == 5) = false := by rw [beq_eq_false_iff_ne]; omega
  have b6 : (o.kind == 6) = false := by rw [beq_eq_false_iff_ne]; omega
  have b7 : (o.kind == 7) = false := by rw [beq_eq_false_iff_ne]; omega
  have b8 : (o.kind == 8) = false := by rw [beq_eq_false_iff_ne]; omega
  have b9 : (o.kind == 9) = false := by rw [beq_eq_false_iff_ne]; omega
  clear h ho hk1
  rcases Nat.lt_or_ge 200 o.l.length with h70 | h70
  all_goals
    go_enter Try.func27, Try.ntmps27
    go_wp2
    go_ret
    exact ⟨ret_int E'.out.symm, by rw [E.out]; exact (Hid.out H).alloc _, (Frm.refl _ w).alloc _⟩
theorem does_is (hg : DrvAt w g p d) (h : NorAt w p q c s) (hd : d.Ok s) (ho : OpIs w B o AL cL AK cK) (hp : B ≤ p) (hq : B ≤ q) (hB : B ≤ w.heap.size) :
    Calls Try.prog 27 #[.pointer (some ⟨p, 0, none⟩), .pointer (some ⟨g, 0, none⟩), opVal o AL cL AK cK] w (DoesPost w p q c d s o) := by
  by_cases hk : 1 ≤ o.kind ∧ o.kind ≤ 9
  · obtain ⟨k, hk'⟩ := Int.eq_ofNat_of_zero_le (a := o.kind) (by omega)
    by_cases h4 : k ≤ 4
    · exact does_write hg h hd ho hp hq hB k hk' (by omega)
    · by_cases h5 : k = 5
      · exact does_erase hg h hd ho hp hq hB k hk' h5
      · by_cases h6 : k = 6
        · exact does_read hg h hd ho hp hq hB k hk' h6
        · by_cases h7 : k = 7
          · exact does_arm hg h hd ho hp hq hB k hk' h7
          · exact does_crash hg h hd ho hp hq hB k hk' (by omega)
  · exact does_else h ho hk
end
/-- The ops of an argument, all their rows below block B. -/
structure OpsAt (w : World) (B : Nat) (A : Option Addr) (ops : List OpS) : Prop where
  at_ : ∀ i (h : i < ops.length), ∃ b x AL cL AK cK, A = some ⟨b, x, none⟩ ∧ b < B ∧ OpIs w B (ops[i]'h) AL cL AK cK ∧
    w.cell? ⟨b, x + i * 5, none⟩ = some (.int .i64 (ops[i]'h).kind) ∧ w.cell? ⟨b, x + i * 5 + 1, none⟩ = some (.int .i64 (ops[i]'h).sector) ∧ w.cell? ⟨b, x + i * 5 + 2, none⟩ = some (.int .i64 (ops[i]'h).at_) ∧
    w.cell? ⟨b, x + i * 5 + 3, none⟩ = some (.slice AL (ops[i]'h).l.length cL) ∧ w.cell? ⟨b, x + i * 5 + 4, none⟩ = some (.slice AK (ops[i]'h).keeps.length cK)
theorem OpsAt.frm {S : Nat → Prop} {w w' : World} {B : Nat} {A : Option Addr} {ops : List OpS} (h : OpsAt w B A ops) (hf : Frm S w w') (hs : ∀ k, k < B → ¬ S k) : OpsAt w' B A ops := by
  refine ⟨fun i hi => ?_⟩
  obtain ⟨b, x, AL, cL, AK, cK, rfl, hb, h0, h1, h2, h3, h4, h5⟩ := h.at_ i hi
  have hc : ∀ {n : Nat} {v : Value}, w.cell? ⟨b, n, none⟩ = some v → w'.cell? ⟨b, n, none⟩ = some v := fun {n v} hv => by
    rw [hf.cell (World.block_lt_of_cell? w _ hv) (show ¬ S b from hs b hb)]; exact hv
  exact ⟨b, x, AL, cL, AK, cK, rfl, hb, h0.frm hf hs, hc h1, hc h2, hc h3, hc h4, hc h5⟩


/-- the drive of made -/
def mD : DrvS := ⟨1, 3⟩
def mRuns (ops : List OpS) : NorS := (ops.take 30).foldl mD.does (NorS.new 5 0)
theorem mRuns_n (ops : List OpS) : (mRuns ops).n = 5 := mD.runs_n _ _
section
variable {w : World} {B : Nat}
def MadeRel (w : World) (ops : List OpS) (p q c g : Nat) (i : Value) (wr : World) : Prop := ∃ j : Nat, j ≤ ops.length ∧ j ≤ 30 ∧ i = .int .i64 j ∧ Own w wr p q c ((ops.take j).foldl mD.does (NorS.new 5 0)) ∧ DrvAt wr g p mD
def MadePost (w : World) (ops : List OpS) (e : Ending) (w' : World) : Prop := ∃ p q c g, e = .returned (.tuple #[.pointer (some ⟨p, 0, none⟩), .pointer (some ⟨g, 0, none⟩), .bool true]) ∧ Own w w' p q c ((mRuns ops).crash []) ∧ DrvAt w' g p mD
set_option maxHeartbeats 1000000 in
theorem made_is (A : Option Addr) (cp : Nat) (ops : List OpS) (h : OpsAt w B A ops) (hB : B ≤ w.heap.size) (hm : (ops.length : Int) ≤ 9223372036854775807) :
    Calls Try.prog 18 #[.slice A ops.length cp] w (MadePost w ops) := by
  have HO := hide h
  clear h
  go_enter Try.func18, Try.ntmps18
  go_wp2_with fail
  refine (own_new 5 0 (Frm.refl NoB w) (by omega) (by omega) (by omega)).mono ?_
  rintro e w1 ⟨p, q, c, rfl, hN, hp, hq, hF⟩
  have HN := hide hN
  clear hN hF
  go_wp2_with fail
  refine (ownd_open 1 3 HN.out (by omega) (by decide)).mono ?_
  rintro e w2 ⟨g, rfl, hG, hN, -, hF⟩
  have HN2 := hide hN
  have HG2 : Hid (DrvAt w2 g p mD) := hG
  clear hN hG hF HN
  go_wp2_with fail
  go_loopw [9] (fun i wr => MadeRel w ops p q c g i wr) (fun i _ => ops.length - (intOf i).toNat)
  case atStart => exact ⟨0, by omega, by omega, rfl, HN2.out, HG2.out⟩
  case round =>
    obtain ⟨j, hj, hj40, rfl, hN, hG⟩ := hrel
    have HN1 := hide hN
    have HG1 := hide hG
    have hsz := hN.f.size
    have hnn : ((ops.take j).foldl mD.does (NorS.new 5 0)).n = 5 := mD.runs_n _ _
    have HD : Hid (mD.Ok ((ops.take j).foldl mD.does (NorS.new 5 0))) := ⟨by decide, by rw [hnn]; decide⟩
    clear hN hG hnn HN2 HG2
    by_cases hlt : j < ops.length
    · by_cases hlt4 : j < 30
      · obtain ⟨b, x, AL, cL, AK, cK, rfl, hb, h0, h1, h2, h3, h4, h5⟩ := (HO.out.frm HN1.out.f (fun _ _ e => e)).at_ j hlt
        have H0 := hide h0
        clear h0
        go_wp2_with fail
        refine (does_is HG1.out HN1.out.n HD.out H0.out (Nat.le_trans hB HN1.out.p0) (Nat.le_trans hB HN1.out.q0) (by omega)).mono ?_
        rintro e w3 ⟨rfl, hN3, hF3⟩
        have HN3 := hide (HN1.out.step hN3 hF3)
        have HG3 := hide (HG1.out.own HN1.out hF3)
        clear hN3 hF3 h1 h2 h3 h4 h5
        go_wp2
        go_roundw
        case rel =>
          refine ⟨j + 1, by omega, by omega, by go_num, ?_, HG3.out⟩
          rw [List.take_succ_eq_append_getElem hlt, List.foldl_append]
          exact HN3.out
        case measure => simp [intOf]; omega
      · obtain rfl : j = 30 := by omega
        go_wp2_with fail
        refine (crash_is none 0 [] HN1.out.n (Rd.nil _ _) (fun _ a ha => by cases ha) (by simp)).mono ?_
        rintro e w3 ⟨rfl, hN3, hF3⟩
        have HN3 := hide (HN1.out.step hN3 hF3)
        have HG3 := hide (HG1.out.own HN1.out hF3)
        clear hN3 hF3
        go_wp2
        refine bodyPost_ret (results_tmp3 rfl _ _ _) rfl ?_
        exact ⟨p, q, c, g, rfl, HN3.out, HG3.out⟩
    · obtain rfl : j = ops.length := by omega
      have e : (ops.take ops.length).foldl mD.does (NorS.new 5 0) = mRuns ops := by
        rw [List.take_length]; unfold mRuns; rw [List.take_of_length_le (by omega)]
      have HE := hide e
      clear e
      go_wp2_with fail
      refine (crash_is none 0 [] HN1.out.n (Rd.nil _ _) (fun _ a ha => by cases ha) (by simp)).mono ?_
      rintro e w3 ⟨rfl, hN3, hF3⟩
      have HN3 := hide (HN1.out.step hN3 hF3)
      have HG3 := hide (HG1.out.own HN1.out hF3)
      clear hN3 hF3
      go_wp2
      refine bodyPost_ret (results_tmp3 rfl _ _ _) rfl ?_
      refine ⟨p, q, c, g, rfl, ?_, HG3.out⟩
      rw [← HE.out]
      exact HN3.out
end
end Go.Proofs.Ytplngfphklpicaa
