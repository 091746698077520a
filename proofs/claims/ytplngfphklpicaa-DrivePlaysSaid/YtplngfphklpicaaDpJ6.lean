/-
  Texts of this claim, joined: DrvOps, DrvAwake, DrvPlays0, DrvPlays1, DrvPlays2, DrvPlaysZ, OpenRows, DrvOpen, DrvOpen2.
-/
import Derived.ProofKit
import Derived.OpenShut
import Derived.ChangeOld
import Derived.SizedLaws
import Derived.Deep.Slices
import Derived.Deep.Fields
import Derived.Deep.Grids
import Derived.ChangeSame
import Derived.Test.YtplngfphklpicaaDpJ5
/-
  The helpers of the drive's statements: an op, and what it does; made.
-/
namespace Go.Proofs.Ytplngfphklpicaa
open Go.RowKit
/-- An op of the flash's statements. -/
structure OpS where
  kind : Int
  sector : Int
  at_ : Int
  l : List Int
  keeps : List Bool
/-- How an op lies in memory, all its rows below block B. -/
structure OpIs (w : World) (B : Nat) (o : OpS) (AL : Option Addr) (cL : Nat) (AK : Option Addr) (cK : Nat) : Prop where
  rl : Rd w AL (ints .u32 o.l)
  bl : o.l ≠ [] → ∀ a, AL = some a → a.block < B
  rk : Rd w AK (bools o.keeps)
  bk : o.keeps ≠ [] → ∀ a, AK = some a → a.block < B
  u : U32 o.l
  k0 : -9223372036854775808 ≤ o.kind
  k1 : o.kind ≤ 9223372036854775807
  s0 : -9223372036854775808 ≤ o.sector
  s1 : o.sector ≤ 9223372036854775807
  a0 : -9223372036854775808 ≤ o.at_
  a1 : o.at_ ≤ 9223372036854775807
  ll : o.l.length ≤ cL
  lc : (cL : Int) ≤ 9223372036854775807
  kl : (o.keeps.length : Int) ≤ 9223372036854775807
  kc : o.keeps.length ≤ cK
def opVal (o : OpS) (AL : Option Addr) (cL : Nat) (AK : Option Addr) (cK : Nat) : Value := .agg #[.int .i64 o.kind, .int .i64 o.sector, .int .i64 o.at_, .slice AL o.l.length cL, .slice AK o.keeps.length cK]
theorem OpIs.frm {S : Nat → Prop} {w w' : World} {B : Nat} {o : OpS} {AL AK : Option Addr} {cL cK : Nat} (h : OpIs w B o AL cL AK cK) (hf : Frm S w w') (hs : ∀ k, k < B → ¬ S k) : OpIs w' B o AL cL AK cK :=
  ⟨by
    by_cases e : o.l = []
    · rw [e]; exact Rd.nil _ _
    · exact h.rl.frm hf (fun a ha => hs _ (h.bl e a ha)), h.bl, by
    by_cases e : o.keeps = []
    · rw [e]; exact Rd.nil _ _
    · exact h.rk.frm hf (fun a ha => hs _ (h.bk e a ha)), h.bk, h.u, h.k0, h.k1, h.s0, h.s1, h.a0, h.a1, h.ll, h.lc, h.kl, h.kc⟩

namespace DrvS
def does (d : DrvS) (s : NorS) (o : OpS) : NorS :=
  if o.kind = 1 ∨ o.kind = 2 ∨ o.kind = 3 ∨ o.kind = 4 then d.wr s o.sector (o.l.take 200)
  else if o.kind = 5 then d.er s o.sector
  else if o.kind = 6 then s
  else if o.kind = 7 then s.arms o.at_
  else if o.kind = 8 ∨ o.kind = 9 then s.crash o.keeps else s
def doesE (d : DrvS) (s : NorS) (o : OpS) : Int :=
  if o.kind = 1 ∨ o.kind = 2 ∨ o.kind = 3 ∨ o.kind = 4 then d.wrE s o.sector (o.l.take 200)
  else if o.kind = 5 then d.erE s o.sector
  else if o.kind = 6 then d.rdE s o.sector (min o.at_ 300)
  else 0
theorem wr_n (d : DrvS) (s : NorS) (a : Int) (l : List Int) : (d.wr s a l).n = s.n := by
  unfold wr; split
  · split
    · rfl
    · exact (NorS.prog_same l s _).1
  · rfl
theorem er_n (d : DrvS) (s : NorS) (k : Int) : (d.er s k).n = s.n := by
  unfold er; split
  · unfold NorS.erase; split
    · split <;> exact NorS.step_n s
    · rfl
  · rfl
theorem does_n (d : DrvS) (s : NorS) (o : OpS) : (d.does s o).n = s.n := by
  unfold does
  repeat' split
  · exact wr_n d s _ _
  · exact er_n d s _
  · rfl
  · unfold NorS.arms; split <;> rfl
  · rfl
  · rfl
theorem runs_n (d : DrvS) (ops : List OpS) : ∀ s : NorS, (ops.foldl d.does s).n = s.n := by
  induction ops with
  | nil => intro s; rfl
  | cons o r ih => intro s; exact (ih _).trans (does_n d s o)
theorem Ok.of_n {d : DrvS} {s s' : NorS} (h : d.Ok s) (e : s'.n = s.n) : d.Ok s' := ⟨h.m, by rw [e]; exact h.n⟩
end DrvS
section
variable {w : World} {g p q c : Nat} {s : NorS} {d : DrvS} {B : Nat} {o : OpS} {AL AK : Option Addr} {cL cK : Nat}
def DoesPost (w : World) (p q c : Nat) (d : DrvS) (s : NorS) (o : OpS) (e : Ending) (w' : World) : Prop := e = .returned (.int .i64 (d.doesE s o)) ∧ NorAt w' p q c (d.does s o) ∧ Frm (Two p q) w w'
theorem dread_at (a m : Int) (h : DrvAt w g p d) (hn : NorAt w p q c s) (hd : d.Ok s) (m' : Int) (hm : m' = m) :
    Calls Try.prog 9 #[.pointer (some ⟨g, 0, none⟩), .int .i64 a, .int .i64 m] w fun e w' => ∃ A n cp, e = .returned (.tuple #[.slice A n cp, .int .i64 (d.rdE s a m')]) ∧ Frm NoB w w' := by
  subst hm
  refine (dread_is a m' h hn hd).mono ?_
  rintro e w' ⟨A, cp, rfl, _, _, _, hf⟩
  exact ⟨A, _, cp, rfl, hf⟩
set_option maxHeartbeats 1000000 in
theorem does_write (hg : DrvAt w g p d) (h : NorAt w p q c s) (hd : d.Ok s) (ho : OpIs w B o AL cL AK cK) (hp : B ≤ p) (hq : B ≤ q) (hB : B ≤ w.heap.size) (k : Nat) (hk : o.kind = k) (hk1 : k = 1 ∨ k = 2 ∨ k = 3 ∨ k = 4) :
    Calls Try.prog 27 #[.pointer (some ⟨p, 0, none⟩), .pointer (some ⟨g, 0, none⟩), opVal o AL cL AK cK] w (DoesPost w p q c d s o) := by
  have E : Hid (d.does s o = d.wr s o.sector (o.l.take 200)) := by show _ = _; unfold DrvS.does; rw [if_pos (by omega)]
  have E' : Hid (d.doesE s o = d.wrE s o.sector (o.l.take 200)) := by show _ = _; unfold DrvS.doesE; rw [if_pos (by omega)]
  unfold opVal
  have hll := ho.ll
  have hlc := ho.lc
  have ha1 := ho.a1
  have HG := hide (hg.frm ((Frm.refl NoB w).alloc (.cells #[.int .i64 o.kind, .int .i64 o.sector, .int .i64 o.at_, .slice AL o.l.length cL, .slice AK o.keeps.length cK] 61)) (fun e => e))
  have HO := hide ho
  have H := hide h
  have HOK := hide hd
  rw [hk] at HG ⊢
  clear hg h ho hk hd
  have HLn : Hid ((o.l.take 200).length = min 200 o.l.length) := List.length_take
  have hh2 : ((o.l.take 200).length : Int) ≤ 9223372036854775807 := by rw [HLn.out]; omega
  have c1 : k = 1 ∨ k = 2 ∨ k = 3 ∨ k = 4 := by omega
  rcases Nat.lt_or_ge 200 o.l.length with h70 | h70
  all_goals
    rcases c1 with rfl | rfl | rfl | rfl
    all_goals
      go_enter Try.func27, Try.ntmps27
      go_wp2_with fail
      refine (dwrite_at _ AL cL _ (o.l.take 200) (HLn.out.trans (by omega)) HG.out ((Hid.out H).alloc _) HOK.out (by rw [ints_take]; exact ((HO.out.rl.frm ((Frm.refl NoB w).alloc _) (fun _ _ e => e)).take 200)) (fun hne a ha => ⟨below_two hp hq _ (HO.out.bl (fun e => hne (by rw [e]; rfl)) a ha), by have := HO.out.bl (fun e => hne (by rw [e]; rfl)) a ha; simp; omega⟩) (HO.out.u.take 200) (by rw [HLn.out]; omega) hh2).mono ?_
      rintro e w1 ⟨rfl, hN1, hF1⟩
      have HN1 := hide hN1
      have HF1 := hide (((Frm.refl (Two p q) w).alloc _).trans hF1)
      clear hN1 hF1
      go_wp2
      go_ret
      exact ⟨ret_int E'.out.symm, by rw [E.out]; exact HN1.out, HF1.out⟩
set_option maxHeartbeats 1000000 in
theorem does_erase (hg : DrvAt w g p d) (h : NorAt w p q c s) (hd : d.Ok s) (ho : OpIs w B o AL cL AK cK) (hp : B ≤ p) (hq : B ≤ q) (hB : B ≤ w.heap.size) (k : Nat) (hk : o.kind = k) (hk1 : k = 5) :
    Calls Try.prog 27 #[.pointer (some ⟨p, 0, none⟩), .pointer (some ⟨g, 0, none⟩), opVal o AL cL AK cK] w (DoesPost w p q c d s o) := by
  have E : Hid (d.does s o = d.er s o.sector) := by show _ = _; unfold DrvS.does; rw [if_neg (by omega), if_pos (by omega)]
  have E' : Hid (d.doesE s o = d.erE s o.sector) := by show _ = _; unfold DrvS.doesE; rw [if_neg (by omega), if_pos (by omega)]
  unfold opVal
  have hll := ho.ll
  have hlc := ho.lc
  have ha1 := ho.a1
  have HG := hide (hg.frm ((Frm.refl NoB w).alloc (.cells #[.int .i64 o.kind, .int .i64 o.sector, .int .i64 o.at_, .slice AL o.l.length cL, .slice AK o.keeps.length cK] 61)) (fun e => e))
  have HO := hide ho
  have H := hide h
  have HOK := hide hd
  rw [hk] at HG ⊢
  clear hg h ho hk hd
  have HLn : Hid ((o.l.take 200).length = min 200 o.l.length) := List.length_take
  have hh2 : ((o.l.take 200).length : Int) ≤ 9223372036854775807 := by rw [HLn.out]; omega
  have c1 : k = 5 := by omega
  rcases Nat.lt_or_ge 200 o.l.length with h70 | h70
  all_goals
    rcases c1 with rfl
    all_goals
      go_enter Try.func27, Try.ntmps27
      go_wp2_with fail
      refine (derase_is _ HG.out ((Hid.out H).alloc _) (by have := HOK.out.n; have := (Hid.out H).ok.n2; omega) HO.out.s0).mono ?_
      rintro e w1 ⟨rfl, hN1, hF1⟩
      have HN1 := hide hN1
      have HF1 := hide (((Frm.refl (Two p q) w).alloc _).trans hF1)
      clear hN1 hF1
      go_wp2
      go_ret
      exact ⟨ret_int E'.out.symm, by rw [E.out]; exact HN1.out, HF1.out⟩
set_option maxHeartbeats 1000000 in
theorem does_read (hg : DrvAt w g p d) (h : NorAt w p q c s) (hd : d.Ok s) (ho : OpIs w B o AL cL AK cK) (hp : B ≤ p) (hq : B ≤ q) (hB : B ≤ w.heap.size) (k : Nat) (hk : o.kind = k) (hk1 : k = 6) :
    Calls Try.prog 27 #[.pointer (some ⟨p, 0, none⟩), .pointer (some ⟨g, 0, none⟩), opVal o AL cL AK cK] w (DoesPost w p q c d s o) := by
  have E : Hid (d.does s o = s) := by show _ = _; unfold DrvS.does; rw [if_neg (by omega), if_neg (by omega), if_pos (by omega)]
  have E' : Hid (d.doesE s o = d.rdE s o.sector (min o.at_ 300)) := by show _ = _; unfold DrvS.doesE; rw [if_neg (by omega), if_neg (by omega), if_pos (by omega)]
  unfold opVal
  have hll := ho.ll
  have hlc := ho.lc
  have ha1 := ho.a1
  have HG := hide (hg.frm ((Frm.refl NoB w).alloc (.cells #[.int .i64 o.kind, .int .i64 o.sector, .int .i64 o.at_, .slice AL o.l.length cL, .slice AK o.keeps.length cK] 61)) (fun e => e))
  have HO := hide ho
  have H := hide h
  have HOK := hide hd
  rw [hk] at HG ⊢
  clear hg h ho hk hd
  have HLn : Hid ((o.l.take 200).length = min 200 o.l.length) := List.length_take
  have hh2 : ((o.l.take 200).length : Int) ≤ 9223372036854775807 := by rw [HLn.out]; omega
  have c1 : k = 6 := by omega
  rcases Nat.lt_or_ge 200 o.l.length with h70 | h70
  all_goals
    rcases Int.lt_or_le 300 o.at_ with h300 | h300
    all_goals
      rcases c1 with rfl
      all_goals
        go_enter Try.func27, Try.ntmps27
        go_wp2_with fail
        refine (dread_at _ _ HG.out ((Hid.out H).alloc _) HOK.out (min o.at_ 300) (by omega)).mono ?_
        rintro e w1 ⟨A1, n1, cp1, rfl, hF1⟩
        have HN1 := hide (((Hid.out H).alloc _).frm hF1 (fun e => e) (fun e => e))
        have HF1 := hide (((Frm.refl (Two p q) w).alloc _).trans (hF1.mono (fun _ _ e => e.elim)))
        clear hF1
        go_wp2
        go_ret
        exact ⟨ret_int E'.out.symm, by rw [E.out]; exact HN1.out, HF1.out⟩
set_option maxHeartbeats 1000000 in
theorem does_arm (hg : DrvAt w g p d) (h : NorAt w p q c s) (hd : d.Ok s) (ho : OpIs w B o AL cL AK cK) (hp : B ≤ p) (hq : B ≤ q) (hB : B ≤ w.heap.size) (k : Nat) (hk : o.kind = k) (hk1 : k = 7) :
    Calls Try.prog 27 #[.pointer (some ⟨p, 0, none⟩), .pointer (some ⟨g, 0, none⟩), opVal o AL cL AK cK] w (DoesPost w p q c d s o) := by
  have E : Hid (d.does s o = s.arms o.at_) := by show _ = _; unfold DrvS.does; rw [if_neg (by omega), if_neg (by omega), if_neg (by omega), if_pos (by omega)]
  have E' : Hid (d.doesE s o = 0) := by show _ = _; unfold DrvS.doesE; rw [if_neg (by omega), if_neg (by omega), if_neg (by omega)]
  unfold opVal
  have hll := ho.ll
  have hlc := ho.lc
  have ha1 := ho.a1
  have HG := hide (hg.frm ((Frm.refl NoB w).alloc (.cells #[.int .i64 o.kind, .int .i64 o.sector, .int .i64 o.at_, .slice AL o.l.length cL, .slice AK o.keeps.length cK] 61)) (fun e => e))
  have HO := hide ho
  have H := hide h
  have HOK := hide hd
  rw [hk] at HG ⊢
  clear hg h ho hk hd
  have HLn : Hid ((o.l.take 200).length = min 200 o.l.length) := List.length_take
  have hh2 : ((o.l.take 200).length : Int) ≤ 9223372036854775807 := by rw [HLn.out]; omega
  have c1 : k = 7 := by omega
  rcases Nat.lt_or_ge 200 o.l.length with h70 | h70
  all_goals
    rcases c1 with rfl
    all_goals
      go_enter Try.func27, Try.ntmps27
      go_wp2_with fail
      refine (arm_is _ ((Hid.out H).alloc _) HO.out.a1).mono ?_
      rintro e w1 ⟨rfl, hN1, hF1⟩
      have HN1 := hide hN1
      have HF1 := hide (((Frm.refl (Two p q) w).alloc _).trans hF1)
      clear hN1 hF1
      go_wp2
      go_ret
      exact ⟨ret_int E'.out.symm, by rw [E.out]; exact HN1.out, HF1.out⟩
set_option maxHeartbeats 1000000 in
theorem does_crash (hg : DrvAt w g p d) (h : NorAt w p q c s) (hd : d.Ok s) (ho : OpIs w B o AL cL AK cK) (hp : B ≤ p) (hq : B ≤ q) (hB : B ≤ w.heap.size) (k : Nat) (hk : o.kind = k) (hk1 : k = 8 ∨ k = 9) :
    Calls Try.prog 27 #[.pointer (some ⟨p, 0, none⟩), .pointer (some ⟨g, 0, none⟩), opVal o AL cL AK cK] w (DoesPost w p q c d s o) := by
  have E : Hid (d.does s o = s.crash o.keeps) := by show _ = _; unfold DrvS.does; rw [if_neg (by omega), if_neg (by omega), if_neg (by omega), if_neg (by omega), if_pos (by omega)]
  have E' : Hid (d.doesE s o = 0) := by show _ = _; unfold DrvS.doesE; rw [if_neg (by omega), if_neg (by omega), if_neg (by omega)]
  unfold opVal
  have hll := ho.ll
  have hlc := ho.lc
  have ha1 := ho.a1
  have HG := hide (hg.frm ((Frm.refl NoB w).alloc (.cells #[.int .i64 o.kind, .int .i64 o.sector, .int .i64 o.at_, .slice AL o.l.length cL, .slice AK o.keeps.length cK] 61)) (fun e => e))
  have HO := hide ho
  have H := hide h
  have HOK := hide hd
  rw [hk] at HG ⊢
  clear hg h ho hk hd
  have HLn : Hid ((o.l.take 200).length = min 200 o.l.length) := List.length_take
  have hh2 : ((o.l.take 200).length : Int) ≤ 9223372036854775807 := by rw [HLn.out]; omega
  have c1 : k = 8 ∨ k = 9 := by omega
  rcases Nat.lt_or_ge 200 o.l.length with h70 | h70
  all_goals
    rcases c1 with rfl | rfl
    all_goals
      go_enter Try.func27, Try.ntmps27
      go_wp2_with fail
      refine (crash_is _ _ _ ((Hid.out H).alloc _) (HO.out.rk.frm ((Frm.refl NoB w).alloc _) (fun _ _ e => e)) (fun hne a ha => below_two hp hq _ (HO.out.bk hne a ha)) HO.out.kl).mono ?_
      rintro e w1 ⟨rfl, hN1, hF1⟩
      have HN1 := hide hN1
      have HF1 := hide (((Frm.refl (Two p q) w).alloc _).trans hF1)
      clear hN1 hF1
      go_wp2
      go_ret
      exact ⟨ret_int E'.out.symm, by rw [E.out]; exact HN1.out, HF1.out⟩
set_option maxHeartbeats 1000000 in
theorem does_else (h : NorAt w p q c s) (ho : OpIs w B o AL cL AK cK) (hk1 : ¬ (1 ≤ o.kind ∧ o.kind ≤ 9)) :
    Calls Try.prog 27 #[.pointer (some ⟨p, 0, none⟩), .pointer (some ⟨g, 0, none⟩), opVal o AL cL AK cK] w (DoesPost w p q c d s o) := by
  have E : Hid (d.does s o = s) := by show _ = _; unfold DrvS.does; rw [if_neg (by omega), if_neg (by omega), if_neg (by omega), if_neg (by omega), if_neg (by omega)]
  have E' : Hid (d.doesE s o = 0) := by show _ = _; unfold DrvS.doesE; rw [if_neg (by omega), if_neg (by omega), if_neg (by omega)]
  unfold opVal
  have hll := ho.ll
  have hlc := ho.lc
  have H := hide h
  have b1 : (o.kind == 1) = false := by rw [beq_eq_false_iff_ne]; omega
  have b2 : (o.kind == 2) = false := by rw [beq_eq_false_iff_ne]; omega
  have b3 : (o.kind == 3) = false := by rw [beq_eq_false_iff_ne]; omega
  have b4 : (o.kind == 4) = false := by rw [beq_eq_false_iff_ne]; omega
  have b5 : (o.kind == 5) = false := by rw [beq_eq_false_iff_ne]; omega
  have b6 : (o.kind == 6) = false := by rw [beq_eq_false_iff_ne]; omega
  have b7 : (o.kind == 7) = false := by rw [beq_eq_false_iff_ne]; omega
  have b8 : (o.kind == 8) = false := by rw [beq_eq_false_iff_ne]; omega
  have b9 : (o.kind == 9) = false := by rw [beq_eq_false_iff_ne]; omega
  clear h ho hk1
  rcases Nat.lt_or_ge 200 o.l.length with h70 | h70
  all_goals
    go_enter Try.func27, Try.ntmps27
    go_wp2
    go_ret
    exact ⟨ret_int E'.out.symm, by rw [E.out]; exact (Hid.out H).alloc _, (Frm.refl _ w).alloc _⟩
theorem does_is (hg : DrvAt w g p d) (h : NorAt w p q c s) (hd : d.Ok s) (ho : OpIs w B o AL cL AK cK) (hp : B ≤ p) (hq : B ≤ q) (hB : B ≤ w.heap.size) :
    Calls Try.prog 27 #[.pointer (some ⟨p, 0, none⟩), .pointer (some ⟨g, 0, none⟩), opVal o AL cL AK cK] w (DoesPost w p q c d s o) := by
  by_cases hk : 1 ≤ o.kind ∧ o.kind ≤ 9
  · obtain ⟨k, hk'⟩ := Int.eq_ofNat_of_zero_le (a := o.kind) (by omega)
    by_cases h4 : k ≤ 4
    · exact does_write hg h hd ho hp hq hB k hk' (by omega)
    · by_cases h5 : k = 5
      · exact does_erase hg h hd ho hp hq hB k hk' h5
      · by_cases h6 : k = 6
        · exact does_read hg h hd ho hp hq hB k hk' h6
        · by_cases h7 : k = 7
          · exact does_arm hg h hd ho hp hq hB k hk' h7
          · exact does_crash hg h hd ho hp hq hB k hk' (by omega)
  · exact does_else h ho hk
end
/-- The ops of an argument, all their rows below block B. -/
structure OpsAt (w : World) (B : Nat) (A : Option Addr) (ops : List OpS) : Prop where
  at_ : ∀ i (h : i < ops.length), ∃ b x AL cL AK cK, A = some ⟨b, x, none⟩ ∧ b < B ∧ OpIs w B (ops[i]'h) AL cL AK cK ∧
    w.cell? ⟨b, x + i * 5, none⟩ = some (.int .i64 (ops[i]'h).kind) ∧ w.cell? ⟨b, x + i * 5 + 1, none⟩ = some (.int .i64 (ops[i]'h).sector) ∧ w.cell? ⟨b, x + i * 5 + 2, none⟩ = some (.int .i64 (ops[i]'h).at_) ∧
    w.cell? ⟨b, x + i * 5 + 3, none⟩ = some (.slice AL (ops[i]'h).l.length cL) ∧ w.cell? ⟨b, x + i * 5 + 4, none⟩ = some (.slice AK (ops[i]'h).keeps.length cK)
theorem OpsAt.frm {S : Nat → Prop} {w w' : World} {B : Nat} {A : Option Addr} {ops : List OpS} (h : OpsAt w B A ops) (hf : Frm S w w') (hs : ∀ k, k < B → ¬ S k) : OpsAt w' B A ops := by
  refine ⟨fun i hi => ?_⟩
  obtain ⟨b, x, AL, cL, AK, cK, rfl, hb, h0, h1, h2, h3, h4, h5⟩ := h.at_ i hi
  have hc : ∀ {n : Nat} {v : Value}, w.cell? ⟨b, n, none⟩ = some v → w'.cell? ⟨b, n, none⟩ = some v := fun {n v} hv => by
    rw [hf.cell (World.block_lt_of_cell? w _ hv) (show ¬ S b from hs b hb)]; exact hv
  exact ⟨b, x, AL, cL, AK, cK, rfl, hb, h0.frm hf hs, hc h1, hc h2, hc h3, hc h4, hc h5⟩


/-- the drive of made -/
def mD : DrvS := ⟨1, 3⟩
def mRuns (ops : List OpS) : NorS := (ops.take 30).foldl mD.does (NorS.new 5 0)
theorem mRuns_n (ops : List OpS) : (mRuns ops).n = 5 := mD.runs_n _ _
section
variable {w : World} {B : Nat}
def MadeRel (w : World) (ops : List OpS) (p q c g : Nat) (i : Value) (wr : World) : Prop := ∃ j : Nat, j ≤ ops.length ∧ j ≤ 30 ∧ i = .int .i64 j ∧ Own w wr p q c ((ops.take j).foldl mD.does (NorS.new 5 0)) ∧ DrvAt wr g p mD
def MadePost (w : World) (ops : List OpS) (e : Ending) (w' : World) : Prop := ∃ p q c g, e = .returned (.tuple #[.pointer (some ⟨p, 0, none⟩), .pointer (some ⟨g, 0, none⟩), .bool true]) ∧ Own w w' p q c ((mRuns ops).crash []) ∧ DrvAt w' g p mD
set_option maxHeartbeats 1000000 in
theorem made_is (A : Option Addr) (cp : Nat) (ops : List OpS) (h : OpsAt w B A ops) (hB : B ≤ w.heap.size) (hm : (ops.length : Int) ≤ 9223372036854775807) :
    Calls Try.prog 18 #[.slice A ops.length cp] w (MadePost w ops) := by
  have HO := hide h
  clear h
  go_enter Try.func18, Try.ntmps18
  go_wp2_with fail
  refine (own_new 5 0 (Frm.refl NoB w) (by omega) (by omega) (by omega)).mono ?_
  rintro e w1 ⟨p, q, c, rfl, hN, hp, hq, hF⟩
  have HN := hide hN
  clear hN hF
  go_wp2_with fail
  refine (ownd_open 1 3 HN.out (by omega) (by decide)).mono ?_
  rintro e w2 ⟨g, rfl, hG, hN, -, hF⟩
  have HN2 := hide hN
  have HG2 : Hid (DrvAt w2 g p mD) := hG
  clear hN hG hF HN
  go_wp2_with fail
  go_loopw [9] (fun i wr => MadeRel w ops p q c g i wr) (fun i _ => ops.length - (intOf i).toNat)
  case atStart => exact ⟨0, by omega, by omega, rfl, HN2.out, HG2.out⟩
  case round =>
    obtain ⟨j, hj, hj40, rfl, hN, hG⟩ := hrel
    have HN1 := hide hN
    have HG1 := hide hG
    have hsz := hN.f.size
    have hnn : ((ops.take j).foldl mD.does (NorS.new 5 0)).n = 5 := mD.runs_n _ _
    have HD : Hid (mD.Ok ((ops.take j).foldl mD.does (NorS.new 5 0))) := ⟨by decide, by rw [hnn]; decide⟩
    clear hN hG hnn HN2 HG2
    by_cases hlt : j < ops.length
    · by_cases hlt4 : j < 30
      · obtain ⟨b, x, AL, cL, AK, cK, rfl, hb, h0, h1, h2, h3, h4, h5⟩ := (HO.out.frm HN1.out.f (fun _ _ e => e)).at_ j hlt
        have H0 := hide h0
        clear h0
        go_wp2_with fail
        refine (does_is HG1.out HN1.out.n HD.out H0.out (Nat.le_trans hB HN1.out.p0) (Nat.le_trans hB HN1.out.q0) (by omega)).mono ?_
        rintro e w3 ⟨rfl, hN3, hF3⟩
        have HN3 := hide (HN1.out.step hN3 hF3)
        have HG3 := hide (HG1.out.own HN1.out hF3)
        clear hN3 hF3 h1 h2 h3 h4 h5
        go_wp2
        go_roundw
        case rel =>
          refine ⟨j + 1, by omega, by omega, by go_num, ?_, HG3.out⟩
          rw [List.take_succ_eq_append_getElem hlt, List.foldl_append]
          exact HN3.out
        case measure => simp [intOf]; omega
      · obtain rfl : j = 30 := by omega
        go_wp2_with fail
        refine (crash_is none 0 [] HN1.out.n (Rd.nil _ _) (fun _ a ha => by cases ha) (by simp)).mono ?_
        rintro e w3 ⟨rfl, hN3, hF3⟩
        have HN3 := hide (HN1.out.step hN3 hF3)
        have HG3 := hide (HG1.out.own HN1.out hF3)
        clear hN3 hF3
        go_wp2
        refine bodyPost_ret (results_tmp3 rfl _ _ _) rfl ?_
        exact ⟨p, q, c, g, rfl, HN3.out, HG3.out⟩
    · obtain rfl : j = ops.length := by omega
      have e : (ops.take ops.length).foldl mD.does (NorS.new 5 0) = mRuns ops := by
        rw [List.take_length]; unfold mRuns; rw [List.take_of_length_le (by omega)]
      have HE := hide e
      clear e
      go_wp2_with fail
      refine (crash_is none 0 [] HN1.out.n (Rd.nil _ _) (fun _ a ha => by cases ha) (by simp)).mono ?_
      rintro e w3 ⟨rfl, hN3, hF3⟩
      have HN3 := hide (HN1.out.step hN3 hF3)
      have HG3 := hide (HG1.out.own HN1.out hF3)
      clear hN3 hF3
      go_wp2
      refine bodyPost_ret (results_tmp3 rfl _ _ _) rfl ?_
      refine ⟨p, q, c, g, rfl, ?_, HG3.out⟩
      rw [← HE.out]
      exact HN3.out
end
end Go.Proofs.Ytplngfphklpicaa

/-
  The chapter's examples of the drive come out as written. (Printed: wip/drvgen.py awake)
-/
namespace Go.Proofs.Ytplngfphklpicaa
open Go.RowKit
def dv0 : NorS := NorS.new 4 0
def dvD_g : DrvS := ⟨1, 2⟩
def dv1 : NorS := dvD_g.wr dv0 62 [1, 2, 3]
theorem dv1_e : dvD_g.wrE dv0 (62) [1, 2, 3] = 0 := by kernel_rfl
theorem dv_n6 : decide (dv1.read 1 62 = 1 ∧ dv1.up 1 62 1 = 0) = true := by kernel_rfl
theorem dv_n7 : decide (dv1.read 2 0 = 3 ∧ dv1.up 2 0 1 = 0) = true := by kernel_rfl
def dv2 : NorS := dvD_g.wr dv1 62 [0, 2, 3]
theorem dv2_e : dvD_g.wrE dv1 (62) [0, 2, 3] = 0 := by kernel_rfl
def dv3 : NorS := dvD_g.wr dv2 62 [1]
theorem dv3_e : dvD_g.wrE dv2 (62) [1] = 50 := by kernel_rfl
def dv4 : NorS := dvD_g.er dv3 (1)
theorem dv4_e : dvD_g.erE dv3 (1) = 0 := by kernel_rfl
def dv5 : NorS := dvD_g.er dv4 (2)
theorem dv5_e : dvD_g.erE dv4 (2) = 2 := by kernel_rfl
def dvD_g2 : DrvS := ⟨dvD_g.first + 1, 1⟩
def dv6 : NorS := dvD_g.wr dv5 64 [9]
theorem dv6_e : dvD_g.wrE dv5 (64) [9] = 0 := by kernel_rfl
set_option maxRecDepth 100000 in
set_option maxHeartbeats 4000000 in
theorem awake_is (w : World) : Calls Try.prog 17 #[] w fun e w' => e = .returned (.bool true) ∧ Frm NoB w w' := by
  go_enter Try.func17, Try.ntmps17
  go_wp2_with fail
  refine (own_new 4 0 (Frm.refl NoB w) (by omega) (by omega) (by omega)).mono ?_
  rintro e w1 ⟨p, q, c, rfl, hN, hp, hq, hF⟩
  have HN0 : Hid (Own w w1 p q c dv0) := hN
  clear hN hp hq hF
  go_wp2_with fail
  refine (ownd_open 1 2 HN0.out (by omega) (by decide)).mono ?_
  rintro e w2 ⟨g, rfl, hG, hN, -, hF⟩
  have HN1 : Hid (Own w w2 p q c dv0) := hN
  clear hN
  clear HN0
  have HG1 : Hid (DrvAt w2 g p dvD_g) := hG
  clear hG hF
  go_wp2_with fail
  refine (dsize_is (d := dvD_g) HG1.out (by decide)).mono ?_
  rintro e w' ⟨rfl, rfl⟩
  go_wp2_with fail
  refine (ownd_write (62) [1, 2, 3] HN1.out HG1.out (DrvS.ok_dec (by kernel_rfl)) (by intro x hx; simp at hx; omega) (by simp) _ rfl _ rfl).mono ?_
  rintro e w3 ⟨he, hN, hF⟩
  rw [show dvD_g.wrE dv0 (62) [1, 2, 3] = 0 from dv1_e] at he
  subst he
  have HG2 : Hid (DrvAt w3 g p dvD_g) := HG1.out.own HN1.out hF
  clear HG1
  have HN4 : Hid (Own w w3 p q c dv1) := hN
  clear hN
  clear HN1 hF
  go_wp2_with fail
  refine (ownd_reads (62) [1, 2, 3] HN4.out HG2.out (DrvS.ok_dec (by kernel_rfl)) (by simp) _ rfl _ rfl true (by kernel_rfl)).mono ?_
  rintro e w4 ⟨rfl, hN, hF⟩
  have HG4 : Hid (DrvAt w4 g p dvD_g) := HG2.out.frm hF (fun e => e)
  clear HG2
  have HN6 : Hid (Own w w4 p q c dv1) := hN
  clear hN
  clear HN4 hF
  go_wp2_with fail
  refine (read_is 1 62 HN6.out.n).mono ?_
  rintro e w' ⟨he, rfl⟩
  rw [(of_decide_eq_true dv_n6).1, (of_decide_eq_true dv_n6).2] at he
  subst he
  go_wp2_with fail
  refine (read_is 2 0 HN6.out.n).mono ?_
  rintro e w' ⟨he, rfl⟩
  rw [(of_decide_eq_true dv_n7).1, (of_decide_eq_true dv_n7).2] at he
  subst he
  go_wp2_with fail
  refine (ownd_write (62) [0, 2, 3] HN6.out HG4.out (DrvS.ok_dec (by kernel_rfl)) (by intro x hx; simp at hx; omega) (by simp) _ rfl _ rfl).mono ?_
  rintro e w5 ⟨he, hN, hF⟩
  rw [show dvD_g.wrE dv1 (62) [0, 2, 3] = 0 from dv2_e] at he
  subst he
  have HG8 : Hid (DrvAt w5 g p dvD_g) := HG4.out.own HN6.out hF
  clear HG4
  have HN10 : Hid (Own w w5 p q c dv2) := hN
  clear hN
  clear HN6 hF
  go_wp2_with fail
  refine (ownd_write (62) [1] HN10.out HG8.out (DrvS.ok_dec (by kernel_rfl)) (by intro x hx; simp at hx; omega) (by simp) _ rfl _ rfl).mono ?_
  rintro e w6 ⟨he, hN, hF⟩
  rw [show dvD_g.wrE dv2 (62) [1] = 50 from dv3_e] at he
  subst he
  have HG10 : Hid (DrvAt w6 g p dvD_g) := HG8.out.own HN10.out hF
  clear HG8
  have HN12 : Hid (Own w w6 p q c dv3) := hN
  clear hN
  clear HN10 hF
  go_wp2_with fail
  refine (ownd_erase (1) HN12.out HG10.out (DrvS.ok_dec (by kernel_rfl)) (by omega)).mono ?_
  rintro e w7 ⟨he, hN, hF⟩
  rw [show dvD_g.erE dv3 (1) = 0 from dv4_e] at he
  subst he
  have HG12 : Hid (DrvAt w7 g p dvD_g) := HG10.out.own HN12.out hF
  clear HG10
  have HN14 : Hid (Own w w7 p q c dv4) := hN
  clear hN
  clear HN12 hF
  go_wp2_with fail
  refine (ownd_reads (62) [0, 2, 4294967295] HN14.out HG12.out (DrvS.ok_dec (by kernel_rfl)) (by simp) _ rfl _ rfl true (by kernel_rfl)).mono ?_
  rintro e w8 ⟨rfl, hN, hF⟩
  have HG14 : Hid (DrvAt w8 g p dvD_g) := HG12.out.frm hF (fun e => e)
  clear HG12
  have HN16 : Hid (Own w w8 p q c dv4) := hN
  clear hN
  clear HN14 hF
  go_wp2_with fail
  refine (ownd_erase (2) HN16.out HG14.out (DrvS.ok_dec (by kernel_rfl)) (by omega)).mono ?_
  rintro e w9 ⟨he, hN, hF⟩
  rw [show dvD_g.erE dv4 (2) = 2 from dv5_e] at he
  subst he
  have HG16 : Hid (DrvAt w9 g p dvD_g) := HG14.out.own HN16.out hF
  clear HG14
  have HN18 : Hid (Own w w9 p q c dv5) := hN
  clear hN
  clear HN16 hF
  go_wp2_with fail
  refine (ownd_part 1 1 HN18.out HG16.out (DrvS.ok_dec (by kernel_rfl)) (by omega) (by decide)).mono ?_
  rintro e w10 ⟨g2, rfl, hG, hN, -, hF⟩
  have HG18 : Hid (DrvAt w10 g p dvD_g) := HG16.out.frm hF (fun e => e)
  clear HG16
  have HN20 : Hid (Own w w10 p q c dv5) := hN
  clear hN
  clear HN18
  have HG20 : Hid (DrvAt w10 g2 p dvD_g2) := hG
  clear hG hF
  go_wp2_with fail
  refine (ownd_write (64) [9] HN20.out HG18.out (DrvS.ok_dec (by kernel_rfl)) (by intro x hx; simp at hx; omega) (by simp) _ rfl _ rfl).mono ?_
  rintro e w11 ⟨he, hN, hF⟩
  rw [show dvD_g.wrE dv5 (64) [9] = 0 from dv6_e] at he
  subst he
  have HG21 : Hid (DrvAt w11 g p dvD_g) := HG18.out.own HN20.out hF
  clear HG18
  have HG22 : Hid (DrvAt w11 g2 p dvD_g2) := HG20.out.own HN20.out hF
  clear HG20
  have HN24 : Hid (Own w w11 p q c dv6) := hN
  clear hN
  clear HN20 hF
  go_wp2_with fail
  refine (ownd_reads (0) [9] HN24.out HG22.out (DrvS.ok_dec (by kernel_rfl)) (by simp) _ rfl _ rfl true (by kernel_rfl)).mono ?_
  rintro e w12 ⟨rfl, hN, hF⟩
  have HG24 : Hid (DrvAt w12 g p dvD_g) := HG21.out.frm hF (fun e => e)
  clear HG21
  have HG25 : Hid (DrvAt w12 g2 p dvD_g2) := HG22.out.frm hF (fun e => e)
  clear HG22
  have HN27 : Hid (Own w w12 p q c dv6) := hN
  clear hN
  clear HN24 hF
  go_wp2
  go_ret
  exact ⟨rfl, HN27.out.f⟩
end Go.Proofs.Ytplngfphklpicaa

/-
  Through any script every answer, and the flash, are as the document defines: what the walk wants.
-/
namespace Go.Proofs.Ytplngfphklpicaa
open Go.RowKit Go.Proofs.YtplngfphklpicaaW.PrintWords Go.Proofs.Ytplngfphklpicaa.PDrivePlays
/-- what the document's words may lie in -/
def DpP (w : World) (p q b bd g : Nat) : Nat → Prop := fun k => w.heap.size ≤ k ∧ k ≠ p ∧ k ≠ q ∧ k ≠ b ∧ k ≠ bd ∧ k ≠ g
def dcells (d : DrvS) : Array Value := #[.int .i64 d.first, .int .i64 d.many]
/-- a flash, a drive of it, and the document's -/
structure DpInv (w : World) (p q c b bd g : Nat) (d : DrvS) (s : NorS) (v : Value) (wr : World) : Prop where
  n : NorAt wr p q c s
  ga : DrvAt wr g p d
  dk : d.Ok s
  r : Rf w wr (DpP w p q b bd g) v s
  b : Blk wr b 65 (rcells v s)
  bd : Blk wr bd 69 (dcells d)
  f : Frm NoB w wr
structure DpFix (w : World) (p q b bd g : Nat) : Prop where
  hp : w.heap.size ≤ p
  hq : w.heap.size ≤ q
  hb : w.heap.size ≤ b
  hbd : w.heap.size ≤ bd
  hg : w.heap.size ≤ g
  bp : b ≠ p
  bq : b ≠ q
  dp : bd ≠ p
  dq : bd ≠ q
  db : bd ≠ b
  gp : g ≠ p
  gq : g ≠ q
  gb : g ≠ b
  gd : g ≠ bd
theorem dp_cells5 {w : World} {g : Nat} {t : TypeId} {kd sec k : Int} {AL AK : Option Addr} {nL cL nK cK : Nat} (h : Blk w g t #[.int .i64 kd, .int .i64 sec, .int .i64 k, .slice AL nL cL, .slice AK nK cK]) :
    w.cell? ⟨g, 0, none⟩ = some (.int .i64 kd) ∧ w.cell? ⟨g, 1, none⟩ = some (.int .i64 sec) ∧ w.cell? ⟨g, 2, none⟩ = some (.int .i64 k) ∧ w.cell? ⟨g, 3, none⟩ = some (.slice AL nL cL) ∧ w.cell? ⟨g, 4, none⟩ = some (.slice AK nK cK) :=
  ⟨h.cell 0, h.cell 1, h.cell 2, h.cell 3, h.cell 4⟩
theorem drvV_cells (d : DrvS) : drvV d = .agg (dcells d) := rfl
section
variable {w wr : World} {p q c b bd g : Nat} {d : DrvS} {s : NorS} {v : Value}
theorem DpInv.frm {w' : World} (h : DpInv w p q c b bd g d s v wr) (hf : Frm NoB wr w') : DpInv w p q c b bd g d s v w' :=
  ⟨h.n.frm hf (fun e => e) (fun e => e), h.ga.frm hf (fun e => e), h.dk, h.r.frm hf (fun _ _ e => e), h.b.frm hf (fun e => e), h.bd.frm hf (fun e => e), h.f.trans hf⟩
theorem DpInv.alloc (h : DpInv w p q c b bd g d s v wr) (o : Obj) : DpInv w p q c b bd g d s v (wr.alloc o) := h.frm ((Frm.refl NoB wr).alloc o)
/-- the flash has done something: a state between -/
structure DpMid (w : World) (p q c b bd g B : Nat) (d : DrvS) (s s' : NorS) (v : Value) (w1 : World) : Prop where
  n : NorAt w1 p q c s'
  ga : DrvAt w1 g p d
  dk : d.Ok s
  r : Rf w w1 (fun k => DpP w p q b bd g k ∧ k < B) v s
  b : Blk w1 b 65 (rcells v s)
  bd : Blk w1 bd 69 (dcells d)
  f : Frm NoB w w1
  bw : Below w.heap.size w w1
theorem DpInv.mid (hx : DpFix w p q b bd g) (h : DpInv w p q c b bd g d s v wr) {s' : NorS} {w1 : World} {X : Obj} (hn : NorAt w1 p q c s') (hf : Frm (Two p q) (wr.alloc X) w1) : DpMid w p q c b bd g wr.heap.size d s s' v w1 := by
  have hff : Frm (Two p q) wr w1 := ((Frm.refl _ wr).alloc X).trans hf
  have h1 : Frm NoB w w1 := h.f.then_ hff (fun i hi e => by have := hx.hp; have := hx.hq; rcases e with e | e <;> omega)
  exact ⟨hn, h.ga.frm hff (fun e => by rcases e with e | e; exact hx.gp e; exact hx.gq e), h.dk, h.r.small.frm hff (fun k hk e => by rcases e with e | e; exact hk.1.2.1 e; exact hk.1.2.2.1 e), h.b.frm hff (fun e => by rcases e with e | e; exact hx.bp e; exact hx.bq e), h.bd.frm hff (fun e => by rcases e with e | e; exact hx.dp e; exact hx.dq e), h1, h1.below (fun _ _ e => e)⟩
/-- both have -/
theorem DpMid.both (hx : DpFix w p q b bd g) {B : Nat} {s' : NorS} {w1 w2 : World} (hm : DpMid w p q c b bd g B d s s' v w1) (hn' : s'.n = s.n) (hBp : p < B) (hBq : q < B) (hBb : b < B) (hBd : bd < B) (hBg : g < B) (hB1 : B ≤ w1.heap.size) {v' : Value} (hr : Rf w w2 (fun k => (DpP w p q b bd g k ∧ k < B) ∨ w1.heap.size ≤ k) v' s')
    (hf : Frm (fun k => DpP w p q b bd g k ∧ k < B) w1 w2) : DpInv w p q c b bd g d s' v' (w2.setRow b (rcells v' s')) := by
  have hb2 : Blk w2 b 65 (rcells v s) := hm.b.frm hf (fun e => e.1.2.2.2.1 rfl)
  have hff : Frm (fun k => k = b) w2 (w2.setRow b (rcells v' s')) := Frm.setRow (S := fun k => k = b) (Frm.refl _ w2) (g := b) (.inl rfl) _
  have h1 : Frm NoB w w2 := hm.f.then_ hf (fun i hi e => by have := e.1.1; omega)
  refine ⟨(hm.n.frm hf (fun e => e.1.2.1 rfl) (fun e => e.1.2.2.1 rfl)).frm hff (fun e => hx.bp e.symm) (fun e => hx.bq e.symm), (hm.ga.frm hf (fun e => e.1.2.2.2.2.2 rfl)).frm hff (fun e => hx.gb e), ⟨hm.dk.m, by rw [hn']; exact hm.dk.n⟩, ?_, hb2.setRow _, (hm.bd.frm hf (fun e => e.1.2.2.2.2.1 rfl)).frm hff (fun e => hx.db e), h1.setRow (.inr hx.hb) _⟩
  refine (hr.mono (Q := DpP w p q b bd g) (fun k hk => ?_)).frm hff (fun k hk e => hk.2.2.2.1 e)
  rcases hk with hk | hk
  · exact hk.1
  · have := hx.hp
    have := hm.f.size
    exact ⟨by omega, by omega, by omega, by omega, by omega, by omega⟩
theorem DpMid.op {B : Nat} {w1 w2 : World} (hf : Frm (fun k => DpP w p q b bd g k ∧ k < B) w1 w2) {cs : Array Value} {t : TypeId} (h : Blk w1 B t cs) : Blk w2 B t cs := h.frm hf (fun e => by have := e.2; omega)
theorem keep_dp {wc W w' : World} {a0 a1 a2 a3 a4 a5 a6 a7 a8 : Addr} {v0 v1 v2 v3 v4 v5 v6 v7 v8 : Value}
    (h : Frm NoB wc W ∧ W.cell? a0 = some v0 ∧ W.cell? a1 = some v1 ∧ W.cell? a2 = some v2 ∧ W.cell? a3 = some v3 ∧ W.cell? a4 = some v4 ∧ W.cell? a5 = some v5 ∧ W.cell? a6 = some v6 ∧ W.cell? a7 = some v7 ∧ W.cell? a8 = some v8) (hF : Frm NoB W w') :
    Frm NoB wc w' ∧ w'.cell? a0 = some v0 ∧ w'.cell? a1 = some v1 ∧ w'.cell? a2 = some v2 ∧ w'.cell? a3 = some v3 ∧ w'.cell? a4 = some v4 ∧ w'.cell? a5 = some v5 ∧ w'.cell? a6 = some v6 ∧ w'.cell? a7 = some v7 ∧ w'.cell? a8 = some v8 := by
  have k : ∀ {a : Addr} {v : Value}, W.cell? a = some v → w'.cell? a = some v := fun {a v} ha => by
    rw [hF.cell (World.block_lt_of_cell? W _ ha) (fun e => e)]; exact ha
  obtain ⟨h0, h1, h2, h3, h4, h5, h6, h7, h8, h9⟩ := h
  exact ⟨h0.trans hF, k h1, k h2, k h3, k h4, k h5, k h6, k h7, k h8, k h9⟩
end
/-- what is known where the answers are held against each other -/
def DpCut (w : World) (p q c b bd g B : Nat) (d : DrvS) (o : OpS) (AL : Option Addr) (cL : Nat) (AK : Option Addr) (cK : Nat) (x y l m : Value) (wc : World) : Prop :=
  ∃ (z : Int) (s : NorS) (v : Value) (xs : List Int) (A1 A2 : Option Addr) (c1 c2 : Nat), x = .int .i64 z ∧ y = .int .i64 z ∧ l = .slice A1 xs.length c1 ∧ m = .slice A2 xs.length c2 ∧ DpInv w p q c b bd g d s v wc ∧
    Rd wc A1 (ints .u32 xs) ∧ Rd wc A2 (ints .u32 xs) ∧ (xs.length : Int) ≤ 9223372036854775807 ∧ Blk wc B 61 #[.int .i64 o.kind, .int .i64 o.sector, .int .i64 o.at_, .slice AL o.l.length cL, .slice AK o.keeps.length cK]
/-- in the rounds -/
def DpRel (w : World) (ops : List OpS) (p q c b bd g : Nat) (d : DrvS) (i : Value) (wr : World) : Prop := ∃ (j : Nat) (s : NorS) (v : Value), j ≤ ops.length ∧ j ≤ 50 ∧ i = .int .i64 j ∧ DpInv w p q c b bd g d s v wr
/-- ahead of the rounds -/
def DpStart (w : World) (p q c b bd : Nat) (x : Value) (wc : World) : Prop := ∃ (g : Nat) (d : DrvS) (s : NorS) (v : Value), x = .pointer (some ⟨g, 0, none⟩) ∧ DpFix w p q b bd g ∧ DpInv w p q c b bd g d s v wc
end Go.Proofs.Ytplngfphklpicaa

/-
  Through any script every answer, and the flash, are as the document defines: the walk. (Printed: wip/drvplaysgen.py)
-/
namespace Go.Proofs.Ytplngfphklpicaa
open Go.RowKit Go.Proofs.YtplngfphklpicaaW.PrintWords Go.Proofs.Ytplngfphklpicaa.PDrivePlays
attribute [local go_sem] refV drvV
set_option maxRecDepth 100000 in
set_option maxHeartbeats 64000000 in
theorem drivePlays_bad (w : World) (n a m : Nat) (pa pm : Int) (bpa : -9223372036854775808 ≤ pa ∧ pa ≤ 9223372036854775807) (bpm : -9223372036854775808 ≤ pm ∧ pm ≤ 9223372036854775807) (A : Option Addr) (cp : Nat) (ops : List OpS) (hn1 : 1 ≤ n) (hn6 : n ≤ 6) (hm1 : 1 ≤ m) (ham : a + m ≤ n) (hpart : ¬ (1 ≤ pm ∧ 0 ≤ pa ∧ pa ≤ ((⟨a, m⟩ : DrvS).many : Int) ∧ pm ≤ ((⟨a, m⟩ : DrvS).many : Int) - pa)) (hO : OpsAt w w.heap.size A ops) (hm : (ops.length : Int) ≤ 9223372036854775807) :
    Calls Try.prog 8 #[.int .i64 n, .int .i64 a, .int .i64 m, .agg #[.int .i64 pa, .int .i64 pm], .slice A ops.length cp] w fun e w' => e = .returned (.bool true) ∧ Frm NoB w w' := by
  have HO0 := hide hO
  clear hO
  have t1 : decide ((n : Int) < 1) = false := by simp; omega
  have t2 : decide ((n : Int) > 6) = false := by simp; omega
  obtain ⟨h, hh⟩ : ∃ h : Nat, n / 2 = h := ⟨_, rfl⟩
  have e1 : (n : Int) / 2 = (h : Int) := by omega
  have e2 : Int.tdiv (n : Int) 2 = (h : Int) := by rw [Int.tdiv_eq_ediv_of_nonneg (by omega)]; omega
  have hhn : h ≤ n := by omega
  clear hh
  go_enter Try.func8, Try.ntmps8
  go_wp2_with fail
  refine (new_is n h _ hn1 (by omega) hhn).mono ?_
  rintro e w1 ⟨p, q, c, rfl, hN, hp, hq, hF⟩
  have hp1 := hN.ltp; have hq1 := hN.ltq
  have hF0 : Frm NoB w w1 := ((Frm.refl NoB w).alloc _).trans hF
  have HPB : Hid (Blk w1 w.heap.size 55 #[.int .i64 pa, .int .i64 pm]) := (Blk.new w _ _).frm hF (fun e => e)
  have HN := hide hN
  have HFa := hide hF0
  have hb1 := hide (hF0.below (fun _ _ e => e))
  have HOK := hide hN.ok
  have hsz0 : w.heap.size < w1.heap.size := Nat.lt_of_lt_of_le (by simp) hF.size
  have hp0 : w.heap.size < p := Nat.lt_of_lt_of_le (by simp) hp
  have hq0 : w.heap.size < q := Nat.lt_of_lt_of_le (by simp) hq
  clear hN hF hF0 hp hq
  go_wp2_with fail
  refine (ref_new (w0 := w) n h hn1 (by omega) hhn hb1.out HOK.out).mono ?_
  rintro e w2 ⟨v, rfl, hR, hb2, hF2⟩
  obtain ⟨A0, c0, rfl⟩ := Kd.R_slice hR.r
  have hF2n : Frm NoB w1 w2 := hF2.mono (fun _ _ e => e)
  have hsz := hF2.size
  have HR2 : Hid (Rf w w2 (fun k => w1.heap.size ≤ k ∧ k < w2.heap.size) (.slice A0 (NorS.new n h).l.length c0) (NorS.new n h)) := hR.small.mono (fun k hk => ⟨by rcases hk.1 with e | e; exact e.elim; exact e, hk.2⟩)
  have HN2 := hide ((Hid.out HN).frm hF2n (fun e => e) (fun e => e))
  have HPB2 := hide (HPB.out.frm hF2n (fun e => e))
  have HF2 := hide ((Hid.out HFa).trans hF2n)
  clear hR hb2 hF2 hF2n HN HPB HFa hb1 HOK
  go_wp2_with fail
  refine (dopen_is a m ((Hid.out HN2).alloc _) hm1 (by show _ ≤ n; omega)).mono ?_
  rintro e w' ⟨rfl, rfl⟩
  have hf23 : Frm NoB w2 ((w2.alloc (.cells (rcells (.slice A0 (NorS.new n h).l.length c0) (NorS.new n h)) 65)).alloc (.cells (drvCells p ⟨a, m⟩) 26)) := ((Frm.refl NoB w2).alloc _).alloc _
  have HF3 := hide hf23
  clear hf23
  go_wp2_with fail
  refine (ref_dopen_is (w0 := w) a m (HR2.out.frm HF3.out (fun _ _ e => e)) hm1 (by show _ ≤ n; omega)).mono ?_
  rintro e w4 ⟨rfl, hF4⟩
  have hsz4 := hF4.size
  simp only [World.size_alloc] at hsz4
  obtain ⟨b, hb⟩ : ∃ b, w2.heap.size = b := ⟨_, rfl⟩
  obtain ⟨bd, hbd⟩ : ∃ bd, w4.heap.size = bd := ⟨_, rfl⟩
  have hf4 : Frm NoB w2 w4 := HF3.out.trans hF4
  have HI : Hid (DpInv w p q c b bd (b + 1) ⟨a, m⟩ (NorS.new n h) (.slice A0 (NorS.new n h).l.length c0) (w4.alloc (.cells (dcells ⟨a, m⟩) 69))) := by
    subst hb hbd
    have hbb : Blk (w2.alloc (.cells (rcells (.slice A0 (NorS.new n h).l.length c0) (NorS.new n h)) 65)) w2.heap.size 65 (rcells (.slice A0 (NorS.new n h).l.length c0) (NorS.new n h)) := Blk.new _ _ _
    have hgg : Blk ((w2.alloc (.cells (rcells (.slice A0 (NorS.new n h).l.length c0) (NorS.new n h)) 65)).alloc (.cells (drvCells p ⟨a, m⟩) 26)) (w2.heap.size + 1) 26 (drvCells p ⟨a, m⟩) := Blk.new2 _ _ _ _
    refine ⟨((Hid.out HN2).frm hf4 (fun e => e) (fun e => e)).alloc _, ⟨(hgg.frm hF4 (fun e => e)).alloc _⟩, ⟨hm1, ham⟩, ?_, ((hbb.alloc _).frm hF4 (fun e => e)).alloc _, Blk.new _ _ _, ((Hid.out HF2).trans hf4).alloc _⟩
    exact ((HR2.out.frm hf4 (fun _ _ e => e)).frm ((Frm.refl NoB w4).alloc _) (fun _ _ e => e)).mono (fun k hk => ⟨by omega, by omega, by omega, by omega, by omega, by omega⟩)
  have HX : Hid (DpFix w p q b bd (b + 1)) := ⟨by omega, by omega, by omega, by omega, by omega, by omega, by omega, by omega, by omega, by omega, by omega, by omega, by omega, by omega⟩
  have hpb : Blk w4 w.heap.size 55 #[.int .i64 pa, .int .i64 pm] := HPB2.out.frm hf4 (fun e => e)
  have HPB4 := hide hpb
  have hgs : w2.heap.size + 1 = b + 1 := by omega
  clear hF4 hf4 HF3 HR2 HN2 HPB2 HF2 hpb
  go_upto_region 9 with fail
  obtain ⟨w5, hw5⟩ : ∃ w5, w4.alloc (.cells #[.int .i64 a, .int .i64 m] 69) = w5 := ⟨_, rfl⟩
  have HI : Hid (DpInv w p q c b bd (b + 1) ⟨a, m⟩ (NorS.new n h) (.slice A0 (NorS.new n h).l.length c0) w5) := by rw [← hw5]; exact HI.out
  have HPB5 : Hid (Blk w5 w.heap.size 55 #[.int .i64 pa, .int .i64 pm]) := by rw [← hw5]; exact HPB4.out.alloc _
  rw [hw5]
  have x0 : w5.cell? ⟨w.heap.size, 0, none⟩ = some (.int .i64 pa) := HPB5.out.cell 0
  have x1 : w5.cell? ⟨w.heap.size, 1, none⟩ = some (.int .i64 pm) := HPB5.out.cell 1
  have y0 : w5.cell? ⟨bd, 0, none⟩ = some (.int .i64 a) := (Hid.out HI).bd.cell 0
  have y1 : w5.cell? ⟨bd, 1, none⟩ = some (.int .i64 m) := (Hid.out HI).bd.cell 1
  clear hw5 HPB4
  generalize w4.heap.size = bd' at hbd hsz4
  go_wp2_with fail
  refine (dpart_bad pa pm ((Hid.out HI).ga) (by show a + m ≤ 1024; omega) hpart).mono ?_
  rintro e w' ⟨rfl, rfl⟩
  go_wp2_with fail
  refine (ref_dpart_bad (d := ⟨a, m⟩) pa pm (by show a + m ≤ 1024; omega) hpart _).mono ?_
  rintro e w5 ⟨rfl, hF5⟩
  have HI := hide (((Hid.out HI).frm hF5).alloc (.cells #[.int .i64 0, .int .i64 0] 69))
  clear hF5 x0 x1 y0 y1 HPB5
  go_wp2_with fail

  have HO := hide (HO0.out)
  clear HO0
  go_loopw [23] (fun i wr => DpRel w ops p q c b bd (b + 1) (⟨a, m⟩ : DrvS) i wr) (fun i _ => ops.length - (intOf i).toNat)
  case atStart => exact ⟨0, _, _, by omega, by omega, rfl, HI.out⟩
  case round =>
    clear HI
    obtain ⟨j, s, v, hj, hj50, rfl, hI⟩ := hrel
    obtain ⟨wo, rfl⟩ : ∃ wo : World, wo = wr := ⟨_, rfl⟩
    have hpB := hI.n.ltp; have hqB := hI.n.ltq; have hbB := hI.b.lt; have hbdB := hI.bd.lt; have hgB := hI.ga.lt
    have HI := hide hI
    clear hI
    generalize hG : (b + 1) = g at *
    generalize hD : (⟨a, m⟩ : DrvS) = d at *
    clear hG hD
    by_cases hlt : j < ops.length
    · by_cases hlt6 : j < 50
      · obtain ⟨bb, xx, AL, cL, AK, cK, rfl, hbb, h0, h1, h2, h3, h4, h5⟩ := (HO.out.frm (Hid.out HI).f (fun _ _ e => e)).at_ j hlt
        generalize ops[j] = o at h0 h1 h2 h3 h4 h5
        obtain ⟨kd, sec, k, l, keeps⟩ := o
        simp only at h1 h2 h3 h4 h5
        have H0 := hide h0
        have q0 := h0.k0; have q1 := h0.k1; have q2 := h0.s0; have q3 := h0.s1; have q4 := h0.a0; have q5 := h0.a1; have q6 := h0.ll; have q7 := h0.lc; have q8 := h0.kl; have q9 := h0.kc
        simp only at q0 q1 q2 q3 q4 q5 q6 q7 q8 q9
        have hOp := Blk.new wo 61 #[.int .i64 kd, .int .i64 sec, .int .i64 k, .slice AL l.length cL, .slice AK keeps.length cK]
        obtain ⟨k0, k1, k2, k3, k4⟩ := dp_cells5 hOp
        have HOp := hide hOp
        clear hOp h0
        rcases Nat.lt_or_ge 200 l.length with c1 | c1
        · as_aux_lemma =>
            go_wp2
            go_roundw
            case rel => exact ⟨j + 1, s, v, by omega, by omega, by go_num, (Hid.out HI).alloc _⟩
            case measure => simp [intOf]; omega
        rcases Nat.lt_or_ge 100 keeps.length with c2 | c2
        · as_aux_lemma =>
            go_wp2
            go_roundw
            case rel => exact ⟨j + 1, s, v, by omega, by omega, by go_num, (Hid.out HI).alloc _⟩
            case measure => simp [intOf]; omega
        by_cases c3 : 1000 < k
        · as_aux_lemma =>
            go_wp2
            go_roundw
            case rel => exact ⟨j + 1, s, v, by omega, by omega, by go_num, (Hid.out HI).alloc _⟩
            case measure => simp [intOf]; omega
        have c3' : k ≤ 1000 := by omega
        clear c3
        go_upto_block 2 with fail
        go_cut [25, 26, 27, 28] (fun x y l' m' wc => DpCut w p q c b bd g wo.heap.size d ⟨kd, sec, k, l, keeps⟩ AL cL AK cK x y l' m' wc)
        case first =>
          obtain ⟨B, hB⟩ : ∃ B : Bool, decide (1 ≤ kd ∧ kd ≤ 4) = B := ⟨_, rfl⟩
          have HBB := hide hB
          clear hB
          go_upto_if 160 with fail
          go_cut [160] (fun x wc => x = .bool B ∧ wc = wo.alloc (.cells #[.int .i64 kd, .int .i64 sec, .int .i64 k, .slice AL l.length cL, .slice AK keeps.length cK] 61))
          case first =>
            as_aux_lemma =>
              by_cases d1 : kd = 1
              · have hq : B = true := by rw [← HBB.out, d1]; rfl
                subst d1 hq
                go_wp2_with fail
                go_meet
                exact ⟨rfl, rfl⟩
              by_cases d2 : kd = 2
              · have hq : B = true := by rw [← HBB.out, d2]; rfl
                subst d2 hq
                go_wp2_with fail
                go_meet
                exact ⟨rfl, rfl⟩
              by_cases d3 : kd = 3
              · have hq : B = true := by rw [← HBB.out, d3]; rfl
                subst d3 hq
                go_wp2_with fail
                go_meet
                exact ⟨rfl, rfl⟩
              by_cases d4 : kd = 4
              · have hq : B = true := by rw [← HBB.out, d4]; rfl
                subst d4 hq
                go_wp2_with fail
                go_meet
                exact ⟨rfl, rfl⟩
              have hq : B = false := by rw [← HBB.out]; simp; omega
              have e1 : (kd == 1) = false := by rw [beq_eq_false_iff_ne]; exact d1
              have e2 : (kd == 2) = false := by rw [beq_eq_false_iff_ne]; exact d2
              have e3 : (kd == 3) = false := by rw [beq_eq_false_iff_ne]; exact d3
              have e4 : (kd == 4) = false := by rw [beq_eq_false_iff_ne]; exact d4
              clear d1 d2 d3 d4
              subst hq
              go_wp2_with fail
              go_meet
              exact ⟨rfl, rfl⟩
          case rest =>
            obtain ⟨rfl, rfl⟩ := hcut
            cases B with
            | true =>
              as_aux_lemma =>
                go_wp2_with fail
                refine (dwrite_at sec AL cL _ l rfl ((Hid.out HI).ga.frm ((Frm.refl NoB wo).alloc _) (fun e => e)) ((Hid.out HI).n.alloc _) (Hid.out HI).dk ((H0.out.frm ((Frm.refl NoB wo).alloc _) (fun _ _ e => e))).rl (fun hne a ha => by have h1 := H0.out.bl hne a ha; have := HX.out.hp; have := HX.out.hq; exact ⟨fun e => by rcases e with e | e <;> omega, by simp; omega⟩) H0.out.u q6 (by omega)).mono ?_
                rintro e w1 ⟨rfl, hN1, hF1⟩
                have hM := (Hid.out HI).mid HX.out hN1 hF1
                have HM := hide hM
                have hB1 : wo.heap.size < w1.heap.size := Nat.lt_of_lt_of_le (by simp) hF1.size
                have hOp1 := HOp.out.frm hF1 (fun e => by rcases e with e | e <;> omega)
                obtain ⟨k0, k1, k2, k3, k4⟩ := dp_cells5 hOp1
                have HOp1 := hide hOp1
                have H1 := hide (H0.out.frm ((Frm.refl NoB wo).alloc _) (fun _ _ e => e) |>.frm hF1 (fun i hi e => by have := HX.out.hp; have := HX.out.hq; rcases e with e | e <;> omega))
                have HOK := hide hN1.ok
                clear hM hN1 hF1 hOp1
                go_wp2_with (first
                  | (refine wpList_load_row rfl 65 (.tmp 13) rfl b rfl 65 _ (0, 0) _ (Hid.out HM).b Try.underlying65 rfl ref_size ?_)
                  | (refine wpList_load_row rfl 69 (.tmp 17) rfl bd rfl 69 _ (0, 0) _ (Hid.out HM).bd Try.underlying69 rfl drv_size ?_))
                refine (ref_dwrite (w0 := w) sec AL cL _ l rfl ⟨q2, q3⟩ (Hid.out HM).r (fun k hk => hk.1.1) (Hid.out HM).dk (Hid.out HM).bw ⟨(H1.out).rl, (H1.out).bl, (H1.out).u, (H1.out).ll, (H1.out).lc⟩).mono ?_
                rintro e w3 ⟨v2, rfl, hR2, hB2, hF2⟩
                obtain ⟨A2, c2, rfl⟩ := Kd.R_slice hR2.r
                have hI2 := (Hid.out HM).both HX.out (DrvS.wr_n _ _ _ _) hpB hqB hbB hbdB hgB (by omega) hR2 hF2
                have HI2 := hide hI2
                have hBb : Blk w3 b 65 (rcells v s) := (Hid.out HM).b.frm hF2 (fun e => e.1.2.2.2.1 rfl)
                have HBb := hide hBb
                have HOp3 := hide ((DpMid.op hF2 HOp1.out).setRow_far (rcells (.slice A2 (d.wr s sec l).l.length c2) (d.wr s sec l)) (k := b) (by omega))
                clear hI2 hR2 hB2 hF2 hBb
                go_wp2_with (first
                  | (refine wpList_store_row rfl 65 (.tmp 13) (.tmp 179) rfl b _ rfl rfl 65 _ HBb.out ref_size rfl (rcells_all _ _ _ _) ?_))
                go_meet
                exact ⟨d.wrE s sec l, _, _, [], none, none, 0, 0, rfl, rfl, rfl, rfl, HI2.out, Rd.nil _ _, Rd.nil _ _, by simp, HOp3.out⟩
            | false =>
              by_cases d5 : kd = 5
              · subst d5
                as_aux_lemma =>
                  go_wp2_with fail
                  refine (derase_is sec ((Hid.out HI).ga.frm ((Frm.refl NoB wo).alloc _) (fun e => e)) ((Hid.out HI).n.alloc _) (by have := (Hid.out HI).dk.n; have := (Hid.out HI).n.ok.n2; omega) q2).mono ?_
                  rintro e w1 ⟨rfl, hN1, hF1⟩
                  have hM := (Hid.out HI).mid HX.out hN1 hF1
                  have HM := hide hM
                  have hB1 : wo.heap.size < w1.heap.size := Nat.lt_of_lt_of_le (by simp) hF1.size
                  have hOp1 := HOp.out.frm hF1 (fun e => by rcases e with e | e <;> omega)
                  obtain ⟨k0, k1, k2, k3, k4⟩ := dp_cells5 hOp1
                  have HOp1 := hide hOp1
                  have H1 := hide (H0.out.frm ((Frm.refl NoB wo).alloc _) (fun _ _ e => e) |>.frm hF1 (fun i hi e => by have := HX.out.hp; have := HX.out.hq; rcases e with e | e <;> omega))
                  have HOK := hide hN1.ok
                  clear hM hN1 hF1 hOp1
                  go_wp2_with (first
                    | (refine wpList_load_row rfl 65 (.tmp 13) rfl b rfl 65 _ (0, 0) _ (Hid.out HM).b Try.underlying65 rfl ref_size ?_)
                    | (refine wpList_load_row rfl 69 (.tmp 17) rfl bd rfl 69 _ (0, 0) _ (Hid.out HM).bd Try.underlying69 rfl drv_size ?_))
                  refine (ref_derase (w0 := w) sec (Hid.out HM).r (Hid.out HM).bw (by have := (Hid.out HM).dk.n; have := (Hid.out HM).r.ok.n2; omega) HOK.out).mono ?_
                  rintro e w3 ⟨v2, rfl, hR2, hB2, hF2⟩
                  obtain ⟨A2, c2, rfl⟩ := Kd.R_slice hR2.r
                  have hI2 := (Hid.out HM).both HX.out (DrvS.er_n _ _ _) hpB hqB hbB hbdB hgB (by omega) hR2 hF2
                  have HI2 := hide hI2
                  have hBb : Blk w3 b 65 (rcells v s) := (Hid.out HM).b.frm hF2 (fun e => e.1.2.2.2.1 rfl)
                  have HBb := hide hBb
                  have HOp3 := hide ((DpMid.op hF2 HOp1.out).setRow_far (rcells (.slice A2 (d.er s sec).l.length c2) (d.er s sec)) (k := b) (by omega))
                  clear hI2 hR2 hB2 hF2 hBb
                  go_wp2_with (first
                    | (refine wpList_store_row rfl 65 (.tmp 13) (.tmp 193) rfl b _ rfl rfl 65 _ HBb.out ref_size rfl (rcells_all _ _ _ _) ?_))
                  go_meet
                  exact ⟨d.erE s sec, _, _, [], none, none, 0, 0, rfl, rfl, rfl, rfl, HI2.out, Rd.nil _ _, Rd.nil _ _, by simp, HOp3.out⟩
              by_cases d6 : kd = 6
              · subst d6
                as_aux_lemma =>
                  go_wp2_with fail
                  refine (dread_is sec k ((Hid.out HI).ga.frm ((Frm.refl NoB wo).alloc _) (fun e => e)) ((Hid.out HI).n.alloc _) (Hid.out HI).dk).mono ?_
                  rintro e w1 ⟨A1, c1, rfl, hR1, -, -, hF1⟩
                  have HI1 := hide (((Hid.out HI).alloc _).frm hF1)
                  have hOp1 := HOp.out.frm hF1 (fun e => e)
                  obtain ⟨k0, k1, k2, k3, k4⟩ := dp_cells5 hOp1
                  have HOp1 := hide hOp1
                  have HR1 := hide hR1
                  clear hR1 hF1 hOp1
                  go_wp2_with (first
                    | (refine wpList_load_row rfl 65 (.tmp 13) rfl b rfl 65 _ (0, 0) _ (Hid.out HI1).b Try.underlying65 rfl ref_size ?_)
                    | (refine wpList_load_row rfl 69 (.tmp 17) rfl bd rfl 69 _ (0, 0) _ (Hid.out HI1).bd Try.underlying69 rfl drv_size ?_))
                  refine (ref_dread (w0 := w) sec k ⟨q2, q3⟩ ⟨q4, q5⟩ (Hid.out HI1).r (Hid.out HI1).dk).mono ?_
                  rintro e w3 ⟨A2, c2, rfl, hR2, -, hB2⟩
                  have HI2 := hide ((Hid.out HI1).frm (Frm.of_below hB2 NoB))
                  have HOp3 := hide (HOp1.out.frm (Frm.of_below hB2 NoB) (fun e => e))
                  have HR3 := hide (Rd.frm' HR1.out (Frm.of_below hB2 NoB) (fun _ _ _ e => e))
                  have HR2 := hide hR2
                  clear hR2 hB2
                  have hxl : ((d.rd s sec k).length : Int) ≤ 9223372036854775807 := by
                    unfold DrvS.rd DrvS.words
                    split
                    · simp; omega
                    · simp
                  have HXL := hide hxl
                  clear hxl
                  go_wp2_with fail
                  go_meet
                  exact ⟨d.rdE s sec k, _, _, d.rd s sec k, A1, A2, c1, c2, rfl, rfl, rfl, rfl, HI2.out, HR3.out, HR2.out, HXL.out, HOp3.out⟩
              by_cases d7 : kd = 7
              · subst d7
                as_aux_lemma =>
                  go_wp2_with fail
                  refine (arm_is k ((Hid.out HI).n.alloc _) q5).mono ?_
                  rintro e w1 ⟨rfl, hN1, hF1⟩
                  have hM := (Hid.out HI).mid HX.out hN1 hF1
                  have HM := hide hM
                  have hB1 : wo.heap.size < w1.heap.size := Nat.lt_of_lt_of_le (by simp) hF1.size
                  have hOp1 := HOp.out.frm hF1 (fun e => by rcases e with e | e <;> omega)
                  obtain ⟨k0, k1, k2, k3, k4⟩ := dp_cells5 hOp1
                  have HOp1 := hide hOp1
                  have H1 := hide (H0.out.frm ((Frm.refl NoB wo).alloc _) (fun _ _ e => e) |>.frm hF1 (fun i hi e => by have := HX.out.hp; have := HX.out.hq; rcases e with e | e <;> omega))
                  have HOK := hide hN1.ok
                  clear hM hN1 hF1 hOp1
                  go_wp2_with (first
                    | (refine wpList_load_row rfl 65 (.tmp 13) rfl b rfl 65 _ (0, 0) _ (Hid.out HM).b Try.underlying65 rfl ref_size ?_)
                    | (refine wpList_load_row rfl 69 (.tmp 17) rfl bd rfl 69 _ (0, 0) _ (Hid.out HM).bd Try.underlying69 rfl drv_size ?_))
                  refine (ref_arm (w0 := w) k (Hid.out HM).r (Hid.out HM).bw HOK.out).mono ?_
                  rintro e w3 ⟨v2, rfl, hR2, hB2, hF2⟩
                  obtain ⟨A2, c2, rfl⟩ := Kd.R_slice hR2.r
                  have hI2 := (Hid.out HM).both HX.out (by unfold NorS.arms; split <;> rfl) hpB hqB hbB hbdB hgB (by omega) hR2 hF2
                  have HI2 := hide hI2
                  have hBb : Blk w3 b 65 (rcells v s) := (Hid.out HM).b.frm hF2 (fun e => e.1.2.2.2.1 rfl)
                  have HBb := hide hBb
                  have HOp3 := hide ((DpMid.op hF2 HOp1.out).setRow_far (rcells (.slice A2 (s.arms k).l.length c2) (s.arms k)) (k := b) (by omega))
                  clear hI2 hR2 hB2 hF2 hBb
                  go_wp2_with (first
                    | (refine wpList_store_row rfl 65 (.tmp 13) (.tmp 225) rfl b _ rfl rfl 65 _ HBb.out ref_size rfl (rcells_all _ _ _ _) ?_))
                  go_meet
                  exact ⟨0, _, _, [], none, none, 0, 0, rfl, rfl, rfl, rfl, HI2.out, Rd.nil _ _, Rd.nil _ _, by simp, HOp3.out⟩
              by_cases d8 : kd = 8
              · subst d8
                as_aux_lemma =>
                  go_wp2_with fail
                  refine (crash_is AK cK keeps ((Hid.out HI).n.alloc _) ((H0.out.frm ((Frm.refl NoB wo).alloc _) (fun _ _ e => e))).rk (fun hne a ha e => by have h1 := H0.out.bk hne a ha; have := HX.out.hp; have := HX.out.hq; rcases e with e | e <;> omega) q8).mono ?_
                  rintro e w1 ⟨rfl, hN1, hF1⟩
                  have hM := (Hid.out HI).mid HX.out hN1 hF1
                  have HM := hide hM
                  have hB1 : wo.heap.size < w1.heap.size := Nat.lt_of_lt_of_le (by simp) hF1.size
                  have hOp1 := HOp.out.frm hF1 (fun e => by rcases e with e | e <;> omega)
                  obtain ⟨k0, k1, k2, k3, k4⟩ := dp_cells5 hOp1
                  have HOp1 := hide hOp1
                  have H1 := hide (H0.out.frm ((Frm.refl NoB wo).alloc _) (fun _ _ e => e) |>.frm hF1 (fun i hi e => by have := HX.out.hp; have := HX.out.hq; rcases e with e | e <;> omega))
                  have HOK := hide hN1.ok
                  clear hM hN1 hF1 hOp1
                  go_wp2_with (first
                    | (refine wpList_load_row rfl 65 (.tmp 13) rfl b rfl 65 _ (0, 0) _ (Hid.out HM).b Try.underlying65 rfl ref_size ?_)
                    | (refine wpList_load_row rfl 69 (.tmp 17) rfl bd rfl 69 _ (0, 0) _ (Hid.out HM).bd Try.underlying69 rfl drv_size ?_))
                  refine (ref_crash (w0 := w) AK cK _ keeps rfl q9 (Hid.out HM).r (Hid.out HM).bw ⟨(H1.out).rk, (H1.out).bk, (H1.out).kl⟩ HOK.out).mono ?_
                  rintro e w3 ⟨v2, rfl, hR2, hB2, hF2⟩
                  obtain ⟨A2, c2, rfl⟩ := Kd.R_slice hR2.r
                  have hI2 := (Hid.out HM).both HX.out (rfl) hpB hqB hbB hbdB hgB (by omega) hR2 hF2
                  have HI2 := hide hI2
                  have hBb : Blk w3 b 65 (rcells v s) := (Hid.out HM).b.frm hF2 (fun e => e.1.2.2.2.1 rfl)
                  have HBb := hide hBb
                  have HOp3 := hide ((DpMid.op hF2 HOp1.out).setRow_far (rcells (.slice A2 (s.crash keeps).l.length c2) (s.crash keeps)) (k := b) (by omega))
                  clear hI2 hR2 hB2 hF2 hBb
                  go_wp2_with (first
                    | (refine wpList_store_row rfl 65 (.tmp 13) (.tmp 236) rfl b _ rfl rfl 65 _ HBb.out ref_size rfl (rcells_all _ _ _ _) ?_))
                  go_meet
                  exact ⟨0, _, _, [], none, none, 0, 0, rfl, rfl, rfl, rfl, HI2.out, Rd.nil _ _, Rd.nil _ _, by simp, HOp3.out⟩
              by_cases d9 : kd = 9
              · subst d9
                as_aux_lemma =>
                  go_wp2_with fail
                  refine (crash_is AK cK keeps ((Hid.out HI).n.alloc _) ((H0.out.frm ((Frm.refl NoB wo).alloc _) (fun _ _ e => e))).rk (fun hne a ha e => by have h1 := H0.out.bk hne a ha; have := HX.out.hp; have := HX.out.hq; rcases e with e | e <;> omega) q8).mono ?_
                  rintro e w1 ⟨rfl, hN1, hF1⟩
                  have hM := (Hid.out HI).mid HX.out hN1 hF1
                  have HM := hide hM
                  have hB1 : wo.heap.size < w1.heap.size := Nat.lt_of_lt_of_le (by simp) hF1.size
                  have hOp1 := HOp.out.frm hF1 (fun e => by rcases e with e | e <;> omega)
                  obtain ⟨k0, k1, k2, k3, k4⟩ := dp_cells5 hOp1
                  have HOp1 := hide hOp1
                  have H1 := hide (H0.out.frm ((Frm.refl NoB wo).alloc _) (fun _ _ e => e) |>.frm hF1 (fun i hi e => by have := HX.out.hp; have := HX.out.hq; rcases e with e | e <;> omega))
                  have HOK := hide hN1.ok
                  clear hM hN1 hF1 hOp1
                  go_wp2_with (first
                    | (refine wpList_load_row rfl 65 (.tmp 13) rfl b rfl 65 _ (0, 0) _ (Hid.out HM).b Try.underlying65 rfl ref_size ?_)
                    | (refine wpList_load_row rfl 69 (.tmp 17) rfl bd rfl 69 _ (0, 0) _ (Hid.out HM).bd Try.underlying69 rfl drv_size ?_))
                  refine (ref_crash (w0 := w) AK cK _ keeps rfl q9 (Hid.out HM).r (Hid.out HM).bw ⟨(H1.out).rk, (H1.out).bk, (H1.out).kl⟩ HOK.out).mono ?_
                  rintro e w3 ⟨v2, rfl, hR2, hB2, hF2⟩
                  obtain ⟨A2, c2, rfl⟩ := Kd.R_slice hR2.r
                  have hI2 := (Hid.out HM).both HX.out (rfl) hpB hqB hbB hbdB hgB (by omega) hR2 hF2
                  have HI2 := hide hI2
                  have hBb : Blk w3 b 65 (rcells v s) := (Hid.out HM).b.frm hF2 (fun e => e.1.2.2.2.1 rfl)
                  have HBb := hide hBb
                  have HOp3 := hide ((DpMid.op hF2 HOp1.out).setRow_far (rcells (.slice A2 (s.crash keeps).l.length c2) (s.crash keeps)) (k := b) (by omega))
                  clear hI2 hR2 hB2 hF2 hBb
                  go_wp2_with (first
                    | (refine wpList_store_row rfl 65 (.tmp 13) (.tmp 236) rfl b _ rfl rfl 65 _ HBb.out ref_size rfl (rcells_all _ _ _ _) ?_))
                  go_meet
                  exact ⟨0, _, _, [], none, none, 0, 0, rfl, rfl, rfl, rfl, HI2.out, Rd.nil _ _, Rd.nil _ _, by simp, HOp3.out⟩
              by_cases d10 : kd = 10
              · subst d10
                as_aux_lemma =>
                  go_wp2_with fail
                  refine (rewrite_is k sec AL cL l ((Hid.out HI).n.alloc _) ((H0.out.frm ((Frm.refl NoB wo).alloc _) (fun _ _ e => e))).rl H0.out.u (by omega)).mono ?_
                  rintro e w1 ⟨rfl, hN1, hF1⟩
                  have hM := (Hid.out HI).mid HX.out hN1 hF1
                  have HM := hide hM
                  have hB1 : wo.heap.size < w1.heap.size := Nat.lt_of_lt_of_le (by simp) hF1.size
                  have hOp1 := HOp.out.frm hF1 (fun e => by rcases e with e | e <;> omega)
                  obtain ⟨k0, k1, k2, k3, k4⟩ := dp_cells5 hOp1
                  have HOp1 := hide hOp1
                  have H1 := hide (H0.out.frm ((Frm.refl NoB wo).alloc _) (fun _ _ e => e) |>.frm hF1 (fun i hi e => by have := HX.out.hp; have := HX.out.hq; rcases e with e | e <;> omega))
                  have HOK := hide hN1.ok
                  clear hM hN1 hF1 hOp1
                  go_wp2_with (first
                    | (refine wpList_load_row rfl 65 (.tmp 13) rfl b rfl 65 _ (0, 0) _ (Hid.out HM).b Try.underlying65 rfl ref_size ?_)
                    | (refine wpList_load_row rfl 69 (.tmp 17) rfl bd rfl 69 _ (0, 0) _ (Hid.out HM).bd Try.underlying69 rfl drv_size ?_))
                  refine (ref_rewrite (w0 := w) k sec AL cL _ l rfl (Hid.out HM).r (Hid.out HM).bw ⟨(H1.out).rl, (H1.out).bl, (H1.out).u, (H1.out).ll, (H1.out).lc⟩ (fun k hk => hk.1.1) HOK.out).mono ?_
                  rintro e w3 ⟨v2, rfl, hR2, hB2, hF2⟩
                  obtain ⟨A2, c2, rfl⟩ := Kd.R_slice hR2.r
                  have hI2 := (Hid.out HM).both HX.out (by unfold NorS.rewrite; split <;> rfl) hpB hqB hbB hbdB hgB (by omega) hR2 hF2
                  have HI2 := hide hI2
                  have hBb : Blk w3 b 65 (rcells v s) := (Hid.out HM).b.frm hF2 (fun e => e.1.2.2.2.1 rfl)
                  have HBb := hide hBb
                  have HOp3 := hide ((DpMid.op hF2 HOp1.out).setRow_far (rcells (.slice A2 (s.rewrite k sec l).l.length c2) (s.rewrite k sec l)) (k := b) (by omega))
                  clear hI2 hR2 hB2 hF2 hBb
                  go_wp2_with (first
                    | (refine wpList_store_row rfl 65 (.tmp 13) (.tmp 256) rfl b _ rfl rfl 65 _ HBb.out ref_size rfl (rcells_all _ _ _ _) ?_))
                  go_meet
                  exact ⟨s.rewriteE k sec l, _, _, [], none, none, 0, 0, rfl, rfl, rfl, rfl, HI2.out, Rd.nil _ _, Rd.nil _ _, by simp, HOp3.out⟩
              have e5 : (kd == 5) = false := by rw [beq_eq_false_iff_ne]; exact d5
              have e6 : (kd == 6) = false := by rw [beq_eq_false_iff_ne]; exact d6
              have e7 : (kd == 7) = false := by rw [beq_eq_false_iff_ne]; exact d7
              have e8 : (kd == 8) = false := by rw [beq_eq_false_iff_ne]; exact d8
              have e9 : (kd == 9) = false := by rw [beq_eq_false_iff_ne]; exact d9
              have e10 : (kd == 10) = false := by rw [beq_eq_false_iff_ne]; exact d10
              clear d5 d6 d7 d8 d9 d10
              go_wp2_with fail
              go_meet
              exact ⟨0, _, _, [], none, none, 0, 0, rfl, rfl, rfl, rfl, (Hid.out HI).alloc _, Rd.nil _ _, Rd.nil _ _, by simp, HOp.out⟩
        case rest =>
          clear k0 k1 k2 k3 k4 HI HOp
          as_aux_lemma =>
            obtain ⟨z, s', v', xs, A1, A2, c1, c2, rfl, rfl, rfl, rfl, hI, hR1, hR2, hxl, hOpB⟩ := hcut
            have HIc := hide hI
            have HR1 := hide hR1
            have HR2 := hide hR2
            have HXL := hide hxl
            obtain ⟨A3, c3, rfl⟩ := Kd.R_slice hI.r.r
            obtain ⟨m0, m1, m2, m3, m4⟩ := rc_cells hI.b
            have y0 : wc.cell? ⟨bd, 0, none⟩ = some (.int .i64 d.first) := hI.bd.cell 0
            have y1 : wc.cell? ⟨bd, 1, none⟩ = some (.int .i64 d.many) := hI.bd.cell 1
            obtain ⟨-, k1, k2, -, -⟩ := dp_cells5 hOpB
            have hmany : d.many ≤ 1024 := by have := hI.dk.n; have := hI.n.ok.n2; omega
            have HS0 := hide (And.intro (Frm.refl NoB wc) (And.intro y0 (And.intro y1 (And.intro m0 (And.intro m1 (And.intro m2 (And.intro m3 (And.intro m4 (And.intro k1 k2)))))))))
            have K24 : Hid (∀ W, Frm NoB wc W → Calls Try.prog 24 #[.slice A1 xs.length c1, .slice A2 xs.length c2] W fun e w' => e = .returned (.bool true) ∧ Frm NoB W w') := fun W hf =>
              (sameWords_is xs xs A1 A2 c1 c2 W (Rd.frm' HR1.out hf (fun _ _ _ e => e)) (Rd.frm' HR2.out hf (fun _ _ _ e => e)) HXL.out).mono (by rintro e w' ⟨rfl, m, rfl⟩; exact ⟨ret_bool (by simp [same]), (Frm.refl NoB W).drewN m⟩)
            have K14 : Hid (∀ W, Frm NoB wc W → Calls Try.prog 14 #[.pointer (some ⟨g, 0, none⟩)] W fun e w' => e = .returned (.int .i64 d.many) ∧ W = w') := fun W hf => dsectors_is (HIc.out.ga.frm hf (fun e => e))
            have K15 : Hid (∀ W, Frm NoB wc W → Calls Try.prog 15 #[.pointer (some ⟨g, 0, none⟩)] W fun e w' => e = .returned (.int .i64 (64 * (d.many : Int))) ∧ W = w') := fun W hf =>
              (dsize_is (HIc.out.ga.frm hf (fun e => e)) hmany).mono (by rintro e w' ⟨rfl, rfl⟩; exact ⟨ret_int (by omega), rfl⟩)
            have K13 : Hid (∀ W, Frm NoB wc W → Calls Try.prog 13 #[.pointer (some ⟨g, 0, none⟩), .int .i64 sec, .int .i64 k] W fun e w' => e = .returned (.bool (d.blank s' sec k)) ∧ Frm NoB W w') := fun W hf =>
              dblank_is sec k (HIc.out.ga.frm hf (fun e => e)) (HIc.out.n.frm hf (fun e => e) (fun e => e)) HIc.out.dk
            have K38 : Hid (∀ W, Frm NoB wc W → Calls Try.prog 38 #[.agg #[.int .i64 d.first, .int .i64 d.many], .agg #[.slice A3 s'.l.length c3, .int .i64 s'.guard, .int .i64 s'.arm, .bool s'.down, .int .i64 s'.half], .int .i64 sec, .int .i64 k] W fun e w' => e = .returned (.bool (d.blank s' sec k)) ∧ Frm NoB W w') := fun W hf =>
              (ref_dblank (w0 := w) sec k ⟨q2, q3⟩ ⟨q4, q5⟩ (HIc.out.r.frm hf (fun _ _ e => e)) HIc.out.dk).mono (by rintro e w' ⟨rfl, hb⟩; exact ⟨rfl, Frm.of_below hb NoB⟩)
            have K39 : Hid (∀ W, Frm NoB wc W → Calls Try.prog 39 #[.pointer (some ⟨p, 0, none⟩), .agg #[.slice A3 s'.l.length c3, .int .i64 s'.guard, .int .i64 s'.arm, .bool s'.down, .int .i64 s'.half]] W fun e w' => e = .returned (.bool true) ∧ Frm NoB W w') := fun W hf =>
              sameNor_is (HIc.out.n.frm hf (fun e => e) (fun e => e)) (HIc.out.r.frm hf (fun _ _ e => e))
            have wq : IntKind.i64.wrap (64 * (d.many : Int)) = 64 * (d.many : Int) := IntWalk.i64_in _ (by omega)
            clear hI hR1 hR2 hxl hOpB hmany y0 y1 m0 m1 m2 m3 m4 k1 k2
            go_wp2_with fail
            go_region_held3 (fun w' => Frm NoB wc w' ∧ w'.cell? ⟨bd, 0, none⟩ = some (.int .i64 d.first) ∧ w'.cell? ⟨bd, 1, none⟩ = some (.int .i64 d.many) ∧ w'.cell? ⟨b, 0, none⟩ = some (.slice A3 s'.l.length c3) ∧ w'.cell? ⟨b, 1, none⟩ = some (.int .i64 s'.guard) ∧ w'.cell? ⟨b, 2, none⟩ = some (.int .i64 s'.arm) ∧ w'.cell? ⟨b, 3, none⟩ = some (.bool s'.down) ∧ w'.cell? ⟨b, 4, none⟩ = some (.int .i64 s'.half) ∧ w'.cell? ⟨wo.heap.size, 1, none⟩ = some (.int .i64 sec) ∧ w'.cell? ⟨wo.heap.size, 2, none⟩ = some (.int .i64 k))
              (first
                | assumption
                | exact keep_dp (Hid.out HS0) ((Frm.refl NoB _).drew)
                | exact keep_dp (by assumption) (by assumption))
              (first
                | (go_at_call 24; refine (K24.out _ (by go_split_ands; assumption)).mono ?_; rintro e w' ⟨rfl, hF⟩)
                | (go_at_call 14; refine (K14.out _ (by go_split_ands; assumption)).mono ?_; rintro e w' ⟨rfl, rfl⟩)
                | (go_at_call 15; refine (K15.out _ (by go_split_ands; assumption)).mono ?_; rintro e w' ⟨rfl, rfl⟩)
                | (go_at_call 13; refine (K13.out _ (by go_split_ands; assumption)).mono ?_; rintro e w' ⟨rfl, hF⟩)
                | (go_at_call 38; refine (K38.out _ (by go_split_ands; assumption)).mono ?_; rintro e w' ⟨rfl, hF⟩)
                | (go_at_call 39; refine (K39.out _ (by go_split_ands; assumption)).mono ?_; rintro e w' ⟨rfl, hF⟩))
            all_goals
              go_split_ands
              go_wp2
              go_roundw
              case rel => exact ⟨j + 1, _, _, by omega, by omega, by go_num, HIc.out.frm (by assumption)⟩
              case measure => simp [intOf]; omega
      · obtain rfl : j = 50 := by omega
        as_aux_lemma =>
          go_wp2_with fail
          refine (awake_is _).mono ?_
          rintro e wz ⟨rfl, hz⟩
          go_wp2
          go_ret
          exact ⟨rfl, (Hid.out HI).f.trans hz⟩
    · obtain rfl : j = ops.length := by omega
      as_aux_lemma =>
        go_wp2_with fail
        refine (awake_is _).mono ?_
        rintro e wz ⟨rfl, hz⟩
        go_wp2
        go_ret
        exact ⟨rfl, (Hid.out HI).f.trans hz⟩
end Go.Proofs.Ytplngfphklpicaa

/-
  Through any script every answer, and the flash, are as the document defines: the walk. (Printed: wip/drvplaysgen.py)
-/
namespace Go.Proofs.Ytplngfphklpicaa
open Go.RowKit Go.Proofs.YtplngfphklpicaaW.PrintWords Go.Proofs.Ytplngfphklpicaa.PDrivePlays
attribute [local go_sem] refV drvV
set_option maxRecDepth 100000 in
set_option maxHeartbeats 64000000 in
theorem drivePlays_part (w : World) (n a m : Nat) (pa pm : Int) (bpa : -9223372036854775808 ≤ pa ∧ pa ≤ 9223372036854775807) (bpm : -9223372036854775808 ≤ pm ∧ pm ≤ 9223372036854775807) (A : Option Addr) (cp : Nat) (ops : List OpS) (hn1 : 1 ≤ n) (hn6 : n ≤ 6) (hm1 : 1 ≤ m) (ham : a + m ≤ n) (hpart : 1 ≤ pm ∧ 0 ≤ pa ∧ pa ≤ ((⟨a, m⟩ : DrvS).many : Int) ∧ pm ≤ ((⟨a, m⟩ : DrvS).many : Int) - pa) (hO : OpsAt w w.heap.size A ops) (hm : (ops.length : Int) ≤ 9223372036854775807) :
    Calls Try.prog 8 #[.int .i64 n, .int .i64 a, .int .i64 m, .agg #[.int .i64 pa, .int .i64 pm], .slice A ops.length cp] w fun e w' => e = .returned (.bool true) ∧ Frm NoB w w' := by
  have HO0 := hide hO
  clear hO
  have t1 : decide ((n : Int) < 1) = false := by simp; omega
  have t2 : decide ((n : Int) > 6) = false := by simp; omega
  obtain ⟨h, hh⟩ : ∃ h : Nat, n / 2 = h := ⟨_, rfl⟩
  have e1 : (n : Int) / 2 = (h : Int) := by omega
  have e2 : Int.tdiv (n : Int) 2 = (h : Int) := by rw [Int.tdiv_eq_ediv_of_nonneg (by omega)]; omega
  have hhn : h ≤ n := by omega
  clear hh
  go_enter Try.func8, Try.ntmps8
  go_wp2_with fail
  refine (new_is n h _ hn1 (by omega) hhn).mono ?_
  rintro e w1 ⟨p, q, c, rfl, hN, hp, hq, hF⟩
  have hp1 := hN.ltp; have hq1 := hN.ltq
  have hF0 : Frm NoB w w1 := ((Frm.refl NoB w).alloc _).trans hF
  have HPB : Hid (Blk w1 w.heap.size 55 #[.int .i64 pa, .int .i64 pm]) := (Blk.new w _ _).frm hF (fun e => e)
  have HN := hide hN
  have HFa := hide hF0
  have hb1 := hide (hF0.below (fun _ _ e => e))
  have HOK := hide hN.ok
  have hsz0 : w.heap.size < w1.heap.size := Nat.lt_of_lt_of_le (by simp) hF.size
  have hp0 : w.heap.size < p := Nat.lt_of_lt_of_le (by simp) hp
  have hq0 : w.heap.size < q := Nat.lt_of_lt_of_le (by simp) hq
  clear hN hF hF0 hp hq
  go_wp2_with fail
  refine (ref_new (w0 := w) n h hn1 (by omega) hhn hb1.out HOK.out).mono ?_
  rintro e w2 ⟨v, rfl, hR, hb2, hF2⟩
  obtain ⟨A0, c0, rfl⟩ := Kd.R_slice hR.r
  have hF2n : Frm NoB w1 w2 := hF2.mono (fun _ _ e => e)
  have hsz := hF2.size
  have HR2 : Hid (Rf w w2 (fun k => w1.heap.size ≤ k ∧ k < w2.heap.size) (.slice A0 (NorS.new n h).l.length c0) (NorS.new n h)) := hR.small.mono (fun k hk => ⟨by rcases hk.1 with e | e; exact e.elim; exact e, hk.2⟩)
  have HN2 := hide ((Hid.out HN).frm hF2n (fun e => e) (fun e => e))
  have HPB2 := hide (HPB.out.frm hF2n (fun e => e))
  have HF2 := hide ((Hid.out HFa).trans hF2n)
  clear hR hb2 hF2 hF2n HN HPB HFa hb1 HOK
  go_wp2_with fail
  refine (dopen_is a m ((Hid.out HN2).alloc _) hm1 (by show _ ≤ n; omega)).mono ?_
  rintro e w' ⟨rfl, rfl⟩
  have hf23 : Frm NoB w2 ((w2.alloc (.cells (rcells (.slice A0 (NorS.new n h).l.length c0) (NorS.new n h)) 65)).alloc (.cells (drvCells p ⟨a, m⟩) 26)) := ((Frm.refl NoB w2).alloc _).alloc _
  have HF3 := hide hf23
  clear hf23
  go_wp2_with fail
  refine (ref_dopen_is (w0 := w) a m (HR2.out.frm HF3.out (fun _ _ e => e)) hm1 (by show _ ≤ n; omega)).mono ?_
  rintro e w4 ⟨rfl, hF4⟩
  have hsz4 := hF4.size
  simp only [World.size_alloc] at hsz4
  obtain ⟨b, hb⟩ : ∃ b, w2.heap.size = b := ⟨_, rfl⟩
  obtain ⟨bd, hbd⟩ : ∃ bd, w4.heap.size = bd := ⟨_, rfl⟩
  have hf4 : Frm NoB w2 w4 := HF3.out.trans hF4
  have HI : Hid (DpInv w p q c b bd (b + 1) ⟨a, m⟩ (NorS.new n h) (.slice A0 (NorS.new n h).l.length c0) (w4.alloc (.cells (dcells ⟨a, m⟩) 69))) := by
    subst hb hbd
    have hbb : Blk (w2.alloc (.cells (rcells (.slice A0 (NorS.new n h).l.length c0) (NorS.new n h)) 65)) w2.heap.size 65 (rcells (.slice A0 (NorS.new n h).l.length c0) (NorS.new n h)) := Blk.new _ _ _
    have hgg : Blk ((w2.alloc (.cells (rcells (.slice A0 (NorS.new n h).l.length c0) (NorS.new n h)) 65)).alloc (.cells (drvCells p ⟨a, m⟩) 26)) (w2.heap.size + 1) 26 (drvCells p ⟨a, m⟩) := Blk.new2 _ _ _ _
    refine ⟨((Hid.out HN2).frm hf4 (fun e => e) (fun e => e)).alloc _, ⟨(hgg.frm hF4 (fun e => e)).alloc _⟩, ⟨hm1, ham⟩, ?_, ((hbb.alloc _).frm hF4 (fun e => e)).alloc _, Blk.new _ _ _, ((Hid.out HF2).trans hf4).alloc _⟩
    exact ((HR2.out.frm hf4 (fun _ _ e => e)).frm ((Frm.refl NoB w4).alloc _) (fun _ _ e => e)).mono (fun k hk => ⟨by omega, by omega, by omega, by omega, by omega, by omega⟩)
  have HX : Hid (DpFix w p q b bd (b + 1)) := ⟨by omega, by omega, by omega, by omega, by omega, by omega, by omega, by omega, by omega, by omega, by omega, by omega, by omega, by omega⟩
  have hpb : Blk w4 w.heap.size 55 #[.int .i64 pa, .int .i64 pm] := HPB2.out.frm hf4 (fun e => e)
  have HPB4 := hide hpb
  have hgs : w2.heap.size + 1 = b + 1 := by omega
  clear hF4 hf4 HF3 HR2 HN2 HPB2 HF2 hpb
  go_upto_region 9 with fail
  obtain ⟨w5, hw5⟩ : ∃ w5, w4.alloc (.cells #[.int .i64 a, .int .i64 m] 69) = w5 := ⟨_, rfl⟩
  have HI : Hid (DpInv w p q c b bd (b + 1) ⟨a, m⟩ (NorS.new n h) (.slice A0 (NorS.new n h).l.length c0) w5) := by rw [← hw5]; exact HI.out
  have HPB5 : Hid (Blk w5 w.heap.size 55 #[.int .i64 pa, .int .i64 pm]) := by rw [← hw5]; exact HPB4.out.alloc _
  rw [hw5]
  have x0 : w5.cell? ⟨w.heap.size, 0, none⟩ = some (.int .i64 pa) := HPB5.out.cell 0
  have x1 : w5.cell? ⟨w.heap.size, 1, none⟩ = some (.int .i64 pm) := HPB5.out.cell 1
  have y0 : w5.cell? ⟨bd, 0, none⟩ = some (.int .i64 a) := (Hid.out HI).bd.cell 0
  have y1 : w5.cell? ⟨bd, 1, none⟩ = some (.int .i64 m) := (Hid.out HI).bd.cell 1
  clear hw5 HPB4
  generalize w4.heap.size = bd' at hbd hsz4
  have hpart : 1 ≤ pm ∧ 0 ≤ pa ∧ pa ≤ (m : Int) ∧ pm ≤ (m : Int) - pa := hpart
  obtain ⟨PA, rfl⟩ := Int.eq_ofNat_of_zero_le hpart.2.1
  obtain ⟨PM, rfl⟩ := Int.eq_ofNat_of_zero_le (a := pm) (by omega)
  obtain ⟨hpm1, -, hpa1, hpm2⟩ := hpart
  have hpm3 : 1 ≤ PM := by omega
  have hpm4 : PA + PM ≤ m := by omega
  obtain ⟨F, hF⟩ : ∃ F, a + PA = F := ⟨_, rfl⟩
  clear hpm1 hpa1 hpm2
  go_wp2_with fail
  refine (dpart_is PA PM ((Hid.out HI).ga) (by show a + m ≤ 1024; omega) hpm3 (by show PA + PM ≤ m; omega)).mono ?_
  rintro e w6 ⟨g2, rfl, hG2, hg2, hF6⟩
  have hlt1 := (Hid.out HI).b.lt; have hlt2 := (Hid.out HI).bd.lt; have hlt3 := (Hid.out HI).n.ltp; have hlt4 := (Hid.out HI).n.ltq; have hlt5 := (Hid.out HI).ga.lt; have hlt6 := hG2.lt; have hlt7 := hF6.size
  have HX2 : Hid (DpFix w p q b bd g2) := ⟨by omega, by omega, by omega, by omega, by omega, by omega, by omega, by omega, by omega, by omega, by omega, by omega, by omega, by omega⟩
  have HI6 : Hid (DpInv w p q c b bd (b + 1) ⟨a, m⟩ (NorS.new n h) (.slice A0 (NorS.new n h).l.length c0) w6) := (Hid.out HI).frm hF6
  have HR6 : Hid (Rf w w6 (DpP w p q b bd g2) (.slice A0 (NorS.new n h).l.length c0) (NorS.new n h)) := ((Hid.out HI).r.small.mono (fun k hk => ⟨hk.1.1, hk.1.2.1, hk.1.2.2.1, hk.1.2.2.2.1, hk.1.2.2.2.2.1, by omega⟩)).frm hF6 (fun _ _ e => e)
  have hG2' : DrvAt w6 g2 p ⟨F, PM⟩ := by rw [← hF]; exact hG2
  have HG6 := hide hG2'
  have HPB6 := hide (HPB5.out.frm hF6 (fun e => e))
  clear x0 x1 y0 y1 hF6 hG2 HPB5 HI hG2' HX
  have x0 : w6.cell? ⟨w.heap.size, 0, none⟩ = some (.int .i64 PA) := HPB6.out.cell 0
  have x1 : w6.cell? ⟨w.heap.size, 1, none⟩ = some (.int .i64 PM) := HPB6.out.cell 1
  have y0 : w6.cell? ⟨bd, 0, none⟩ = some (.int .i64 a) := (Hid.out HI6).bd.cell 0
  have y1 : w6.cell? ⟨bd, 1, none⟩ = some (.int .i64 m) := (Hid.out HI6).bd.cell 1
  have KP := ref_dpart_is (d := ⟨a, m⟩) PA PM (by show a + m ≤ 1024; omega) hpm3 (by show PA + PM ≤ m; omega) w6
  rw [show (⟨a, m⟩ : DrvS).first + PA = F from hF] at KP
  have HFF := hide hF
  have HKP := hide KP
  clear hF KP
  go_wp2_with fail
  refine HKP.out.mono ?_
  rintro e w7 ⟨rfl, hF7⟩
  have HI7 := hide ((Hid.out HI6).frm hF7)
  have HR7 := hide (HR6.out.frm hF7 (fun _ _ e => e))
  have HG7 := hide (HG6.out.frm hF7 (fun e => e))
  have hlt8 : bd < w7.heap.size := (Hid.out HI7).bd.lt
  clear x0 x1 y0 y1 HPB6 HKP HI6 HR6 HG6 hF7
  have y0 : w7.cell? ⟨bd, 0, none⟩ = some (.int .i64 a) := (Hid.out HI7).bd.cell 0
  have y1 : w7.cell? ⟨bd, 1, none⟩ = some (.int .i64 m) := (Hid.out HI7).bd.cell 1
  go_upto_region 14 with fail
  obtain ⟨w8, hw8⟩ : ∃ w8, w7.alloc (.cells #[.int .i64 F, .int .i64 PM] 69) = w8 := ⟨_, rfl⟩
  have hf8 : Frm NoB w7 w8 := by rw [← hw8]; exact (Frm.refl NoB w7).alloc _
  have hB8 : Blk w8 w7.heap.size 69 #[.int .i64 F, .int .i64 PM] := by rw [← hw8]; exact Blk.new _ _ _
  have HI8 := hide ((Hid.out HI7).frm hf8)
  have HR8 := hide (HR7.out.frm hf8 (fun _ _ e => e))
  have HG8 := hide (HG7.out.frm hf8 (fun e => e))
  rw [hw8]
  clear y0 y1 HI7 HR7 HG7 hf8 hw8
  have y0 : w8.cell? ⟨bd, 0, none⟩ = some (.int .i64 a) := (Hid.out HI8).bd.cell 0
  have y1 : w8.cell? ⟨bd, 1, none⟩ = some (.int .i64 m) := (Hid.out HI8).bd.cell 1
  have f0 : w8.frozen? ⟨bd, 0, none⟩ = false := (Hid.out HI8).bd.frozen 0
  have f1 : w8.frozen? ⟨bd, 1, none⟩ = false := (Hid.out HI8).bd.frozen 1
  have z0 : w8.cell? ⟨w7.heap.size, 0, none⟩ = some (.int .i64 F) := hB8.cell 0
  have z1 : w8.cell? ⟨w7.heap.size, 1, none⟩ = some (.int .i64 PM) := hB8.cell 1
  have HB8 := hide hB8
  clear hB8
  generalize w7.heap.size = bd2 at *
  go_region
  have hff : Frm (fun k => k = bd) w8 ((w8.setCell ⟨bd, 0, none⟩ (.int .i64 F)).setCell ⟨bd, 1, none⟩ (.int .i64 PM)) := ((Frm.refl (fun k => k = bd) w8).setCell (p := ⟨bd, 0, none⟩) (.inl rfl) _).setCell (p := ⟨bd, 1, none⟩) (.inl rfl) _
  have HI : Hid (DpInv w p q c b bd g2 ⟨F, PM⟩ (NorS.new n h) (.slice A0 (NorS.new n h).l.length c0) ((w8.setCell ⟨bd, 0, none⟩ (.int .i64 F)).setCell ⟨bd, 1, none⟩ (.int .i64 PM)).drew) := by
    have hx := HX2.out
    refine DpInv.frm (wr := (w8.setCell ⟨bd, 0, none⟩ (.int .i64 F)).setCell ⟨bd, 1, none⟩ (.int .i64 PM)) ⟨(Hid.out HI8).n.frm hff (fun e => hx.dp e.symm) (fun e => hx.dq e.symm), HG8.out.frm hff (fun e => hx.gd e), ⟨hpm3, by show F + PM ≤ n; have := HFF.out; omega⟩, HR8.out.frm hff (fun k hk e => hk.2.2.2.2.1 e), (Hid.out HI8).b.frm hff (fun e => hx.db e.symm), ?_, ((Hid.out HI8).f).then_ hff (fun i hi e => by have := hx.hbd; omega)⟩ ((Frm.refl NoB _).drew)
    have := ((Hid.out HI8).bd.set_ 0 (.int .i64 F)).set_ 1 (.int .i64 PM)
    simpa [dcells] using this
  have HX := HX2
  clear y0 y1 f0 f1 z0 z1 HB8 hff HI8 HR8 HG8 HX2
  go_wp2_with fail

  have HO := hide (HO0.out)
  clear HO0
  go_loopw [23] (fun i wr => DpRel w ops p q c b bd g2 (⟨F, PM⟩ : DrvS) i wr) (fun i _ => ops.length - (intOf i).toNat)
  case atStart => exact ⟨0, _, _, by omega, by omega, rfl, HI.out⟩
  case round =>
    clear HI
    obtain ⟨j, s, v, hj, hj50, rfl, hI⟩ := hrel
    obtain ⟨wo, rfl⟩ : ∃ wo : World, wo = wr := ⟨_, rfl⟩
    have hpB := hI.n.ltp; have hqB := hI.n.ltq; have hbB := hI.b.lt; have hbdB := hI.bd.lt; have hgB := hI.ga.lt
    have HI := hide hI
    clear hI
    generalize hG : g2 = g at *
    generalize hD : (⟨F, PM⟩ : DrvS) = d at *
    clear hG hD
    by_cases hlt : j < ops.length
    · by_cases hlt6 : j < 50
      · obtain ⟨bb, xx, AL, cL, AK, cK, rfl, hbb, h0, h1, h2, h3, h4, h5⟩ := (HO.out.frm (Hid.out HI).f (fun _ _ e => e)).at_ j hlt
        generalize ops[j] = o at h0 h1 h2 h3 h4 h5
        obtain ⟨kd, sec, k, l, keeps⟩ := o
        simp only at h1 h2 h3 h4 h5
        have H0 := hide h0
        have q0 := h0.k0; have q1 := h0.k1; have q2 := h0.s0; have q3 := h0.s1; have q4 := h0.a0; have q5 := h0.a1; have q6 := h0.ll; have q7 := h0.lc; have q8 := h0.kl; have q9 := h0.kc
        simp only at q0 q1 q2 q3 q4 q5 q6 q7 q8 q9
        have hOp := Blk.new wo 61 #[.int .i64 kd, .int .i64 sec, .int .i64 k, .slice AL l.length cL, .slice AK keeps.length cK]
        obtain ⟨k0, k1, k2, k3, k4⟩ := dp_cells5 hOp
        have HOp := hide hOp
        clear hOp h0
        rcases Nat.lt_or_ge 200 l.length with c1 | c1
        · as_aux_lemma =>
            go_wp2
            go_roundw
            case rel => exact ⟨j + 1, s, v, by omega, by omega, by go_num, (Hid.out HI).alloc _⟩
            case measure => simp [intOf]; omega
        rcases Nat.lt_or_ge 100 keeps.length with c2 | c2
        · as_aux_lemma =>
            go_wp2
            go_roundw
            case rel => exact ⟨j + 1, s, v, by omega, by omega, by go_num, (Hid.out HI).alloc _⟩
            case measure => simp [intOf]; omega
        by_cases c3 : 1000 < k
        · as_aux_lemma =>
            go_wp2
            go_roundw
            case rel => exact ⟨j + 1, s, v, by omega, by omega, by go_num, (Hid.out HI).alloc _⟩
            case measure => simp [intOf]; omega
        have c3' : k ≤ 1000 := by omega
        clear c3
        go_upto_block 2 with fail
        go_cut [25, 26, 27, 28] (fun x y l' m' wc => DpCut w p q c b bd g wo.heap.size d ⟨kd, sec, k, l, keeps⟩ AL cL AK cK x y l' m' wc)
        case first =>
          obtain ⟨B, hB⟩ : ∃ B : Bool, decide (1 ≤ kd ∧ kd ≤ 4) = B := ⟨_, rfl⟩
          have HBB := hide hB
          clear hB
          go_upto_if 160 with fail
          go_cut [160] (fun x wc => x = .bool B ∧ wc = wo.alloc (.cells #[.int .i64 kd, .int .i64 sec, .int .i64 k, .slice AL l.length cL, .slice AK keeps.length cK] 61))
          case first =>
            as_aux_lemma =>
              by_cases d1 : kd = 1
              · have hq : B = true := by rw [← HBB.out, d1]; rfl
                subst d1 hq
                go_wp2_with fail
                go_meet
                exact ⟨rfl, rfl⟩
              by_cases d2 : kd = 2
              · have hq : B = true := by rw [← HBB.out, d2]; rfl
                subst d2 hq
                go_wp2_with fail
                go_meet
                exact ⟨rfl, rfl⟩
              by_cases d3 : kd = 3
              · have hq : B = true := by rw [← HBB.out, d3]; rfl
                subst d3 hq
                go_wp2_with fail
                go_meet
                exact ⟨rfl, rfl⟩
              by_cases d4 : kd = 4
              · have hq : B = true := by rw [← HBB.out, d4]; rfl
                subst d4 hq
                go_wp2_with fail
                go_meet
                exact ⟨rfl, rfl⟩
              have hq : B = false := by rw [← HBB.out]; simp; omega
              have e1 : (kd == 1) = false := by rw [beq_eq_false_iff_ne]; exact d1
              have e2 : (kd == 2) = false := by rw [beq_eq_false_iff_ne]; exact d2
              have e3 : (kd == 3) = false := by rw [beq_eq_false_iff_ne]; exact d3
              have e4 : (kd == 4) = false := by rw [beq_eq_false_iff_ne]; exact d4
              clear d1 d2 d3 d4
              subst hq
              go_wp2_with fail
              go_meet
              exact ⟨rfl, rfl⟩
          case rest =>
            obtain ⟨rfl, rfl⟩ := hcut
            cases B with
            | true =>
              as_aux_lemma =>
                go_wp2_with fail
                refine (dwrite_at sec AL cL _ l rfl ((Hid.out HI).ga.frm ((Frm.refl NoB wo).alloc _) (fun e => e)) ((Hid.out HI).n.alloc _) (Hid.out HI).dk ((H0.out.frm ((Frm.refl NoB wo).alloc _) (fun _ _ e => e))).rl (fun hne a ha => by have h1 := H0.out.bl hne a ha; have := HX.out.hp; have := HX.out.hq; exact ⟨fun e => by rcases e with e | e <;> omega, by simp; omega⟩) H0.out.u q6 (by omega)).mono ?_
                rintro e w1 ⟨rfl, hN1, hF1⟩
                have hM := (Hid.out HI).mid HX.out hN1 hF1
                have HM := hide hM
                have hB1 : wo.heap.size < w1.heap.size := Nat.lt_of_lt_of_le (by simp) hF1.size
                have hOp1 := HOp.out.frm hF1 (fun e => by rcases e with e | e <;> omega)
                obtain ⟨k0, k1, k2, k3, k4⟩ := dp_cells5 hOp1
                have HOp1 := hide hOp1
                have H1 := hide (H0.out.frm ((Frm.refl NoB wo).alloc _) (fun _ _ e => e) |>.frm hF1 (fun i hi e => by have := HX.out.hp; have := HX.out.hq; rcases e with e | e <;> omega))
                have HOK := hide hN1.ok
                clear hM hN1 hF1 hOp1
                go_wp2_with (first
                  | (refine wpList_load_row rfl 65 (.tmp 13) rfl b rfl 65 _ (0, 0) _ (Hid.out HM).b Try.underlying65 rfl ref_size ?_)
                  | (refine wpList_load_row rfl 69 (.tmp 17) rfl bd rfl 69 _ (0, 0) _ (Hid.out HM).bd Try.underlying69 rfl drv_size ?_))
                refine (ref_dwrite (w0 := w) sec AL cL _ l rfl ⟨q2, q3⟩ (Hid.out HM).r (fun k hk => hk.1.1) (Hid.out HM).dk (Hid.out HM).bw ⟨(H1.out).rl, (H1.out).bl, (H1.out).u, (H1.out).ll, (H1.out).lc⟩).mono ?_
                rintro e w3 ⟨v2, rfl, hR2, hB2, hF2⟩
                obtain ⟨A2, c2, rfl⟩ := Kd.R_slice hR2.r
                have hI2 := (Hid.out HM).both HX.out (DrvS.wr_n _ _ _ _) hpB hqB hbB hbdB hgB (by omega) hR2 hF2
                have HI2 := hide hI2
                have hBb : Blk w3 b 65 (rcells v s) := (Hid.out HM).b.frm hF2 (fun e => e.1.2.2.2.1 rfl)
                have HBb := hide hBb
                have HOp3 := hide ((DpMid.op hF2 HOp1.out).setRow_far (rcells (.slice A2 (d.wr s sec l).l.length c2) (d.wr s sec l)) (k := b) (by omega))
                clear hI2 hR2 hB2 hF2 hBb
                go_wp2_with (first
                  | (refine wpList_store_row rfl 65 (.tmp 13) (.tmp 179) rfl b _ rfl rfl 65 _ HBb.out ref_size rfl (rcells_all _ _ _ _) ?_))
                go_meet
                exact ⟨d.wrE s sec l, _, _, [], none, none, 0, 0, rfl, rfl, rfl, rfl, HI2.out, Rd.nil _ _, Rd.nil _ _, by simp, HOp3.out⟩
            | false =>
              by_cases d5 : kd = 5
              · subst d5
                as_aux_lemma =>
                  go_wp2_with fail
                  refine (derase_is sec ((Hid.out HI).ga.frm ((Frm.refl NoB wo).alloc _) (fun e => e)) ((Hid.out HI).n.alloc _) (by have := (Hid.out HI).dk.n; have := (Hid.out HI).n.ok.n2; omega) q2).mono ?_
                  rintro e w1 ⟨rfl, hN1, hF1⟩
                  have hM := (Hid.out HI).mid HX.out hN1 hF1
                  have HM := hide hM
                  have hB1 : wo.heap.size < w1.heap.size := Nat.lt_of_lt_of_le (by simp) hF1.size
                  have hOp1 := HOp.out.frm hF1 (fun e => by rcases e with e | e <;> omega)
                  obtain ⟨k0, k1, k2, k3, k4⟩ := dp_cells5 hOp1
                  have HOp1 := hide hOp1
                  have H1 := hide (H0.out.frm ((Frm.refl NoB wo).alloc _) (fun _ _ e => e) |>.frm hF1 (fun i hi e => by have := HX.out.hp; have := HX.out.hq; rcases e with e | e <;> omega))
                  have HOK := hide hN1.ok
                  clear hM hN1 hF1 hOp1
                  go_wp2_with (first
                    | (refine wpList_load_row rfl 65 (.tmp 13) rfl b rfl 65 _ (0, 0) _ (Hid.out HM).b Try.underlying65 rfl ref_size ?_)
                    | (refine wpList_load_row rfl 69 (.tmp 17) rfl bd rfl 69 _ (0, 0) _ (Hid.out HM).bd Try.underlying69 rfl drv_size ?_))
                  refine (ref_derase (w0 := w) sec (Hid.out HM).r (Hid.out HM).bw (by have := (Hid.out HM).dk.n; have := (Hid.out HM).r.ok.n2; omega) HOK.out).mono ?_
                  rintro e w3 ⟨v2, rfl, hR2, hB2, hF2⟩
                  obtain ⟨A2, c2, rfl⟩ := Kd.R_slice hR2.r
                  have hI2 := (Hid.out HM).both HX.out (DrvS.er_n _ _ _) hpB hqB hbB hbdB hgB (by omega) hR2 hF2
                  have HI2 := hide hI2
                  have hBb : Blk w3 b 65 (rcells v s) := (Hid.out HM).b.frm hF2 (fun e => e.1.2.2.2.1 rfl)
                  have HBb := hide hBb
                  have HOp3 := hide ((DpMid.op hF2 HOp1.out).setRow_far (rcells (.slice A2 (d.er s sec).l.length c2) (d.er s sec)) (k := b) (by omega))
                  clear hI2 hR2 hB2 hF2 hBb
                  go_wp2_with (first
                    | (refine wpList_store_row rfl 65 (.tmp 13) (.tmp 193) rfl b _ rfl rfl 65 _ HBb.out ref_size rfl (rcells_all _ _ _ _) ?_))
                  go_meet
                  exact ⟨d.erE s sec, _, _, [], none, none, 0, 0, rfl, rfl, rfl, rfl, HI2.out, Rd.nil _ _, Rd.nil _ _, by simp, HOp3.out⟩
              by_cases d6 : kd = 6
              · subst d6
                as_aux_lemma =>
                  go_wp2_with fail
                  refine (dread_is sec k ((Hid.out HI).ga.frm ((Frm.refl NoB wo).alloc _) (fun e => e)) ((Hid.out HI).n.alloc _) (Hid.out HI).dk).mono ?_
                  rintro e w1 ⟨A1, c1, rfl, hR1, -, -, hF1⟩
                  have HI1 := hide (((Hid.out HI).alloc _).frm hF1)
                  have hOp1 := HOp.out.frm hF1 (fun e => e)
                  obtain ⟨k0, k1, k2, k3, k4⟩ := dp_cells5 hOp1
                  have HOp1 := hide hOp1
                  have HR1 := hide hR1
                  clear hR1 hF1 hOp1
                  go_wp2_with (first
                    | (refine wpList_load_row rfl 65 (.tmp 13) rfl b rfl 65 _ (0, 0) _ (Hid.out HI1).b Try.underlying65 rfl ref_size ?_)
                    | (refine wpList_load_row rfl 69 (.tmp 17) rfl bd rfl 69 _ (0, 0) _ (Hid.out HI1).bd Try.underlying69 rfl drv_size ?_))
                  refine (ref_dread (w0 := w) sec k ⟨q2, q3⟩ ⟨q4, q5⟩ (Hid.out HI1).r (Hid.out HI1).dk).mono ?_
                  rintro e w3 ⟨A2, c2, rfl, hR2, -, hB2⟩
                  have HI2 := hide ((Hid.out HI1).frm (Frm.of_below hB2 NoB))
                  have HOp3 := hide (HOp1.out.frm (Frm.of_below hB2 NoB) (fun e => e))
                  have HR3 := hide (Rd.frm' HR1.out (Frm.of_below hB2 NoB) (fun _ _ _ e => e))
                  have HR2 := hide hR2
                  clear hR2 hB2
                  have hxl : ((d.rd s sec k).length : Int) ≤ 9223372036854775807 := by
                    unfold DrvS.rd DrvS.words
                    split
                    · simp; omega
                    · simp
                  have HXL := hide hxl
                  clear hxl
                  go_wp2_with fail
                  go_meet
                  exact ⟨d.rdE s sec k, _, _, d.rd s sec k, A1, A2, c1, c2, rfl, rfl, rfl, rfl, HI2.out, HR3.out, HR2.out, HXL.out, HOp3.out⟩
              by_cases d7 : kd = 7
              · subst d7
                as_aux_lemma =>
                  go_wp2_with fail
                  refine (arm_is k ((Hid.out HI).n.alloc _) q5).mono ?_
                  rintro e w1 ⟨rfl, hN1, hF1⟩
                  have hM := (Hid.out HI).mid HX.out hN1 hF1
                  have HM := hide hM
                  have hB1 : wo.heap.size < w1.heap.size := Nat.lt_of_lt_of_le (by simp) hF1.size
                  have hOp1 := HOp.out.frm hF1 (fun e => by rcases e with e | e <;> omega)
                  obtain ⟨k0, k1, k2, k3, k4⟩ := dp_cells5 hOp1
                  have HOp1 := hide hOp1
                  have H1 := hide (H0.out.frm ((Frm.refl NoB wo).alloc _) (fun _ _ e => e) |>.frm hF1 (fun i hi e => by have := HX.out.hp; have := HX.out.hq; rcases e with e | e <;> omega))
                  have HOK := hide hN1.ok
                  clear hM hN1 hF1 hOp1
                  go_wp2_with (first
                    | (refine wpList_load_row rfl 65 (.tmp 13) rfl b rfl 65 _ (0, 0) _ (Hid.out HM).b Try.underlying65 rfl ref_size ?_)
                    | (refine wpList_load_row rfl 69 (.tmp 17) rfl bd rfl 69 _ (0, 0) _ (Hid.out HM).bd Try.underlying69 rfl drv_size ?_))
                  refine (ref_arm (w0 := w) k (Hid.out HM).r (Hid.out HM).bw HOK.out).mono ?_
                  rintro e w3 ⟨v2, rfl, hR2, hB2, hF2⟩
                  obtain ⟨A2, c2, rfl⟩ := Kd.R_slice hR2.r
                  have hI2 := (Hid.out HM).both HX.out (by unfold NorS.arms; split <;> rfl) hpB hqB hbB hbdB hgB (by omega) hR2 hF2
                  have HI2 := hide hI2
                  have hBb : Blk w3 b 65 (rcells v s) := (Hid.out HM).b.frm hF2 (fun e => e.1.2.2.2.1 rfl)
                  have HBb := hide hBb
                  have HOp3 := hide ((DpMid.op hF2 HOp1.out).setRow_far (rcells (.slice A2 (s.arms k).l.length c2) (s.arms k)) (k := b) (by omega))
                  clear hI2 hR2 hB2 hF2 hBb
                  go_wp2_with (first
                    | (refine wpList_store_row rfl 65 (.tmp 13) (.tmp 225) rfl b _ rfl rfl 65 _ HBb.out ref_size rfl (rcells_all _ _ _ _) ?_))
                  go_meet
                  exact ⟨0, _, _, [], none, none, 0, 0, rfl, rfl, rfl, rfl, HI2.out, Rd.nil _ _, Rd.nil _ _, by simp, HOp3.out⟩
              by_cases d8 : kd = 8
              · subst d8
                as_aux_lemma =>
                  go_wp2_with fail
                  refine (crash_is AK cK keeps ((Hid.out HI).n.alloc _) ((H0.out.frm ((Frm.refl NoB wo).alloc _) (fun _ _ e => e))).rk (fun hne a ha e => by have h1 := H0.out.bk hne a ha; have := HX.out.hp; have := HX.out.hq; rcases e with e | e <;> omega) q8).mono ?_
                  rintro e w1 ⟨rfl, hN1, hF1⟩
                  have hM := (Hid.out HI).mid HX.out hN1 hF1
                  have HM := hide hM
                  have hB1 : wo.heap.size < w1.heap.size := Nat.lt_of_lt_of_le (by simp) hF1.size
                  have hOp1 := HOp.out.frm hF1 (fun e => by rcases e with e | e <;> omega)
                  obtain ⟨k0, k1, k2, k3, k4⟩ := dp_cells5 hOp1
                  have HOp1 := hide hOp1
                  have H1 := hide (H0.out.frm ((Frm.refl NoB wo).alloc _) (fun _ _ e => e) |>.frm hF1 (fun i hi e => by have := HX.out.hp; have := HX.out.hq; rcases e with e | e <;> omega))
                  have HOK := hide hN1.ok
                  clear hM hN1 hF1 hOp1
                  go_wp2_with (first
                    | (refine wpList_load_row rfl 65 (.tmp 13) rfl b rfl 65 _ (0, 0) _ (Hid.out HM).b Try.underlying65 rfl ref_size ?_)
                    | (refine wpList_load_row rfl 69 (.tmp 17) rfl bd rfl 69 _ (0, 0) _ (Hid.out HM).bd Try.underlying69 rfl drv_size ?_))
                  refine (ref_crash (w0 := w) AK cK _ keeps rfl q9 (Hid.out HM).r (Hid.out HM).bw ⟨(H1.out).rk, (H1.out).bk, (H1.out).kl⟩ HOK.out).mono ?_
                  rintro e w3 ⟨v2, rfl, hR2, hB2, hF2⟩
                  obtain ⟨A2, c2, rfl⟩ := Kd.R_slice hR2.r
                  have hI2 := (Hid.out HM).both HX.out (rfl) hpB hqB hbB hbdB hgB (by omega) hR2 hF2
                  have HI2 := hide hI2
                  have hBb : Blk w3 b 65 (rcells v s) := (Hid.out HM).b.frm hF2 (fun e => e.1.2.2.2.1 rfl)
                  have HBb := hide hBb
                  have HOp3 := hide ((DpMid.op hF2 HOp1.out).setRow_far (rcells (.slice A2 (s.crash keeps).l.length c2) (s.crash keeps)) (k := b) (by omega))
                  clear hI2 hR2 hB2 hF2 hBb
                  go_wp2_with (first
                    | (refine wpList_store_row rfl 65 (.tmp 13) (.tmp 236) rfl b _ rfl rfl 65 _ HBb.out ref_size rfl (rcells_all _ _ _ _) ?_))
                  go_meet
                  exact ⟨0, _, _, [], none, none, 0, 0, rfl, rfl, rfl, rfl, HI2.out, Rd.nil _ _, Rd.nil _ _, by simp, HOp3.out⟩
              by_cases d9 : kd = 9
              · subst d9
                as_aux_lemma =>
                  go_wp2_with fail
                  refine (crash_is AK cK keeps ((Hid.out HI).n.alloc _) ((H0.out.frm ((Frm.refl NoB wo).alloc _) (fun _ _ e => e))).rk (fun hne a ha e => by have h1 := H0.out.bk hne a ha; have := HX.out.hp; have := HX.out.hq; rcases e with e | e <;> omega) q8).mono ?_
                  rintro e w1 ⟨rfl, hN1, hF1⟩
                  have hM := (Hid.out HI).mid HX.out hN1 hF1
                  have HM := hide hM
                  have hB1 : wo.heap.size < w1.heap.size := Nat.lt_of_lt_of_le (by simp) hF1.size
                  have hOp1 := HOp.out.frm hF1 (fun e => by rcases e with e | e <;> omega)
                  obtain ⟨k0, k1, k2, k3, k4⟩ := dp_cells5 hOp1
                  have HOp1 := hide hOp1
                  have H1 := hide (H0.out.frm ((Frm.refl NoB wo).alloc _) (fun _ _ e => e) |>.frm hF1 (fun i hi e => by have := HX.out.hp; have := HX.out.hq; rcases e with e | e <;> omega))
                  have HOK := hide hN1.ok
                  clear hM hN1 hF1 hOp1
                  go_wp2_with (first
                    | (refine wpList_load_row rfl 65 (.tmp 13) rfl b rfl 65 _ (0, 0) _ (Hid.out HM).b Try.underlying65 rfl ref_size ?_)
                    | (refine wpList_load_row rfl 69 (.tmp 17) rfl bd rfl 69 _ (0, 0) _ (Hid.out HM).bd Try.underlying69 rfl drv_size ?_))
                  refine (ref_crash (w0 := w) AK cK _ keeps rfl q9 (Hid.out HM).r (Hid.out HM).bw ⟨(H1.out).rk, (H1.out).bk, (H1.out).kl⟩ HOK.out).mono ?_
                  rintro e w3 ⟨v2, rfl, hR2, hB2, hF2⟩
                  obtain ⟨A2, c2, rfl⟩ := Kd.R_slice hR2.r
                  have hI2 := (Hid.out HM).both HX.out (rfl) hpB hqB hbB hbdB hgB (by omega) hR2 hF2
                  have HI2 := hide hI2
                  have hBb : Blk w3 b 65 (rcells v s) := (Hid.out HM).b.frm hF2 (fun e => e.1.2.2.2.1 rfl)
                  have HBb := hide hBb
                  have HOp3 := hide ((DpMid.op hF2 HOp1.out).setRow_far (rcells (.slice A2 (s.crash keeps).l.length c2) (s.crash keeps)) (k := b) (by omega))
                  clear hI2 hR2 hB2 hF2 hBb
                  go_wp2_with (first
                    | (refine wpList_store_row rfl 65 (.tmp 13) (.tmp 236) rfl b _ rfl rfl 65 _ HBb.out ref_size rfl (rcells_all _ _ _ _) ?_))
                  go_meet
                  exact ⟨0, _, _, [], none, none, 0, 0, rfl, rfl, rfl, rfl, HI2.out, Rd.nil _ _, Rd.nil _ _, by simp, HOp3.out⟩
              by_cases d10 : kd = 10
              · subst d10
                as_aux_lemma =>
                  go_wp2_with fail
                  refine (rewrite_is k sec AL cL l ((Hid.out HI).n.alloc _) ((H0.out.frm ((Frm.refl NoB wo).alloc _) (fun _ _ e => e))).rl H0.out.u (by omega)).mono ?_
                  rintro e w1 ⟨rfl, hN1, hF1⟩
                  have hM := (Hid.out HI).mid HX.out hN1 hF1
                  have HM := hide hM
                  have hB1 : wo.heap.size < w1.heap.size := Nat.lt_of_lt_of_le (by simp) hF1.size
                  have hOp1 := HOp.out.frm hF1 (fun e => by rcases e with e | e <;> omega)
                  obtain ⟨k0, k1, k2, k3, k4⟩ := dp_cells5 hOp1
                  have HOp1 := hide hOp1
                  have H1 := hide (H0.out.frm ((Frm.refl NoB wo).alloc _) (fun _ _ e => e) |>.frm hF1 (fun i hi e => by have := HX.out.hp; have := HX.out.hq; rcases e with e | e <;> omega))
                  have HOK := hide hN1.ok
                  clear hM hN1 hF1 hOp1
                  go_wp2_with (first
                    | (refine wpList_load_row rfl 65 (.tmp 13) rfl b rfl 65 _ (0, 0) _ (Hid.out HM).b Try.underlying65 rfl ref_size ?_)
                    | (refine wpList_load_row rfl 69 (.tmp 17) rfl bd rfl 69 _ (0, 0) _ (Hid.out HM).bd Try.underlying69 rfl drv_size ?_))
                  refine (ref_rewrite (w0 := w) k sec AL cL _ l rfl (Hid.out HM).r (Hid.out HM).bw ⟨(H1.out).rl, (H1.out).bl, (H1.out).u, (H1.out).ll, (H1.out).lc⟩ (fun k hk => hk.1.1) HOK.out).mono ?_
                  rintro e w3 ⟨v2, rfl, hR2, hB2, hF2⟩
                  obtain ⟨A2, c2, rfl⟩ := Kd.R_slice hR2.r
                  have hI2 := (Hid.out HM).both HX.out (by unfold NorS.rewrite; split <;> rfl) hpB hqB hbB hbdB hgB (by omega) hR2 hF2
                  have HI2 := hide hI2
                  have hBb : Blk w3 b 65 (rcells v s) := (Hid.out HM).b.frm hF2 (fun e => e.1.2.2.2.1 rfl)
                  have HBb := hide hBb
                  have HOp3 := hide ((DpMid.op hF2 HOp1.out).setRow_far (rcells (.slice A2 (s.rewrite k sec l).l.length c2) (s.rewrite k sec l)) (k := b) (by omega))
                  clear hI2 hR2 hB2 hF2 hBb
                  go_wp2_with (first
                    | (refine wpList_store_row rfl 65 (.tmp 13) (.tmp 256) rfl b _ rfl rfl 65 _ HBb.out ref_size rfl (rcells_all _ _ _ _) ?_))
                  go_meet
                  exact ⟨s.rewriteE k sec l, _, _, [], none, none, 0, 0, rfl, rfl, rfl, rfl, HI2.out, Rd.nil _ _, Rd.nil _ _, by simp, HOp3.out⟩
              have e5 : (kd == 5) = false := by rw [beq_eq_false_iff_ne]; exact d5
              have e6 : (kd == 6) = false := by rw [beq_eq_false_iff_ne]; exact d6
              have e7 : (kd == 7) = false := by rw [beq_eq_false_iff_ne]; exact d7
              have e8 : (kd == 8) = false := by rw [beq_eq_false_iff_ne]; exact d8
              have e9 : (kd == 9) = false := by rw [beq_eq_false_iff_ne]; exact d9
              have e10 : (kd == 10) = false := by rw [beq_eq_false_iff_ne]; exact d10
              clear d5 d6 d7 d8 d9 d10
              go_wp2_with fail
              go_meet
              exact ⟨0, _, _, [], none, none, 0, 0, rfl, rfl, rfl, rfl, (Hid.out HI).alloc _, Rd.nil _ _, Rd.nil _ _, by simp, HOp.out⟩
        case rest =>
          clear k0 k1 k2 k3 k4 HI HOp
          as_aux_lemma =>
            obtain ⟨z, s', v', xs, A1, A2, c1, c2, rfl, rfl, rfl, rfl, hI, hR1, hR2, hxl, hOpB⟩ := hcut
            have HIc := hide hI
            have HR1 := hide hR1
            have HR2 := hide hR2
            have HXL := hide hxl
            obtain ⟨A3, c3, rfl⟩ := Kd.R_slice hI.r.r
            obtain ⟨m0, m1, m2, m3, m4⟩ := rc_cells hI.b
            have y0 : wc.cell? ⟨bd, 0, none⟩ = some (.int .i64 d.first) := hI.bd.cell 0
            have y1 : wc.cell? ⟨bd, 1, none⟩ = some (.int .i64 d.many) := hI.bd.cell 1
            obtain ⟨-, k1, k2, -, -⟩ := dp_cells5 hOpB
            have hmany : d.many ≤ 1024 := by have := hI.dk.n; have := hI.n.ok.n2; omega
            have HS0 := hide (And.intro (Frm.refl NoB wc) (And.intro y0 (And.intro y1 (And.intro m0 (And.intro m1 (And.intro m2 (And.intro m3 (And.intro m4 (And.intro k1 k2)))))))))
            have K24 : Hid (∀ W, Frm NoB wc W → Calls Try.prog 24 #[.slice A1 xs.length c1, .slice A2 xs.length c2] W fun e w' => e = .returned (.bool true) ∧ Frm NoB W w') := fun W hf =>
              (sameWords_is xs xs A1 A2 c1 c2 W (Rd.frm' HR1.out hf (fun _ _ _ e => e)) (Rd.frm' HR2.out hf (fun _ _ _ e => e)) HXL.out).mono (by rintro e w' ⟨rfl, m, rfl⟩; exact ⟨ret_bool (by simp [same]), (Frm.refl NoB W).drewN m⟩)
            have K14 : Hid (∀ W, Frm NoB wc W → Calls Try.prog 14 #[.pointer (some ⟨g, 0, none⟩)] W fun e w' => e = .returned (.int .i64 d.many) ∧ W = w') := fun W hf => dsectors_is (HIc.out.ga.frm hf (fun e => e))
            have K15 : Hid (∀ W, Frm NoB wc W → Calls Try.prog 15 #[.pointer (some ⟨g, 0, none⟩)] W fun e w' => e = .returned (.int .i64 (64 * (d.many : Int))) ∧ W = w') := fun W hf =>
              (dsize_is (HIc.out.ga.frm hf (fun e => e)) hmany).mono (by rintro e w' ⟨rfl, rfl⟩; exact ⟨ret_int (by omega), rfl⟩)
            have K13 : Hid (∀ W, Frm NoB wc W → Calls Try.prog 13 #[.pointer (some ⟨g, 0, none⟩), .int .i64 sec, .int .i64 k] W fun e w' => e = .returned (.bool (d.blank s' sec k)) ∧ Frm NoB W w') := fun W hf =>
              dblank_is sec k (HIc.out.ga.frm hf (fun e => e)) (HIc.out.n.frm hf (fun e => e) (fun e => e)) HIc.out.dk
            have K38 : Hid (∀ W, Frm NoB wc W → Calls Try.prog 38 #[.agg #[.int .i64 d.first, .int .i64 d.many], .agg #[.slice A3 s'.l.length c3, .int .i64 s'.guard, .int .i64 s'.arm, .bool s'.down, .int .i64 s'.half], .int .i64 sec, .int .i64 k] W fun e w' => e = .returned (.bool (d.blank s' sec k)) ∧ Frm NoB W w') := fun W hf =>
              (ref_dblank (w0 := w) sec k ⟨q2, q3⟩ ⟨q4, q5⟩ (HIc.out.r.frm hf (fun _ _ e => e)) HIc.out.dk).mono (by rintro e w' ⟨rfl, hb⟩; exact ⟨rfl, Frm.of_below hb NoB⟩)
            have K39 : Hid (∀ W, Frm NoB wc W → Calls Try.prog 39 #[.pointer (some ⟨p, 0, none⟩), .agg #[.slice A3 s'.l.length c3, .int .i64 s'.guard, .int .i64 s'.arm, .bool s'.down, .int .i64 s'.half]] W fun e w' => e = .returned (.bool true) ∧ Frm NoB W w') := fun W hf =>
              sameNor_is (HIc.out.n.frm hf (fun e => e) (fun e => e)) (HIc.out.r.frm hf (fun _ _ e => e))
            have wq : IntKind.i64.wrap (64 * (d.many : Int)) = 64 * (d.many : Int) := IntWalk.i64_in _ (by omega)
            clear hI hR1 hR2 hxl hOpB hmany y0 y1 m0 m1 m2 m3 m4 k1 k2
            go_wp2_with fail
            go_region_held3 (fun w' => Frm NoB wc w' ∧ w'.cell? ⟨bd, 0, none⟩ = some (.int .i64 d.first) ∧ w'.cell? ⟨bd, 1, none⟩ = some (.int .i64 d.many) ∧ w'.cell? ⟨b, 0, none⟩ = some (.slice A3 s'.l.length c3) ∧ w'.cell? ⟨b, 1, none⟩ = some (.int .i64 s'.guard) ∧ w'.cell? ⟨b, 2, none⟩ = some (.int .i64 s'.arm) ∧ w'.cell? ⟨b, 3, none⟩ = some (.bool s'.down) ∧ w'.cell? ⟨b, 4, none⟩ = some (.int .i64 s'.half) ∧ w'.cell? ⟨wo.heap.size, 1, none⟩ = some (.int .i64 sec) ∧ w'.cell? ⟨wo.heap.size, 2, none⟩ = some (.int .i64 k))
              (first
                | assumption
                | exact keep_dp (Hid.out HS0) ((Frm.refl NoB _).drew)
                | exact keep_dp (by assumption) (by assumption))
              (first
                | (go_at_call 24; refine (K24.out _ (by go_split_ands; assumption)).mono ?_; rintro e w' ⟨rfl, hF⟩)
                | (go_at_call 14; refine (K14.out _ (by go_split_ands; assumption)).mono ?_; rintro e w' ⟨rfl, rfl⟩)
                | (go_at_call 15; refine (K15.out _ (by go_split_ands; assumption)).mono ?_; rintro e w' ⟨rfl, rfl⟩)
                | (go_at_call 13; refine (K13.out _ (by go_split_ands; assumption)).mono ?_; rintro e w' ⟨rfl, hF⟩)
                | (go_at_call 38; refine (K38.out _ (by go_split_ands; assumption)).mono ?_; rintro e w' ⟨rfl, hF⟩)
                | (go_at_call 39; refine (K39.out _ (by go_split_ands; assumption)).mono ?_; rintro e w' ⟨rfl, hF⟩))
            all_goals
              go_split_ands
              go_wp2
              go_roundw
              case rel => exact ⟨j + 1, _, _, by omega, by omega, by go_num, HIc.out.frm (by assumption)⟩
              case measure => simp [intOf]; omega
      · obtain rfl : j = 50 := by omega
        as_aux_lemma =>
          go_wp2_with fail
          refine (awake_is _).mono ?_
          rintro e wz ⟨rfl, hz⟩
          go_wp2
          go_ret
          exact ⟨rfl, (Hid.out HI).f.trans hz⟩
    · obtain rfl : j = ops.length := by omega
      as_aux_lemma =>
        go_wp2_with fail
        refine (awake_is _).mono ?_
        rintro e wz ⟨rfl, hz⟩
        go_wp2
        go_ret
        exact ⟨rfl, (Hid.out HI).f.trans hz⟩
end Go.Proofs.Ytplngfphklpicaa

/-
  Through any script every answer, and the flash, are as the document defines: all cases.
-/
namespace Go.Proofs.Ytplngfphklpicaa
open Go.RowKit Go.Proofs.YtplngfphklpicaaW.PrintWords Go.Proofs.Ytplngfphklpicaa.PDrivePlays
attribute [local go_sem] refV drvV
set_option maxRecDepth 100000 in
set_option maxHeartbeats 4000000 in
theorem drivePlays_shut (w : World) (n : Nat) (a m pa pm : Int) (V : Value) (hn1 : 1 ≤ n) (hn6 : n ≤ 6) (hb : ¬ (1 ≤ m ∧ 0 ≤ a ∧ a ≤ (n : Int) ∧ m ≤ (n : Int) - a)) :
    Calls Try.prog 8 #[.int .i64 n, .int .i64 a, .int .i64 m, .agg #[.int .i64 pa, .int .i64 pm], V] w fun e w' => e = .returned (.bool true) ∧ Frm NoB w w' := by
  have t1 : decide ((n : Int) < 1) = false := by simp; omega
  have t2 : decide ((n : Int) > 6) = false := by simp; omega
  obtain ⟨h, hh⟩ : ∃ h : Nat, n / 2 = h := ⟨_, rfl⟩
  have e1 : (n : Int) / 2 = (h : Int) := by omega
  have e2 : Int.tdiv (n : Int) 2 = (h : Int) := by rw [Int.tdiv_eq_ediv_of_nonneg (by omega)]; omega
  have hhn : h ≤ n := by omega
  have HB := hide hb
  clear hh hb
  go_enter Try.func8, Try.ntmps8
  go_wp2_with fail
  refine (new_is n h _ hn1 (by omega) hhn).mono ?_
  rintro e w1 ⟨p, q, c, rfl, hN, hp, hq, hF⟩
  have hF0 : Frm NoB w w1 := ((Frm.refl NoB w).alloc _).trans hF
  have HN := hide hN
  have HFa := hide hF0
  have hb1 := hide (hF0.below (fun _ _ e => e))
  have HOK := hide hN.ok
  clear hN hF hF0 hp hq
  go_wp2_with fail
  refine (ref_new (w0 := w) n h hn1 (by omega) hhn hb1.out HOK.out).mono ?_
  rintro e w2 ⟨v, rfl, hR, hb2, hF2⟩
  obtain ⟨A0, c0, rfl⟩ := Kd.R_slice hR.r
  have hF2n : Frm NoB w1 w2 := hF2.mono (fun _ _ e => e)
  have HR2 := hide hR
  have HN2 := hide ((Hid.out HN).frm hF2n (fun e => e) (fun e => e))
  have HF2 := hide ((Hid.out HFa).trans hF2n)
  clear hR hb2 hF2 hF2n HN HFa hb1 HOK
  go_wp2_with fail
  refine (dopen_bad a m ((Hid.out HN2).alloc _) HB.out).mono ?_
  rintro e w' ⟨rfl, rfl⟩
  go_wp2_with fail
  refine (ref_dopen_bad (w0 := w) a m (HR2.out.frm ((Frm.refl NoB w2).alloc _) (fun _ _ e => e)) HB.out).mono ?_
  rintro e w4 ⟨rfl, hF4⟩
  have HF4 := hide (((Hid.out HF2).alloc (.cells (rcells (.slice A0 (NorS.new n h).l.length c0) (NorS.new n h)) 65)).trans hF4)
  clear hF4
  go_wp2_with fail
  refine (awake_is _).mono ?_
  rintro e wz ⟨rfl, hz⟩
  go_wp2
  go_ret
  exact ⟨rfl, ((Hid.out HF4).alloc _).trans hz⟩
set_option maxRecDepth 100000 in
set_option maxHeartbeats 1000000 in
theorem drivePlays_is (w : World) (n a m pa pm : Int) (bpa : -9223372036854775808 ≤ pa ∧ pa ≤ 9223372036854775807) (bpm : -9223372036854775808 ≤ pm ∧ pm ≤ 9223372036854775807) (A : Option Addr) (cp : Nat) (ops : List OpS) (hO : OpsAt w w.heap.size A ops) (hm : (ops.length : Int) ≤ 9223372036854775807) :
    Calls Try.prog 8 #[.int .i64 n, .int .i64 a, .int .i64 m, .agg #[.int .i64 pa, .int .i64 pm], .slice A ops.length cp] w fun e w' => e = .returned (.bool true) ∧ Frm NoB w w' := by
  by_cases h6 : 1 ≤ n ∧ n ≤ 6
  · obtain ⟨N, rfl⟩ := Int.eq_ofNat_of_zero_le (a := n) (by omega)
    by_cases hb : 1 ≤ m ∧ 0 ≤ a ∧ a ≤ (N : Int) ∧ m ≤ (N : Int) - a
    · obtain ⟨F, rfl⟩ := Int.eq_ofNat_of_zero_le (a := a) (by omega)
      obtain ⟨M, rfl⟩ := Int.eq_ofNat_of_zero_le (a := m) (by omega)
      by_cases hp : 1 ≤ pm ∧ 0 ≤ pa ∧ pa ≤ ((⟨F, M⟩ : DrvS).many : Int) ∧ pm ≤ ((⟨F, M⟩ : DrvS).many : Int) - pa
      · exact drivePlays_part w N F M pa pm bpa bpm A cp ops (by omega) (by omega) (by omega) (by omega) hp hO hm
      · exact drivePlays_bad w N F M pa pm bpa bpm A cp ops (by omega) (by omega) (by omega) (by omega) hp hO hm
    · exact drivePlays_shut w N a m pa pm _ (by omega) (by omega) hb
  · clear hO
    rcases (by omega : n < 1 ∨ (1 ≤ n ∧ 6 < n)) with h | ⟨h, h'⟩
    · have t1 : decide (n < 1) = true := decide_eq_true h
      go_enter Try.func8, Try.ntmps8
      go_wp2_with fail
      refine (awake_is _).mono ?_
      rintro e wz ⟨rfl, hz⟩
      go_wp2
      go_ret
      exact ⟨rfl, ((Frm.refl NoB w).alloc _).trans hz⟩
    · have t1 : decide (n < 1) = false := decide_eq_false (by omega)
      have t2 : decide (n > 6) = true := decide_eq_true h'
      go_enter Try.func8, Try.ntmps8
      go_wp2_with fail
      refine (awake_is _).mono ?_
      rintro e wz ⟨rfl, hz⟩
      go_wp2
      go_ret
      exact ⟨rfl, ((Frm.refl NoB w).alloc _).trans hz⟩
end Go.Proofs.Ytplngfphklpicaa

/-
  Arguments, opened: rows of numbers, of truths.
-/
namespace Go.Proofs.Ytplngfphklpicaa
open Go.ChangeShapes Go.WideShapes Go.ChangeAt Go.RowKit Go.Deep

section
variable {H : Type} {enc : TypeId × Value → H} {P : Program} {W : World}
theorem spot_none {w : World} {a : Addr} {v : Value} (h : w.cell? a = some v) : ∃ b o, a = ⟨b, o, none⟩ := by
  have := World.cell?_spot h
  obtain ⟨b, o, s⟩ := a
  simp at this
  exact ⟨b, o, by rw [this]⟩
/-- a row of numbers -/
theorem open_row {base : Nat} {spare : Nat → Bool} {held : Bool} {t e : TypeId} {k : IntKind} {fuel : Nat} {v : Value} {x : DataW H × List MemPlace} (ht : P.underlying t = some (.slice e)) (he : P.underlying e = some (.int k)) (hc : P.cellsOf e = 1)
    (h : DataW.trod enc P W base spare held fuel t [v] = some x) :
    ∃ (A : Option Addr) (c : Nat) (xs : List Int), v = .slice A xs.length c ∧ Rd W A (ints k xs) ∧ (∀ n ∈ xs, (Lit.int k n).wf = true) ∧ xs.length ≤ c ∧ c ≤ maxLen := by
  rcases open_ints ht he hc h with ⟨hcs, _⟩ | ⟨a, l, c, zs, hcs, _, hl, hm, hz, _, hcell, hwz⟩
  · simp at hcs
    subst hcs
    exact ⟨none, 0, [], rfl, Rd.nil _ _, (fun n hn => by cases hn), Nat.le_refl _, Nat.zero_le _⟩
  · simp at hcs
    subst hcs
    have hzl : l ≤ zs.length := by rw [hz]; split <;> omega
    have hlen : (zs.take l).length = l := by rw [List.length_take]; omega
    refine ⟨some a, c, zs.take l, by rw [hlen], fun hne => ?_, fun n hn => hwz n (List.mem_of_mem_take hn), by rw [hlen]; exact hl, hm⟩
    have hl0 : 0 < l := by
      rcases Nat.eq_zero_or_pos l with h0 | h0
      · subst h0; simp [ints] at hne
      · exact h0
    have h0 := hcell 0 (by omega)
    obtain ⟨b, o, ha⟩ := spot_none h0
    have ha' : a = ⟨b, o, none⟩ := by
      have : a.add 0 = a := by simp [Addr.add]
      rw [this] at ha; exact ha
    subst ha'
    refine ⟨b, o, rfl, fun i v hi => ?_⟩
    have hil : i < l := by
      have := (List.getElem?_eq_some_iff.1 hi).1
      rw [ints_length, hlen] at this; exact this
    have := hcell i (by omega)
    rw [addr_add] at this
    rw [this, ← hi, ints_get (by rw [hlen]; exact hil)]
    congr 2
    simp only [List.getD_eq_getElem?_getD, List.getElem?_take_of_lt hil]
/-- a row of truths -/
theorem open_brow {base : Nat} {held : Bool} {t e : TypeId} {fuel : Nat} {v : Value} {x : DataW H × List MemPlace} (ht : P.underlying t = some (.slice e)) (he : P.underlying e = some .bool) (hc : P.cellsOf e = 1)
    (h : DataW.trod enc P W base (fun _ => true) held fuel t [v] = some x) :
    ∃ (A : Option Addr) (c : Nat) (ks : List Bool), v = .slice A ks.length c ∧ Rd W A (bools ks) ∧ ks.length ≤ c ∧ c ≤ maxLen := by
  rcases open_bools ht he hc h with ⟨hcs, _⟩ | ⟨a, l, c, B, hcs, _, hl, hm, _, hcell⟩
  · simp at hcs
    subst hcs
    exact ⟨none, 0, [], rfl, Rd.nil _ _, Nat.le_refl _, Nat.zero_le _⟩
  · simp at hcs
    subst hcs
    refine ⟨some a, c, (List.range l).map B, by simp, fun hne => ?_, by simpa using hl, hm⟩
    have hl0 : 0 < l := by
      rcases Nat.eq_zero_or_pos l with h0 | h0
      · subst h0; simp [bools] at hne
      · exact h0
    have h0 := hcell 0 (by omega)
    obtain ⟨b, o, ha⟩ := spot_none h0
    have ha' : a = ⟨b, o, none⟩ := by
      have : a.add 0 = a := by simp [Addr.add]
      rw [this] at ha; exact ha
    subst ha'
    refine ⟨b, o, rfl, fun i v hi => ?_⟩
    have hil : i < l := by
      have := (List.getElem?_eq_some_iff.1 hi).1
      simpa [bools] using this
    have := hcell i (by omega)
    rw [addr_add] at this
    rw [this, ← hi]
    simp [bools, hil]
/-- five fields of one cell each -/
theorem open_five {base : Nat} {spare : Nat → Bool} {held : Bool} {t : TypeId} {f0 f1 f2 f3 f4 : Field} {fuel : Nat} {cs : List Value} {x : DataW H × List MemPlace} (ht : P.underlying t = some (.struct #[f0, f1, f2, f3, f4])) (hone : oneCellFields P #[f0, f1, f2, f3, f4] = true) (hC : P.cellsOf t = 5)
    (h : DataW.trod enc P W base spare held fuel t cs = some x) :
    ∃ (v0 v1 v2 v3 v4 : Value) (n : Nat) (y0 y1 y2 y3 y4 : DataW H × List MemPlace), cs = [v0, v1, v2, v3, v4] ∧ DataW.trod enc P W base spare held n f0.type [v0] = some y0 ∧ DataW.trod enc P W base spare held n f1.type [v1] = some y1 ∧ DataW.trod enc P W base spare held n f2.type [v2] = some y2 ∧ DataW.trod enc P W base spare held n f3.type [v3] = some y3 ∧ DataW.trod enc P W base spare held n f4.type [v4] = some y4 := by
  obtain ⟨xs, n, _, _, hl, hx, hf⟩ := DataW.trod_struct ht h
  rw [hC] at hl
  match cs, hl with
  | [v0, v1, v2, v3, v4], _ =>
    match xs, hx with
    | [y0, y1, y2, y3, y4], _ =>
      obtain ⟨o0, k0⟩ := hone_of hone 0 f0 rfl
      obtain ⟨o1, k1⟩ := hone_of hone 1 f1 rfl
      obtain ⟨o2, k2⟩ := hone_of hone 2 f2 rfl
      obtain ⟨o3, k3⟩ := hone_of hone 3 f3 rfl
      obtain ⟨o4, k4⟩ := hone_of hone 4 f4 rfl
      exact ⟨v0, v1, v2, v3, v4, n, y0, y1, y2, y3, y4, rfl, by simpa [o0, k0] using hf 0 f0 rfl, by simpa [o1, k1] using hf 1 f1 rfl, by simpa [o2, k2] using hf 2 f2 rfl, by simpa [o3, k3] using hf 3 f3 rfl, by simpa [o4, k4] using hf 4 f4 rfl⟩
theorem open_one_int {base : Nat} {spare : Nat → Bool} {held : Bool} {t : TypeId} {k : IntKind} {fuel : Nat} {v : Value} {x : DataW H × List MemPlace} (ht : P.underlying t = some (.int k)) (h : DataW.trod enc P W base spare held fuel t [v] = some x) :
    ∃ n, v = .int k n ∧ (Lit.int k n).wf = true := by
  obtain ⟨n, h1, _, h2⟩ := DataW.trod_int ht h
  simp at h1
  exact ⟨n, h1, h2⟩
/-- a row's cells lie below the heap's end -/
theorem Rd.below {w : World} {A : Option Addr} {vs : List Value} (h : Rd w A vs) (hne : vs ≠ []) : ∀ a, A = some a → a.block < w.heap.size := fun a ha => by
  obtain ⟨a', ha', hlt⟩ := h.lt hne
  rw [ha] at ha'
  injection ha' with ha'
  subst ha'; exact hlt
theorem u32_wf {xs : List Int} (h : ∀ n ∈ xs, (Lit.int .u32 n).wf = true) : U32 xs := fun x hx => by
  have := bounds_u32 (h x hx); omega
end

section
variable {H : Type} {enc : TypeId × Value → H} {W : World}
theorem u32_one : Try.prog.cellsOf 48 = 1 := by kernel_rfl
theorem bool_one : Try.prog.cellsOf 4 = 1 := by kernel_rfl
theorem cap_i64 {c : Nat} (h : c ≤ maxLen) : (c : Int) ≤ 9223372036854775807 := by unfold maxLen at h; omega
/-- an argument of words -/
theorem open_arg_row {t e : TypeId} (ht : Try.prog.underlying t = some (.slice e)) (he : Try.prog.underlying e = some (.int .u32)) (hc : Try.prog.cellsOf e = 1) {A0 : Option Addr} {len0 cap0 : Nat} {d : DataW H} {p : List MemPlace} (h : DataW.Trod enc Try.prog W 0 (fun _ => true) true t (.slice A0 len0 cap0) d p) :
    ∃ (A : Option Addr) (c : Nat) (xs : List Int), Value.slice A0 len0 cap0 = .slice A xs.length c ∧ RowArg W W.heap.size A c xs := by
  obtain ⟨fuel, hf⟩ := h
  obtain ⟨A, c, xs, e, r, w, l, m⟩ := open_row ht he hc hf
  exact ⟨A, c, xs, e, ⟨r, fun hne => r.below (ints_ne hne), u32_wf w, l, cap_i64 m⟩⟩
/-- an argument of truths -/
theorem open_arg_brow {t e : TypeId} (ht : Try.prog.underlying t = some (.slice e)) (he : Try.prog.underlying e = some .bool) (hc : Try.prog.cellsOf e = 1) {A0 : Option Addr} {len0 cap0 : Nat} {d : DataW H} {p : List MemPlace} (h : DataW.Trod enc Try.prog W 0 (fun _ => true) true t (.slice A0 len0 cap0) d p) :
    ∃ (A : Option Addr) (c : Nat) (ks : List Bool), Value.slice A0 len0 cap0 = .slice A ks.length c ∧ BoolArg W W.heap.size A ks := by
  obtain ⟨fuel, hf⟩ := h
  obtain ⟨A, c, ks, e, r, l, m⟩ := open_brow ht he hc hf
  have := cap_i64 m
  exact ⟨A, c, ks, e, ⟨r, fun hne => r.below (bools_ne hne), by omega⟩⟩
end
end Go.Proofs.Ytplngfphklpicaa

/-
  Arguments, opened: rows of ops.
-/
namespace Go.Proofs.Ytplngfphklpicaa
open Go.ChangeShapes Go.WideShapes Go.ChangeAt Go.RowKit Go.Deep

section
variable {H : Type} {enc : TypeId × Value → H} {W : World}
theorem op_cells : Try.prog.cellsOf 61 = 5 := by kernel_rfl
theorem op_one : ∃ f0 f1 f2 f3 f4, Try.prog.underlying 61 = some (.struct #[f0, f1, f2, f3, f4]) ∧ oneCellFields Try.prog #[f0, f1, f2, f3, f4] = true ∧ f0.type = 3 ∧ f1.type = 3 ∧ f2.type = 3 ∧ f3.type = 22 ∧ f4.type = 59 :=
  ⟨_, _, _, _, _, Try.underlying61, by kernel_rfl, by kernel_rfl, by kernel_rfl, by kernel_rfl, by kernel_rfl, by kernel_rfl⟩
/-- one op -/
theorem open_op {fuel : Nat} {cs : List Value} {x : DataW H × List MemPlace} (h : DataW.trod enc Try.prog W 0 (fun _ => true) true fuel 61 cs = some x) :
    ∃ (o : OpS) (AL : Option Addr) (cL : Nat) (AK : Option Addr) (cK : Nat), cs = [.int .i64 o.kind, .int .i64 o.sector, .int .i64 o.at_, .slice AL o.l.length cL, .slice AK o.keeps.length cK] ∧ OpIs W W.heap.size o AL cL AK cK := by
  obtain ⟨f0, f1, f2, f3, f4, hu, hone, t0, t1, t2, t3, t4⟩ := op_one
  obtain ⟨v0, v1, v2, v3, v4, n, y0, y1, y2, y3, y4, rfl, h0, h1, h2, h3, h4⟩ := open_five hu hone op_cells h
  rw [t0] at h0; rw [t1] at h1; rw [t2] at h2; rw [t3] at h3; rw [t4] at h4
  obtain ⟨k, rfl, wk⟩ := open_one_int Try.underlying3 h0
  obtain ⟨s, rfl, ws⟩ := open_one_int Try.underlying3 h1
  obtain ⟨a, rfl, wa⟩ := open_one_int Try.underlying3 h2
  obtain ⟨AL, cL, xs, rfl, rl, wl, ll, lm⟩ := open_row Try.underlying22 Try.underlying48 u32_one h3
  obtain ⟨AK, cK, ks, rfl, rk, lk, km⟩ := open_brow Try.underlying59 Try.underlying4 bool_one h4
  have bk := bounds_i64 wk; have bs := bounds_i64 ws; have ba := bounds_i64 wa
  have hc := cap_i64 lm; have hc2 := cap_i64 km
  exact ⟨⟨k, s, a, xs, ks⟩, AL, cL, AK, cK, rfl, ⟨rl, fun hne => rl.below (ints_ne hne), rk, fun hne => rk.below (bools_ne hne), u32_wf wl, bk.1, bk.2, bs.1, bs.2, ba.1, ba.2, ll, hc, by show (ks.length : Int) ≤ _; omega, lk⟩⟩
/-- an argument of ops -/
theorem open_ops {A0 : Option Addr} {len0 cap0 : Nat} {d : DataW H} {p : List MemPlace} (h : DataW.Trod enc Try.prog W 0 (fun _ => true) true 43 (.slice A0 len0 cap0) d p) :
    ∃ (A : Option Addr) (c : Nat) (ops : List OpS), Value.slice A0 len0 cap0 = .slice A ops.length c ∧ OpsAt W W.heap.size A ops ∧ (ops.length : Int) ≤ 9223372036854775807 := by
  obtain ⟨fuel, hf⟩ := h
  rcases open_slice Try.underlying43 hf with ⟨hcs, _⟩ | ⟨a, len, cap, m, n, D, Pl, hcs, _, hl, hm, hmm, _, hi⟩
  · simp [Value.cells] at hcs
    exact ⟨none, 0, [], by simp [hcs], ⟨fun i hi => by simp at hi⟩, by simp⟩
  · simp only [if_true] at hmm
    subst hmm
    have hc := cap_i64 hm
    have hex : ∀ i, i < m → ∃ (o : OpS) (AL : Option Addr) (cL : Nat) (AK : Option Addr) (cK : Nat), OpIs W W.heap.size o AL cL AK cK ∧ ∀ j u, [Value.int .i64 o.kind, .int .i64 o.sector, .int .i64 o.at_, .slice AL o.l.length cL, .slice AK o.keeps.length cK][j]? = some u → W.cell? ((a.add (i * 5)).add j) = some u := fun i him => by
      obtain ⟨cs', hcell, ht⟩ := hi i him
      rw [op_cells] at hcell
      obtain ⟨o, AL, cL, AK, cK, rfl, ho⟩ := open_op ht
      refine ⟨o, AL, cL, AK, cK, ho, fun j u hju => ?_⟩
      obtain ⟨_, hlen, hat⟩ := World.cells?_some hcell
      have hj : j < 5 := by
        have := (List.getElem?_eq_some_iff.1 hju).1
        simpa using this
      rw [hat j hj, hju]
    classical
    let F : Nat → OpS := fun i => if him : i < m then (hex i him).choose else ⟨0, 0, 0, [], []⟩
    refine ⟨some a, m, (List.range len).map F, ?_, ⟨fun i hi' => ?_⟩, by simp; omega⟩
    · simp [Value.cells] at hcs
      simp [hcs]
    · have hil : i < len := by simpa using hi'
      have him : i < m := by omega
      have e : ((List.range len).map F)[i]'hi' = (hex i him).choose := by
        simp [F, him]
      obtain ⟨AL, cL, AK, cK, ho, hcells⟩ := (hex i him).choose_spec
      have h0 := hcells 0 _ rfl
      have hab : a = ⟨a.block, a.off, none⟩ := by
        obtain ⟨_, _, _, _, _, _, hc0⟩ := hex 0 (by omega)
        have h1 := hc0 0 _ rfl
        rw [show (a.add (0 * 5)).add 0 = a from by simp [Addr.add]] at h1
        obtain ⟨b, o, ha⟩ := spot_none h1
        rw [ha]
      have hadd : ∀ j, (a.add (i * 5)).add j = ⟨a.block, a.off + i * 5 + j, none⟩ := fun j => by
        rw [hab, addr_add, addr_add]
      refine ⟨a.block, a.off, AL, cL, AK, cK, by rw [← hab], ?_, by rw [e]; exact ho, ?_, ?_, ?_, ?_, ?_⟩
      · have := World.block_lt_of_cell? W _ h0
        rw [hadd] at this; exact this
      all_goals rw [e]
      · have := hcells 0 _ rfl; rw [hadd] at this; exact this
      · have := hcells 1 _ rfl; rw [hadd] at this; exact this
      · have := hcells 2 _ rfl; rw [hadd] at this; exact this
      · have := hcells 3 _ rfl; rw [hadd] at this; exact this
      · have := hcells 4 _ rfl; rw [hadd] at this; exact this
end
end Go.Proofs.Ytplngfphklpicaa

/-
  An argument of two numbers ([2]int), opened.
-/
namespace Go.Proofs.Ytplngfphklpicaa
open Go.ChangeShapes Go.WideShapes Go.ChangeAt Go.RowKit
section
variable {H : Type} {enc : TypeId × Value → H} {W : World}
theorem two_cells : Try.prog.cellsOf 55 = 2 := by kernel_rfl
theorem one_cell : Try.prog.cellsOf 3 = 1 := by kernel_rfl
theorem okWide_two {r : Reach} {b0 : Nat} {v : Value} (h : Value.okWide Try.prog W r b0 55 v) : ∃ xs : Array Value, v = .agg xs ∧ xs.size = 2 := by
  simp only [Value.okWide, Try.underlying55] at h
  obtain ⟨cs, h1, h2, _⟩ := h
  exact ⟨cs, h1, by rw [h2, two_cells]⟩
theorem open_two {xs : Array Value} (hn : xs.size = 2) {d : DataW H} {p : List MemPlace} (h : DataW.Trod enc Try.prog W 0 (fun _ => true) true 55 (.agg xs) d p) :
    ∃ a b : Int, xs = #[.int .i64 a, .int .i64 b] ∧ (-9223372036854775808 ≤ a ∧ a ≤ 9223372036854775807) ∧ (-9223372036854775808 ≤ b ∧ b ≤ 9223372036854775807) := by
  obtain ⟨fuel, hf⟩ := h
  cases fuel with
  | zero => simp [DataW.trod] at hf
  | succ m =>
    rw [DataW.trod_step] at hf
    unfold DataW.trodStep at hf
    simp only [Try.underlying55, Value.cells] at hf
    rw [if_pos (by rw [two_cells]; simpa using hn)] at hf
    simp only [Option.map_eq_some_iff] at hf
    obtain ⟨ys, hy, e1⟩ := hf
    rw [one_cell] at hy
    simp only [show List.range 2 = [0, 1] from rfl, List.mapM_cons, bind, Option.bind_eq_some_iff, pure, Option.some.injEq] at hy
    obtain ⟨y0, h0, ys1, ⟨y1, h1, -⟩, -⟩ := hy
    obtain ⟨a, ea, -, wa⟩ := DataW.trod_int Try.underlying3 h0
    obtain ⟨b, eb, -, wb⟩ := DataW.trod_int Try.underlying3 h1
    refine ⟨a, b, ?_, bounds_i64 wa, bounds_i64 wb⟩
    have hx : xs.toList.length = 2 := by simpa using hn
    match hl : xs.toList, hx with
    | [x0, x1], _ =>
      rw [hl] at ea eb
      simp at ea eb
      apply Array.ext'
      rw [hl, ea, eb]
end
end Go.Proofs.Ytplngfphklpicaa
