/-
  The helpers of the flash's statements: an op, and what it does.
-/
import Derived.Test.YtlbnhmcejbidnaaNorLaw3
namespace Go.Proofs.Ytlbnhmcejbidnaa
open Go.RowKit

/-- An op of the flash's statements. -/
structure OpS where
  kind : Int
  sector : Int
  at_ : Int
  l : List Int
  keeps : List Bool
/-- How an op lies in memory, all its rows below block B. -/
structure OpIs (w : World) (B : Nat) (o : OpS) (AL : Option Addr) (cL : Nat) (AK : Option Addr) (cK : Nat) : Prop where
  rl : Rd w AL (ints .u32 o.l)
  bl : o.l ≠ [] → ∀ a, AL = some a → a.block < B
  rk : Rd w AK (bools o.keeps)
  bk : o.keeps ≠ [] → ∀ a, AK = some a → a.block < B
  u : U32 o.l
  k0 : -9223372036854775808 ≤ o.kind
  k1 : o.kind ≤ 9223372036854775807
  s0 : -9223372036854775808 ≤ o.sector
  s1 : o.sector ≤ 9223372036854775807
  a0 : -9223372036854775808 ≤ o.at_
  a1 : o.at_ ≤ 9223372036854775807
  ll : o.l.length ≤ cL
  lc : (cL : Int) ≤ 9223372036854775807
  kl : (o.keeps.length : Int) ≤ 9223372036854775807
  kc : o.keeps.length ≤ cK
def opVal (o : OpS) (AL : Option Addr) (cL : Nat) (AK : Option Addr) (cK : Nat) : Value := .agg #[.int .i64 o.kind, .int .i64 o.sector, .int .i64 o.at_, .slice AL o.l.length cL, .slice AK o.keeps.length cK]
theorem OpIs.frm {S : Nat → Prop} {w w' : World} {B : Nat} {o : OpS} {AL AK : Option Addr} {cL cK : Nat} (h : OpIs w B o AL cL AK cK) (hf : Frm S w w') (hs : ∀ k, k < B → ¬ S k) : OpIs w' B o AL cL AK cK :=
  ⟨by
    by_cases e : o.l = []
    · rw [e]; exact Rd.nil _ _
    · exact h.rl.frm hf (fun a ha => hs _ (h.bl e a ha)), h.bl, by
    by_cases e : o.keeps = []
    · rw [e]; exact Rd.nil _ _
    · exact h.rk.frm hf (fun a ha => hs _ (h.bk e a ha)), h.bk, h.u, h.k0, h.k1, h.s0, h.s1, h.a0, h.a1, h.ll, h.lc, h.kl, h.kc⟩

namespace NorS
def does (s : NorS) (o : OpS) : NorS :=
  if o.kind = 1 ∨ o.kind = 2 ∨ o.kind = 3 ∨ o.kind = 4 then s.program o.sector o.at_ (o.l.take 70)
  else if o.kind = 5 ∨ o.kind = 6 then s.erase o.sector
  else if o.kind = 7 then s.rewrite o.sector o.at_ (o.l.take 70)
  else if o.kind = 8 then s.arms o.at_
  else if o.kind = 9 ∨ o.kind = 10 then s.crash o.keeps else s
def doesE (s : NorS) (o : OpS) : Int :=
  if o.kind = 1 ∨ o.kind = 2 ∨ o.kind = 3 ∨ o.kind = 4 then s.programE o.sector o.at_ (o.l.take 70)
  else if o.kind = 5 ∨ o.kind = 6 then s.eraseE o.sector
  else if o.kind = 7 then s.rewriteE o.sector o.at_ (o.l.take 70)
  else 0
end NorS

section
variable {w : World} {p q c : Nat} {s : NorS} {B : Nat} {o : OpS} {AL AK : Option Addr} {cL cK : Nat}
def DoesPost (w : World) (p q c : Nat) (s : NorS) (o : OpS) (e : Ending) (w' : World) : Prop := e = .returned (.int .i64 (s.doesE o)) ∧ NorAt w' p q c (s.does o) ∧ Frm (Two p q) w w'

set_option maxHeartbeats 1000000 in
theorem does_prog (h : NorAt w p q c s) (ho : OpIs w B o AL cL AK cK) (hp : B ≤ p) (hq : B ≤ q) (k : Nat) (hk : o.kind = k) (hk1 : 1 ≤ k ∧ k ≤ 4) :
    Calls Try.prog 10 #[.pointer (some ⟨p, 0, none⟩), opVal o AL cL AK cK] w (DoesPost w p q c s o) := by
  have E : Hid (s.does o = s.program o.sector o.at_ (o.l.take 70)) := by show _ = _; unfold NorS.does; rw [if_pos (by omega)]
  have E' : Hid (s.doesE o = s.programE o.sector o.at_ (o.l.take 70)) := by show _ = _; unfold NorS.doesE; rw [if_pos (by omega)]
  unfold opVal
  have hll := ho.ll
  have hlc := ho.lc
  have HO := hide ho
  have H := hide h
  rw [hk]
  clear h ho hk
  have HLn : Hid ((o.l.take 70).length = min 70 o.l.length) := List.length_take
  have hh2 : ((o.l.take 70).length : Int) ≤ 9223372036854775807 := by rw [HLn.out]; omega
  have c1 : k = 1 ∨ k = 2 ∨ k = 3 ∨ k = 4 := by omega
  rcases Nat.lt_or_ge 70 o.l.length with h70 | h70
  all_goals
    rcases c1 with rfl | rfl | rfl | rfl
    all_goals
      go_enter Try.func10, Try.ntmps10
      go_wp2_with fail
      refine (program_at _ _ AL cL _ (o.l.take 70) (HLn.out.trans (by omega)) ((Hid.out H).alloc _) (by rw [ints_take]; exact ((HO.out.rl.frm ((Frm.refl NoB w).alloc _) (fun _ _ e => e)).take 70)) (fun hne a ha => below_two hp hq _ (HO.out.bl (fun e => hne (by rw [e]; rfl)) a ha)) (HO.out.u.take 70) hh2).mono ?_
      rintro e w1 ⟨rfl, hN1, hF1⟩
      have HN1 := hide hN1
      have HF1 := hide (((Frm.refl (Two p q) w).alloc _).trans hF1)
      clear hN1 hF1
      go_wp2
      go_ret
      exact ⟨ret_int E'.out.symm, by rw [E.out]; exact HN1.out, HF1.out⟩
set_option maxHeartbeats 1000000 in
theorem does_rew (h : NorAt w p q c s) (ho : OpIs w B o AL cL AK cK) (hp : B ≤ p) (hq : B ≤ q) (k : Nat) (hk : o.kind = k) (hk1 : k = 7) :
    Calls Try.prog 10 #[.pointer (some ⟨p, 0, none⟩), opVal o AL cL AK cK] w (DoesPost w p q c s o) := by
  have E : Hid (s.does o = s.rewrite o.sector o.at_ (o.l.take 70)) := by show _ = _; unfold NorS.does; rw [if_neg (by omega), if_neg (by omega), if_pos (by omega)]
  have E' : Hid (s.doesE o = s.rewriteE o.sector o.at_ (o.l.take 70)) := by show _ = _; unfold NorS.doesE; rw [if_neg (by omega), if_neg (by omega), if_pos (by omega)]
  unfold opVal
  have hll := ho.ll
  have hlc := ho.lc
  have HO := hide ho
  have H := hide h
  rw [hk]
  clear h ho hk
  have HLn : Hid ((o.l.take 70).length = min 70 o.l.length) := List.length_take
  have hh2 : ((o.l.take 70).length : Int) ≤ 9223372036854775807 := by rw [HLn.out]; omega
  have c1 : k = 7 := by omega
  rcases Nat.lt_or_ge 70 o.l.length with h70 | h70
  all_goals
    rcases c1 with rfl
    all_goals
      go_enter Try.func10, Try.ntmps10
      go_wp2_with fail
      refine (rewrite_at _ _ AL cL _ (o.l.take 70) (HLn.out.trans (by omega)) ((Hid.out H).alloc _) (by rw [ints_take]; exact ((HO.out.rl.frm ((Frm.refl NoB w).alloc _) (fun _ _ e => e)).take 70)) (HO.out.u.take 70) hh2).mono ?_
      rintro e w1 ⟨rfl, hN1, hF1⟩
      have HN1 := hide hN1
      have HF1 := hide (((Frm.refl (Two p q) w).alloc _).trans hF1)
      clear hN1 hF1
      go_wp2
      go_ret
      exact ⟨ret_int E'.out.symm, by rw [E.out]; exact HN1.out, HF1.out⟩
end
end Go.Proofs.Ytlbnhmcejbidnaa
