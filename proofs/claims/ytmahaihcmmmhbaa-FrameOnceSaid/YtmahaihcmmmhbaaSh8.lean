/-
  sha: Pad.
-/
import Derived.Test.YtmahaihcmmmhbaaByt2u
namespace Go.Proofs.Ytmahaihcmmmhbaa
open Go.RowKit
/-- how many bytes of 0 -/
def padZ (n : Nat) : Nat := (183 - n % 64) % 64
def padB (n i : Nat) : Int := (n : Int) * 8 / 2 ^ (56 - 8 * i) % 256
theorem padB_u (n i : Nat) : 0 ≤ padB n i ∧ padB n i < 256 := by unfold padB; omega
def padH (j : Nat) : List Int := 128 :: List.replicate j 0
def padT (n : Nat) : Nat → List Int
  | 0 => []
  | i + 1 => padT n i ++ [padB n i]
def padL (n : Nat) : List Int := padH (padZ n) ++ padT n 8
theorem padH_length (j : Nat) : (padH j).length = j + 1 := by simp [padH]
theorem padH_succ (j : Nat) : padH j ++ [0] = padH (j + 1) := by unfold padH; rw [List.cons_append, ← List.replicate_succ']
theorem padT_length (n : Nat) : ∀ i, (padT n i).length = i
  | 0 => rfl
  | i + 1 => by rw [padT, List.length_append, padT_length n i]; rfl
theorem padL_length (n : Nat) : (padL n).length = padZ n + 9 := by unfold padL; rw [List.length_append, padH_length, padT_length]
def P1Rel (w : World) (n : Nat) (x3 : Value) (wr : World) : Prop := ∃ (j : Nat) (A : Option Addr) (c : Nat), j ≤ padZ n ∧ x3 = .slice A (j + 1) c ∧ Ob wr w.heap.size (.slice A (j + 1) c) (padH j) ∧ Frm NoB w wr
def P2Rel (w : World) (n : Nat) (x3 x18 : Value) (wr : World) : Prop := ∃ i : Nat, i ≤ 8 ∧ x18 = .int .i64 i ∧ Ob wr w.heap.size x3 (padH (padZ n) ++ padT n i) ∧ Frm NoB w wr
def PadPost (w : World) (n : Nat) (e : Ending) (w' : World) : Prop := ∃ v', e = .returned v' ∧ Ob w' w.heap.size v' (padL n) ∧ Frm NoB w w'
theorem ob_lit (w : World) (ys : List Int) (u : U8 ys) (cs : Array Value) (hcs : cs = (ints .u8 ys).toArray) (n : Nat) (hn : ys.length = n) (hm : n ≤ maxLen) : Ob (w.alloc (.cells cs 5)) w.heap.size (.slice (some ⟨w.heap.size, 0, none⟩) n n) ys := by
  subst hcs hn
  have h : Blk (w.alloc (.cells (ints .u8 ys).toArray 5)) w.heap.size 5 (ints .u8 ys).toArray := Blk.new _ _ _
  exact ⟨⟨by rw [ints_length, Nat.mul_one], .inr ⟨_, _, _, rfl, Nat.le_refl _, h, Nat.le_refl _, hm, by rw [List.size_toArray, ints_length]; omega, List.take_of_length_le (by simp [ints_length])⟩⟩, u⟩
theorem grew_new {w w1 w2 : World} {sv v' : Value} {xs ys : List Int} (hO : Ob w1 w.heap.size sv xs) (hF : Frm NoB w w1) (hG : Grew w1 w.heap.size sv v' ys w2) : Frm NoB w w2 :=
  hF.then_ hG.f (fun i hi e => by
    rcases hO.form with h | ⟨g, n, c, h, -⟩
    · rw [h] at e; cases e
    · have := (hO.1.lt g (by rw [h]; rfl)).1
      rw [h] at e
      have e : some g = some i := e
      injection e with e
      omega)
set_option maxRecDepth 100000 in
set_option maxHeartbeats 1000000 in
theorem pad_is (n : Nat) (hn : n ≤ 72057594037927936) (w : World) : Calls Try.prog 65 #[.int .i64 n] w (PadPost w n) := by
  have d0 : decide ((n : Int) < 0) = false := decide_eq_false (by omega)
  have d1 : Int.tmod (n : Int) 64 = ((n % 64 : Nat) : Int) := by rw [Int.tmod_eq_emod_of_nonneg (by omega)]; omega
  have hO0 : Ob (w.alloc (.cells #[.int .u8 128] 5)) w.heap.size (.slice (some ⟨w.heap.size, 0, none⟩) 1 1) (padH 0) := ob_lit w (padH 0) (U8.cons (by omega) U8.nil) _ rfl 1 rfl (by decide)
  have HO0 := hide hO0
  clear hO0
  go_enter Try.func65, Try.ntmps65
  go_wp2_with fail
  go_loopw [3] (fun x3 wr => P1Rel w n x3 wr) (fun x3 _ => 70 - (match x3 with | .slice _ n _ => n | _ => 0))
  case atStart => exact ⟨0, _, _, by omega, rfl, HO0.out, (Frm.refl NoB w).alloc _⟩
  case round =>
    clear HO0
    obtain ⟨j, A, c, hj, rfl, hO, hF⟩ := hrel
    have HO := hide hO
    have HF := hide hF
    clear hO hF
    have hz : padZ n < 64 := by unfold padZ; omega
    have d2 : Int.tmod (((n % 64 : Nat) : Int) + ((j + 1 : Nat) : Int)) 64 = (((n % 64 + (j + 1)) % 64 : Nat) : Int) := by rw [Int.tmod_eq_emod_of_nonneg (by omega)]; omega
    by_cases hlt : j < padZ n
    · have d3 : decide ((((n % 64 + (j + 1)) % 64 : Nat) : Int) = 56) = false := decide_eq_false (by unfold padZ at hlt hz; omega)
      have d4 : ((((n % 64 + (j + 1)) % 64 : Nat) : Int) != 56) = true := by simp; unfold padZ at hlt hz; omega
      obtain ⟨J, hJ⟩ : ∃ J, j + 1 = J := ⟨_, rfl⟩
      rw [hJ] at HO d2 d3 d4 ⊢
      go_wp2_with (at_builtin; refine append_bytes rfl (.tmp 15) (.tmp 16) rfl w.heap.size _ _ (padH j) [0] rfl rfl (HO.out.frm0 ((Frm.refl NoB wr).alloc _)) (by_lit wr [0] (U8.cons (by omega) U8.nil) (by simp) _ rfl 1 rfl) (by rw [padH_length]; simp only [List.length_singleton]; omega) (by have := HF.out.size; simp; omega) ?_; intro v' w2 hg)
      have hg' : Grew (wr.alloc (.cells #[.int .u8 0] 5)) w.heap.size (.slice A J c) v' (padH (j + 1)) w2 := by rw [← padH_succ]; exact hg
      obtain ⟨A', c', he, -⟩ := hg'.o.by_
      rw [padH_length] at he
      subst he
      refine ⟨⟨j + 1, A', c', by omega, rfl, hg'.o, grew_new (HO.out.frm0 ((Frm.refl NoB wr).alloc _)) (HF.out.alloc _) hg'⟩, ?_⟩
      simp; omega
    · have hjz : j = padZ n := by omega
      have d5 : (((n : Int) + ((j + 1 : Nat) : Int)) % 64 != 56) = false := by simp; unfold padZ at hjz; omega
      have d6 : ((((n % 64 + (j + 1)) % 64 : Nat) : Int) != 56) = false := by simp; unfold padZ at hjz; omega
      have HO1 : Hid (Ob wr w.heap.size (.slice A (j + 1) c) (padH (padZ n) ++ padT n 0)) := by show Ob _ _ _ _; rw [← hjz, padT, List.append_nil]; exact HO.out
      obtain ⟨J, hJ⟩ : ∃ J, j + 1 = J := ⟨_, rfl⟩
      rw [hJ] at HO1 d2 d5 d6 ⊢
      clear HO hlt
      have hq : ((n : Int) % 64 + (J : Int)) % 64 = ((n : Int) + (J : Int)) % 64 := by omega
      go_wp2_with fail
      rw [hq]
      go_loopw [3, 18] (fun x3 x18 wr => P2Rel w n x3 x18 wr) (fun _ i _ => 8 - (intOf i).toNat)
      case atStart => exact ⟨0, by omega, rfl, HO1.out, HF.out⟩
      case round =>
        clear HO1 HF
        obtain ⟨i, hi, rfl, hO, hF⟩ := hrel
        have HO := hide hO
        have HF := hide hF
        obtain ⟨A5, c5, he, -⟩ := id hO.by_
        subst he
        obtain ⟨n5, hn5⟩ : ∃ n5, (padH (padZ n) ++ padT n i).length = n5 := ⟨_, rfl⟩
        have hl5 : n5 ≤ 100 := by rw [← hn5, List.length_append, padH_length, padT_length]; omega
        rw [hn5] at HO ⊢
        have HN5 := hide hn5
        clear hO hF hn5
        by_cases hi8 : i < 8
        · have i0 : (0 : Int) ≤ (i : Int) := by omega
          have i1 : (i : Int) < 8 := by omega
          have w1 : IntKind.u64.wrap (n : Int) = (n : Int) := IntWalk.u64_in _ (by omega)
          have w2 : IntKind.u64.wrap ((n : Int) * 8) = (n : Int) * 8 := IntWalk.u64_in _ (by omega)
          have w3 : IntKind.i64.wrap (8 * (i : Int)) = 8 * (i : Int) := IntWalk.i64_in _ (by omega)
          have w4 : IntKind.i64.wrap (56 - 8 * (i : Int)) = ((56 - 8 * i : Nat) : Int) := by rw [IntWalk.i64_in _ (by omega)]; omega
          have w5 : (0 : Int) ≤ 56 - 8 * (i : Int) := by omega
          have HU := hide (padB_u n i)
          have hp : (n : Int) * 8 / 2 ^ (56 - 8 * i) % 256 = padB n i := rfl
          have hT : Hid (padH (padZ n) ++ padT n (i + 1) = padH (padZ n) ++ padT n i ++ [padB n i]) := by show _ = _; rw [padT, List.append_assoc]
          generalize padB n i = y at *
          go_wp2_with (at_builtin; rw [hp]; refine append_bytes rfl (.tmp 21) (.tmp 30) rfl w.heap.size _ _ (padH (padZ n) ++ padT n i) [y] rfl rfl (HO.out.frm0 ((Frm.refl NoB wr).alloc _)) (by_lit wr [y] (U8.cons HU.out U8.nil) (by simp) _ rfl 1 rfl) (by rw [HN5.out]; simp only [List.length_singleton]; omega) (by have := HF.out.size; simp; omega) ?_; intro v' w2 hg)
          have hg' : Grew (wr.alloc (.cells #[.int .u8 y] 5)) w.heap.size (.slice A5 n5 c5) v' (padH (padZ n) ++ padT n (i + 1)) w2 := by rw [hT.out]; exact hg
          have HG := hide hg'
          clear hg hg'
          go_roundw
          case rel => exact ⟨i + 1, by omega, by go_num, HG.out.o, grew_new (HO.out.frm0 ((Frm.refl NoB wr).alloc _)) (HF.out.alloc _) HG.out⟩
          case measure => simp [intOf]; omega
        · obtain rfl : i = 8 := by omega
          go_wp2
          go_ret
          exact ⟨_, rfl, HO.out, HF.out⟩
end Go.Proofs.Ytmahaihcmmmhbaa
