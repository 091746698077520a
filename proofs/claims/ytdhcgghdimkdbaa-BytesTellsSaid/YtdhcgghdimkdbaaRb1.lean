/-
  The document's bytes: value, begins, Varint.
-/
import Derived.Test.YtdhcgghdimkdbaaByt7
import Derived.Test.YtdhcgghdimkdbaaBytL
namespace Go.Proofs.Ytdhcgghdimkdbaa
open Go.RowKit
theorem vl_snoc (a : List Int) (x : Int) : vl (a ++ [x]) = vl a + 128 ^ a.length * (x % 128) := by
  induction a with
  | nil => simp [vl]
  | cons c r ih => simp only [List.cons_append, vl, List.length_cons]; rw [ih, Int.pow_succ, Int.mul_add, Int.mul_comm ((128 : Int) ^ r.length) 128, Int.mul_assoc]; omega
theorem mod_acc (M a u c : Int) : (a % M + u % M * c % M) % M = (a + u * c) % M := by
  rw [Int.add_emod a (u * c) M, Int.mul_emod (u % M) c M, Int.emod_emod, ← Int.mul_emod]
theorem mod_mul (M u c : Int) : (u % M * c) % M = (u * c) % M := by
  rw [Int.mul_emod (u % M) c M, Int.emod_emod, ← Int.mul_emod]
theorem u64mod (a : Int) : IntKind.u64.wrap a = a % 18446744073709551616 := by simp [IntKind.wrap, IntKind.bits, IntKind.signed]
section
variable {w : World} {v : Value} {l : List Int}
def VlRel (w : World) (l : List Int) (a u i : Value) (wr : World) : Prop := ∃ j : Nat, j ≤ l.length ∧ i = .int .i64 j ∧ a = .int .u64 (vl (l.take j) % 18446744073709551616) ∧ u = .int .u64 (128 ^ j % 18446744073709551616) ∧ wr = w
theorem value_is (hv : By w v l) (hl : l.length ≤ 16777216) : Calls Try.prog 41 #[v] w fun e w' => e = .returned (.int .u64 (vl l % 18446744073709551616)) ∧ w = w' := by
  obtain ⟨A, c, rfl, hr, hz, hlc, hc, hu⟩ := hv
  have HR := hide hr
  have HU := hide hu
  clear hr hz hu
  go_enter Try.func41, Try.ntmps41
  go_wp2
  go_loopw [3, 4, 5] (fun a u i wr => VlRel w l a u i wr) (fun _ _ i _ => l.length - (intOf i).toNat)
  case atStart => exact ⟨0, by omega, rfl, rfl, rfl, rfl⟩
  case round =>
    obtain ⟨j, hj, rfl, rfl, rfl, rfl⟩ := hrel
    by_cases hlt : j < l.length
    · obtain ⟨b, o, rfl, hcl⟩ := HR.out (ints_ne (by intro e; subst e; simp at hlt))
      have c1 := hcl j _ (ints_get hlt)
      have hx := HU.out.get j
      have i0 : (0 : Int) ≤ (j : Int) := by omega
      have i1 : (j : Int) < (l.length : Int) := by omega
      have q : Int.tmod (l.getD j 0) 128 = l.getD j 0 % 128 := Int.tmod_eq_emod_of_nonneg hx.1
      have E1 : Hid ((vl (l.take j) % 18446744073709551616 + 128 ^ j % 18446744073709551616 * (l.getD j 0 % 128) % 18446744073709551616) % 18446744073709551616 = vl (l.take (j + 1)) % 18446744073709551616) := by
        show _ = _
        rw [← take_next hlt, vl_snoc, List.length_take, Nat.min_eq_left (Nat.le_of_lt hlt), mod_acc]
      have E2 : Hid ((128 ^ j % 18446744073709551616 * 128) % 18446744073709551616 = (128 : Int) ^ (j + 1) % 18446744073709551616) := by
        show _ = _
        rw [Int.pow_succ, mod_mul]
      have a0 : 0 ≤ vl (l.take j) % 18446744073709551616 ∧ vl (l.take j) % 18446744073709551616 < 18446744073709551616 := by omega
      have u0 : 0 ≤ (128 : Int) ^ j % 18446744073709551616 ∧ (128 : Int) ^ j % 18446744073709551616 < 18446744073709551616 := by omega
      generalize vl (l.take j) % 18446744073709551616 = ac at *
      generalize (128 : Int) ^ j % 18446744073709551616 = un at *
      generalize l.getD j 0 = x at *
      clear hcl
      go_wp2
      go_roundw
      case rel => exact ⟨j + 1, by omega, by go_num, by rw [← E1.out, u64mod, u64mod], by rw [← E2.out, u64mod], rfl⟩
      case measure => simp [intOf]; omega
    · obtain rfl : j = l.length := by omega
      rw [List.take_length]
      go_wp2
      go_ret
      exact ⟨rfl, rfl⟩
def BgRel (w : World) (l : List Int) (i : Value) (wr : World) : Prop := ∃ j : Nat, j ≤ fi l ∧ i = .int .i64 j ∧ wr = w
theorem begins_is (hv : By w v l) (hl : l.length ≤ 16777216) : Calls Try.prog 43 #[v] w fun e w' => e = .returned (.bool (decide (fi l = l.length) && decide (l.length < 10))) ∧ w = w' := by
  obtain ⟨A, c, rfl, hr, hz, hlc, hc, hu⟩ := hv
  have HR := hide hr
  have hfl := fi_le l
  clear hr hz hu
  go_enter Try.func43, Try.ntmps43
  go_wp2
  go_loopw [3] (fun i wr => BgRel w l i wr) (fun i _ => l.length - (intOf i).toNat)
  case atStart => exact ⟨0, by omega, rfl, rfl⟩
  case round =>
    obtain ⟨j, hj, rfl, rfl⟩ := hrel
    by_cases hlt : j < l.length
    · obtain ⟨b, o, rfl, hcl⟩ := HR.out (ints_ne (by intro e; subst e; simp at hlt))
      have c1 := hcl j _ (ints_get hlt)
      have i0 : (0 : Int) ≤ (j : Int) := by omega
      have i1 : (j : Int) < (l.length : Int) := by omega
      have K1 : Hid (l.getD j 0 < 128 → fi l = j) := fun h => by
        rcases Nat.lt_or_ge j (fi l) with h2 | h2
        · have := fi_more l j h2; omega
        · omega
      have K2 : Hid (¬ l.getD j 0 < 128 → j + 1 ≤ fi l) := fun h => by
        rcases Nat.lt_or_ge j (fi l) with h2 | h2
        · omega
        · have h3 : fi l = j := by omega
          have := fi_less l (by omega)
          rw [h3] at this; omega
      clear hcl
      generalize l.getD j 0 = x at *
      by_cases he : x < 128
      · have hb : decide (x < 128) = true := decide_eq_true he
        have HE := hide he
        clear he
        go_wp2
        go_ret
        refine ⟨ret_bool ?_, rfl⟩
        rw [K1.out HE.out, decide_eq_false (by omega)]; rfl
      · have hb : decide (x < 128) = false := decide_eq_false he
        have HE := hide he
        clear he
        go_wp2
        go_roundw
        case rel => exact ⟨j + 1, K2.out HE.out, by go_num, rfl⟩
        case measure => simp [intOf]; omega
    · obtain rfl : j = l.length := by omega
      have E : Hid (decide (fi l = l.length) = true) := decide_eq_true (by omega)
      go_wp2
      go_ret
      refine ⟨ret_bool ?_, rfl⟩
      rw [E.out, Bool.true_and, decide_eq_decide]; omega
/-- a row of one's own, just laid -/
theorem ob_lit (w : World) (B : Nat) (hB : B ≤ w.heap.size) (ys : List Int) (u : U8 ys) (cs : Array Value) (hcs : cs = (ints .u8 ys).toArray) (n : Nat) (hn : ys.length = n) (hl : n ≤ 16777216) : Grew w B (.slice none 0 0) (.slice (some ⟨w.heap.size, 0, none⟩) n n) ys (w.alloc (.cells cs 5)) := by
  subst hcs hn
  refine ⟨⟨⟨by rw [ints_length, Nat.mul_one], .inr ⟨w.heap.size, ys.length, _, rfl, hB, Blk.new w 5 (ints .u8 ys).toArray, Nat.le_refl _, by simp only [maxLen]; omega, by simp [ints], ?_⟩⟩, u⟩, (Frm.refl _ w).alloc _, fun k hk => ?_, fun g n c e => by cases e⟩
  · rw [Nat.mul_one, List.take_of_length_le (by simp [ints])]
  · right
    have hk2 : some w.heap.size = some k := hk
    injection hk2 with hk2
    omega
def VaRel (w : World) (n : Nat) (m o : Value) (wr : World) : Prop := ∃ (j M : Nat) (acc : List Int), m = .int .u64 M ∧ uv n = acc ++ uvF j M ∧ M < 128 ^ (j + 1) ∧ M < 18446744073709551616 ∧ acc.length + j ≤ 9 ∧ 1 ≤ acc.length ∧ Grew w w.heap.size (.slice none 0 0) o acc wr
theorem varint_is (n : Nat) (hn : n < 18446744073709551616) : Calls Try.prog 42 #[.int .u64 n] w (GrewPost w w.heap.size (.slice none 0 0) (uv n)) := by
  have HU := hide (uv_u8 hn)
  by_cases h : n < 128
  · have e : uv n = [(n : Int)] := by unfold uv uvF; rw [if_pos h]
    have E := hide e
    have hi : (n : Int) < 128 := by omega
    clear e hn h
    go_enter Try.func42, Try.ntmps42
    go_wp2
    go_ret
    refine ⟨_, rfl, ?_⟩
    rw [E.out]
    exact ob_lit w _ (Nat.le_refl _) [(n : Int)] (U8.cons (by omega) U8.nil) _ rfl 1 rfl (by omega)
  · have hp := u64_lt hn
    have e : uv n = ((n % 128 + 128 : Nat) : Int) :: uvF 8 (n / 128) := by
      conv => lhs; unfold uv uvF
      rw [if_neg h]
    have E := hide e
    have h1 : 128 ≤ (n : Int) := by omega
    have h2 : (n : Int) ≤ 18446744073709551615 := by omega
    have HP : Hid (∀ _ : Unit, n / 128 < 128 ^ 9) := fun _ => by rw [Nat.pow_succ] at hp; omega
    have hb : decide ((n : Int) < 128) = false := decide_eq_false (by omega)
    have q : (n : Int) % 18446744073709551616 = n := by omega
    have HN := hide h1
    have HN2 := hide h2
    clear e hp h hn h1 h2
    go_enter Try.func42, Try.ntmps42
    go_wp2
    go_loopw [0, 3] (fun m o wr => VaRel w n m o wr) (fun m _ _ => (intOf m).toNat)
    case atStart =>
      refine ⟨8, n / 128, [((n % 128 + 128 : Nat) : Int)], ?_, E.out, ?_, by omega, by simp, by simp, ?_⟩
      · first | rfl | (congr 1; omega)
      · exact HP.out ()
      · refine ob_lit w _ (Nat.le_refl _) [((n % 128 + 128 : Nat) : Int)] (U8.cons (by omega) U8.nil) _ ?_ 1 rfl (by omega)
        simp [ints]
        try omega
    case round =>
      obtain ⟨j, M, acc, rfl, hE, hM, hM2, hj, hacc, hG⟩ := hrel
      have HG := hide hG
      have hsz := hG.f.size
      clear hG
      by_cases h : M < 128
      · have e : uvF j M = [(M : Int)] := by
          cases j with
          | zero => rfl
          | succ j => unfold uvF; rw [if_pos h]
        have HE := hide (hE.trans (by rw [e]))
        have hb : decide (128 ≤ (M : Int)) = false := decide_eq_false (by omega)
        have q : (M : Int) % 256 = M := by omega
        have xb : 0 ≤ (M : Int) ∧ (M : Int) < 256 := by omega
        have XB := hide xb
        clear hE e h hM hM2 xb
        go_wp2_with (at_builtin; refine append_bytes rfl (.tmp 27) (.tmp 30) rfl w.heap.size _ _ acc [(M : Int)] rfl rfl (HG.out.o.frm0 ((Frm.refl NoB wr).alloc _)) (by_lit wr [(M : Int)] (U8.cons XB.out U8.nil) (by simp) _ rfl 1 rfl) (by simp only [List.length_singleton]; omega) (by simp; omega) ?_; intro v' w1 hg)
        have HG1 := hide ((HG.out.frm ((Frm.refl NoB wr).alloc (.cells #[.int .u8 M] 5))).trans hg)
        clear hg
        go_ret
        refine ⟨v', rfl, ?_⟩
        rw [HE.out]; exact HG1.out
      · obtain ⟨j, rfl⟩ : ∃ i, j = i + 1 := by
          cases j with
          | zero => simp at hM; omega
          | succ j => exact ⟨j, rfl⟩
        have e : uvF (j + 1) M = ((M % 128 + 128 : Nat) : Int) :: uvF j (M / 128) := by
          conv => lhs; unfold uvF
          rw [if_neg h]
        have HE : Hid (uv n = (acc ++ [((M % 128 + 128 : Nat) : Int)]) ++ uvF j (M / 128)) := by show _ = _; rw [hE, e, List.append_assoc]; rfl
        have hM' : M / 128 < 128 ^ (j + 1) := by rw [Nat.pow_succ] at hM; omega
        have HM := hide hM'
        have m1 : 128 ≤ M := by omega
        obtain ⟨y, hy⟩ : ∃ y, ((M % 128 + 128 : Nat) : Int) = y := ⟨_, rfl⟩
        have y0 : 128 + (M : Int) % 128 = y := by omega
        have yb : 0 ≤ y ∧ y < 256 := by omega
        rw [hy] at HE
        have hb : decide (128 ≤ (M : Int)) = true := decide_eq_true (by omega)
        have y1 : y % 256 = y := by omega
        have HM2 := hide hM2
        have HM1 := hide m1
        clear hE e hM hM' h hy hM2 m1
        go_wp2_with (at_builtin; refine append_bytes rfl (.tmp 20) (.tmp 25) rfl w.heap.size _ _ acc [y] rfl rfl (HG.out.o.frm0 ((Frm.refl NoB wr).alloc _)) (by_lit wr [y] (U8.cons yb U8.nil) (by simp) _ rfl 1 rfl) (by simp only [List.length_singleton]; omega) (by simp; omega) ?_; intro v' w1 hg)
        have HG1 := hide ((HG.out.frm ((Frm.refl NoB wr).alloc (.cells #[.int .u8 y] 5))).trans hg)
        clear hg
        go_wp2
        go_roundw
        case rel =>
          refine ⟨j, M / 128, acc ++ [y], ?_, HE.out, HM.out, by have := HM2.out; omega, by simp; omega, by simp, HG1.out⟩
          have := HM2.out
          exact congrArg (Value.int .u64) ((u64mod _).trans (by omega))
        case measure =>
          have := HM2.out
          have := HM1.out
          simp only [intOf, u64mod]; omega
end
end Go.Proofs.Ytdhcgghdimkdbaa
