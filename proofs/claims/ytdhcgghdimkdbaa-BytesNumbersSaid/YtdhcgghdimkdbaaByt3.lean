/-
  bytes: IndexFunc, GetUint.
-/
import Derived.Test.YtdhcgghdimkdbaaByt2
import Derived.Laws.BitsLemmas
namespace Go.Proofs.Ytdhcgghdimkdbaa
open Go.RowKit
section
variable {w : World} {v : Value} {xs : List Int}
theorem less_is (x : Int) (w : World) : Calls Try.prog 40 #[.int .u8 x] w fun e w' => e = .returned (.bool (decide (x < 128))) ∧ w = w' := by
  go_enter Try.func40, Try.ntmps40
  go_wp2
  go_ret
  exact ⟨rfl, rfl⟩
/-- the first digit that is the last, or -1 -/
def fiV (l : List Int) : Int := if fi l = l.length then -1 else fi l
def FiRel (l : List Int) (w : World) (v : Value) (wr : World) : Prop := ∃ j : Nat, j ≤ fi l ∧ v = .int .i64 j ∧ wr = w
theorem index8_is (l : List Int) (A : Option Addr) (cp n : Nat) (w : World) (hr : Rd w A (ints .u8 l)) (hl : (l.length : Int) ≤ 9223372036854775807) (hn : l.length = n) :
    Calls Try.prog 39 #[.slice A n cp, .func (.func 40) #[] #[]] w fun e w' => e = .returned (.int .i64 (fiV l)) ∧ w = w' := by
  subst hn
  have HR := hide hr
  have HF := hide (fi_le l)
  have hfl := fi_le l
  clear hr
  go_enter Try.func39, Try.ntmps39
  go_wp2
  go_loopw [8] (fun v wr => FiRel l w v wr) (fun v _ => l.length - (intOf v).toNat)
  case atStart => exact ⟨0, by omega, rfl, rfl⟩
  case round =>
    obtain ⟨j, hj, rfl, rfl⟩ := hrel
    by_cases hlt : j < l.length
    · obtain ⟨b, o, rfl, hc⟩ := HR.out (ints_ne (by intro e; subst e; simp at hlt))
      have h1 := hc j _ (ints_get hlt)
      have i0 : (0 : Int) ≤ (j : Int) := by omega
      have i1 : (j : Int) < (l.length : Int) := by omega
      have K1 : Hid (l.getD j 0 < 128 → fiV l = j) := fun h => by
        have : fi l = j := by
          rcases Nat.lt_or_ge j (fi l) with h2 | h2
          · have := fi_more l j h2; omega
          · omega
        unfold fiV
        rw [this, if_neg (by omega)]
      have K2 : Hid (¬ l.getD j 0 < 128 → j + 1 ≤ fi l) := fun h => by
        rcases Nat.lt_or_ge j (fi l) with h2 | h2
        · omega
        · have h3 : fi l = j := by omega
          have := fi_less l (by omega)
          rw [h3] at this; omega
      clear hc
      generalize l.getD j 0 = x at *
      by_cases he : x < 128
      · have hb : decide (x < 128) = true := decide_eq_true he
        have HE := hide he
        clear he
        go_wp2_with fail
        refine (less_is _ _).mono ?_
        rw [hb]
        rintro e w' ⟨rfl, rfl⟩
        go_wp2
        go_ret
        exact ⟨ret_int (K1.out HE.out).symm, rfl⟩
      · have hb : decide (x < 128) = false := decide_eq_false he
        have HE := hide he
        clear he
        go_wp2_with fail
        refine (less_is _ _).mono ?_
        rw [hb]
        rintro e w' ⟨rfl, rfl⟩
        go_wp2
        go_roundw
        case rel => exact ⟨j + 1, K2.out HE.out, by go_num, rfl⟩
        case measure => simp [intOf]; omega
    · obtain rfl : j = l.length := by omega
      have E : Hid (fiV l = -1) := by show _ = _; unfold fiV; rw [if_pos (by omega)]
      go_wp2
      go_ret
      exact ⟨ret_int E.out.symm, rfl⟩
/-- what GetUint tells at a place -/
def gE (xs : List Int) (a : Int) : Int := if 0 ≤ a ∧ a ≤ xs.length then guE (xs.drop a.toNat) else 2
def gN (xs : List Int) (a : Int) : Int := if gE xs a = 0 then guN (xs.drop a.toNat) else 0
def gX (xs : List Int) (a : Int) : Int := if gE xs a = 0 then a + fi (xs.drop a.toNat) + 1 else 0
def GuPost (xs : List Int) (a : Int) (w : World) (e : Ending) (w' : World) : Prop := e = .returned (.tuple #[.int .u64 (gN xs a), .int .i64 (gX xs a), .int .i64 (gE xs a)]) ∧ w = w'
theorem vl_drop {t : List Int} {k : Nat} (h : k < t.length) : vl (t.drop k) = t.getD k 0 % 128 + 128 * vl (t.drop (k + 1)) := by
  rw [List.drop_eq_getElem_cons h, List.getD_eq_getElem?_getD, List.getElem?_eq_getElem h]; rfl
theorem vl_drop_le : ∀ (t : List Int) (k : Nat), vl (t.drop k) ≤ vl t
  | [], k => by simp [vl]
  | c :: r, 0 => Int.le_refl _
  | c :: r, k + 1 => by
    have := vl_drop_le r k
    have := vl_lo r
    rw [List.drop_succ_cons]
    simp only [vl]; omega
theorem u8_and127 {x : Int} (h₀ : 0 ≤ x) (h₁ : x < 256) : bits .and .u8 x 127 = x % 128 := bits_mask .u8 8 (by decide) wraps_u8 7 (by decide) x h₀ h₁
def GuRel (w : World) (t : List Int) (i n : Value) (wr : World) : Prop := ∃ j : Nat, j ≤ t.length ∧ i = .int .i64 j ∧ n = .int .u64 (vl (t.drop (t.length - j))) ∧ wr = w
theorem ret3 {k1 k2 k3 : IntKind} {a b c a' b' c' : Int} (h1 : a = a') (h2 : b = b') (h3 : c = c') : Ending.returned (.tuple #[.int k1 a, .int k2 b, .int k3 c]) = .returned (.tuple #[.int k1 a', .int k2 b', .int k3 c']) := by rw [h1, h2, h3]
set_option maxHeartbeats 1000000 in
theorem getUint_no (hv : By w v xs) (a : Int) (ha : ¬ (0 ≤ a ∧ a ≤ xs.length)) : Calls Try.prog 22 #[v, .int .i64 a] w (GuPost xs a w) := by
  obtain ⟨A, c, rfl, -⟩ := hv
  have E : Hid (gE xs a = 2) := by show _ = _; unfold gE; rw [if_neg ha]
  have HA := hide ha
  clear ha
  go_enter Try.func22, Try.ntmps22
  go_wp2_with fail
  refine (rest_no a HA.out).mono ?_
  rintro e w' ⟨rfl, rfl⟩
  go_wp2_with fail
  refine bodyPost_ret (results_tmp3 rfl _ _ _) rfl ?_
  refine ⟨ret3 ?_ ?_ E.out.symm, rfl⟩
  · unfold gN; rw [E.out]; rfl
  · unfold gX; rw [E.out]; rfl
end
end Go.Proofs.Ytdhcgghdimkdbaa
