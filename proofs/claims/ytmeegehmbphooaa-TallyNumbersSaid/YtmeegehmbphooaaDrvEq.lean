/-
  slices.Equal, slices.ContainsFunc at words.
-/
import Derived.Test.YtmeegehmbphooaaNorGen
import Derived.Test.YtmeegehmbphooaaLowS
namespace Go.Proofs.Ytmeegehmbphooaa
open Go.RowKit
set_option maxHeartbeats 400000 in
theorem equal_is (a b : List Int) (A B : Option Addr) (ca cb : Nat) (w : World) (ha : Rd w A (ints .u32 a)) (hb : Rd w B (ints .u32 b)) (hla : (a.length : Int) ≤ 9223372036854775807) :
    Calls Try.prog 50 #[.slice A a.length ca, .slice B b.length cb] w (SamePost a b w) := by
  by_cases hl : a.length = b.length
  · have h1 : ((a.length : Int) != (b.length : Int)) = false := by rw [hl]; simp
    have h1' : (a.length != b.length) = false := by rw [hl]; simp
    have HL : Hid (a.length = b.length) := hl
    have hl1 : a.length ≤ b.length := by omega
    clear hl
    go_enter Try.func50, Try.ntmps50
    go_wp2
    go_loopw [13] (fun v wr => SameRel a b w v wr) (fun v _ => a.length - (intOf v).toNat)
    case atStart => exact ⟨0, 0, by omega, rfl, rfl, rfl⟩
    case round =>
      obtain ⟨j, m, hj, rfl, rfl, ht⟩ := hrel
      have HT := hide ht
      clear ht
      by_cases hlt : j < a.length
      · have hltb : j < b.length := by omega
        obtain ⟨ba, oa, rfl, hca⟩ := ha (ints_ne (by intro e; subst e; simp at hlt))
        obtain ⟨bb, ob, rfl, hcb⟩ := hb (ints_ne (by intro e; subst e; simp at hltb))
        have h1 := hca j _ (ints_get hlt)
        have h2 := hcb j _ (ints_get hltb)
        have i0 : (0 : Int) ≤ (j : Int) := by omega
        have i1 : (j : Int) < (a.length : Int) := by omega
        have i2 : (j : Int) < (b.length : Int) := by omega
        clear ha hb hca hcb
        have hxy : Hid (∀ x y, a.getD j 0 = x → b.getD j 0 = y → x = y → a.take (j + 1) = b.take (j + 1)) := fun x y hx hy he => take_same HT.out hlt hltb (by rw [hx, hy, he])
        have hxn : Hid (∀ x y, a.getD j 0 = x → b.getD j 0 = y → x ≠ y → same a b = false) := fun x y hx hy he => by
          rw [Bool.eq_false_iff]; intro e; rw [same_iff.1 e] at hx; exact he (hx.symm.trans hy)
        generalize hx : a.getD j 0 = x at h1
        generalize hy : b.getD j 0 = y at h2
        have HX := hide hx
        have HY := hide hy
        clear hx hy
        by_cases he : x = y
        · have hf : (x != y) = false := by simpa using he
          have HE := hide he
          clear he
          go_wp2
          go_quiet (fail)
          go_wp2
          go_roundw
          case rel => exact ⟨j + 1, _, by omega, by go_num, rfl, hxy.out _ _ HX.out HY.out HE.out⟩
          case measure => simp [intOf]; omega
        · have hf : (x != y) = true := by simpa using he
          have HE := hide he
          clear he
          go_wp2
          go_quiet (fail)
          go_wp2
          go_ret
          exact ⟨ret_bool (hxn.out _ _ HX.out HY.out HE.out).symm, _, World.drewN_drewN _ _ _⟩
      · obtain rfl : j = a.length := by omega
        have hs : same a b = true := by
          rw [same_iff]
          have := HT.out
          rw [List.take_length, List.take_of_length_le (Nat.le_of_eq HL.out.symm)] at this
          exact this
        have HS := hide hs
        clear hs ha hb
        go_wp2
        go_ret
        exact ⟨ret_bool HS.out.symm, _, rfl⟩
  · have hne : same a b = false := by
      rw [Bool.eq_false_iff]; intro e; exact hl (by rw [same_iff.1 e])
    have h1 : ((a.length : Int) != (b.length : Int)) = true := by simp; omega
    have h1' : (a.length != b.length) = true := by simpa using hl
    have H := hide hne
    clear ha hb hl hne
    go_enter Try.func50, Try.ntmps50
    go_wp2
    go_ret
    exact ⟨ret_bool H.out.symm, 0, rfl⟩
theorem odd_is (x : Int) (w : World) : Calls Try.prog 63 #[.int .u32 x] w fun e w' => e = .returned (.bool (x != 4294967295)) ∧ w = w' := by
  go_enter Try.func63, Try.ntmps63
  go_wp2
  go_ret
  exact ⟨rfl, rfl⟩
/-- the first odd one, or -1 -/
def IdxPost (a : List Int) (w : World) (e : Ending) (w' : World) : Prop := (∃ r : Int, e = .returned (.int .i64 r) ∧ decide (0 ≤ r) = a.any (fun x => x != 4294967295)) ∧ w = w'
def IdxRel (a : List Int) (w : World) (v : Value) (wr : World) : Prop := ∃ j : Nat, j ≤ a.length ∧ v = .int .i64 j ∧ wr = w ∧ (a.take j).any (fun x => x != 4294967295) = false
theorem index_is (a : List Int) (A : Option Addr) (ca : Nat) (w : World) (ha : Rd w A (ints .u32 a)) (hla : (a.length : Int) ≤ 9223372036854775807) :
    Calls Try.prog 74 #[.slice A a.length ca, .func (.func 63) #[] #[]] w (IdxPost a w) := by
  go_enter Try.func74, Try.ntmps74
  go_wp2
  go_loopw [8] (fun v wr => IdxRel a w v wr) (fun v _ => a.length - (intOf v).toNat)
  case atStart => exact ⟨0, by omega, rfl, rfl, rfl⟩
  case round =>
    obtain ⟨j, hj, rfl, rfl, ht⟩ := hrel
    have HT := hide ht
    clear ht
    by_cases hlt : j < a.length
    · obtain ⟨ba, oa, rfl, hca⟩ := ha (ints_ne (by intro e; subst e; simp at hlt))
      have h1 := hca j _ (ints_get hlt)
      have i0 : (0 : Int) ≤ (j : Int) := by omega
      have i1 : (j : Int) < (a.length : Int) := by omega
      have e : a.take (j + 1) = a.take j ++ [a.getD j 0] := by
        rw [List.take_succ_eq_append_getElem hlt, List.getD_eq_getElem?_getD, List.getElem?_eq_getElem hlt, Option.getD_some]
      have E := hide e
      clear ha hca e
      have HA : Hid ((a.take (j + 1)).any (fun x => x != 4294967295) = (a.getD j 0 != 4294967295)) := by
        show _ = _
        rw [E.out, List.any_append, HT.out]; simp
      have HB : Hid ((a.take (j + 1)).any (fun x => x != 4294967295) = true → a.any (fun x => x != 4294967295) = true) := fun h => by
        obtain ⟨x, hx, h2⟩ := List.any_eq_true.1 h
        exact List.any_eq_true.2 ⟨x, List.mem_of_mem_take hx, h2⟩
      generalize hx : a.getD j 0 = x at h1
      rw [hx] at HA
      have HX := hide hx
      clear hx
      by_cases he : (x != 4294967295) = true
      · rw [he] at HA
        go_wp2_with (go_at_call 63; refine (odd_is _ _).mono ?_; rw [he]; rintro e w' ⟨rfl, rfl⟩)
        go_ret
        exact ⟨⟨j, rfl, by rw [HB.out HA.out]; simp⟩, rfl⟩
      · have he : (x != 4294967295) = false := by simpa using he
        rw [he] at HA
        go_wp2_with (go_at_call 63; refine (odd_is _ _).mono ?_; rw [he]; rintro e w' ⟨rfl, rfl⟩)
        go_roundw
        case rel => exact ⟨j + 1, by omega, by go_num, rfl, HA.out⟩
        case measure => simp [intOf]; omega
    · obtain rfl : j = a.length := by omega
      have HT2 : Hid (a.any (fun x => x != 4294967295) = false) := by
        have := HT.out
        rwa [List.take_length] at this
      clear ha
      go_wp2
      go_ret
      exact ⟨⟨-1, rfl, by rw [HT2.out]; rfl⟩, rfl⟩
theorem contains_is (a : List Int) (A : Option Addr) (ca : Nat) (w : World) (ha : Rd w A (ints .u32 a)) (hla : (a.length : Int) ≤ 9223372036854775807) :
    Calls Try.prog 64 #[.slice A a.length ca, .func (.func 63) #[] #[]] w fun e w' => e = .returned (.bool (a.any (fun x => x != 4294967295))) ∧ w = w' := by
  have HA := hide (index_is a A ca w ha hla)
  clear ha
  go_enter Try.func64, Try.ntmps64
  go_wp2_with (go_at_call 74; refine HA.out.mono ?_; rintro e w' ⟨⟨r, rfl, hr⟩, rfl⟩; have HR := hide hr; clear hr)
  go_ret
  exact ⟨ret_bool HR.out, rfl⟩
end Go.Proofs.Ytmeegehmbphooaa
