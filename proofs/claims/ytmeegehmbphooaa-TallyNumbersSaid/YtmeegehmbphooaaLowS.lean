/-
  SameWords.
-/
import Derived.Test.YtmeegehmbphooaaGen
import Derived.RegionTactic
namespace Go.Proofs.Ytmeegehmbphooaa
open Go.RowKit

/-- are they the same? -/
def same (a b : List Int) : Bool := decide (a = b)
theorem same_iff {a b : List Int} : same a b = true ↔ a = b := by simp [same]
/-- up to i they are -/
def SameRel (a b : List Int) (w : World) (v : Value) (wr : World) : Prop := ∃ (j : Nat) (m : Nat), j ≤ a.length ∧ v = .int .i64 j ∧ wr = w.drewN m ∧ a.take j = b.take j
def SamePost (a b : List Int) (w : World) (e : Ending) (w' : World) : Prop := e = .returned (.bool (same a b)) ∧ ∃ m, w' = w.drewN m

theorem take_same {a b : List Int} {j : Nat} (h : a.take j = b.take j) (ha : j < a.length) (hb : j < b.length) (he : a.getD j 0 = b.getD j 0) : a.take (j + 1) = b.take (j + 1) := by
  rw [List.take_succ_eq_append_getElem ha, List.take_succ_eq_append_getElem hb, h]
  simp only [List.getD_eq_getElem?_getD, List.getElem?_eq_getElem ha, List.getElem?_eq_getElem hb, Option.getD_some] at he
  rw [he]
set_option maxHeartbeats 400000 in
theorem sameWords_is (a b : List Int) (A B : Option Addr) (ca cb : Nat) (w : World) (ha : Rd w A (ints .u32 a)) (hb : Rd w B (ints .u32 b)) (hla : (a.length : Int) ≤ 9223372036854775807) :
    Calls Try.prog 62 #[.slice A a.length ca, .slice B b.length cb] w (SamePost a b w) := by
  by_cases hl : a.length = b.length
  · have h1 : ((a.length : Int) != (b.length : Int)) = false := by rw [hl]; simp
    have h1' : (a.length != b.length) = false := by rw [hl]; simp
    have HL : Hid (a.length = b.length) := hl
    have hl1 : a.length ≤ b.length := by omega
    clear hl
    go_enter Try.func62, Try.ntmps62
    go_wp2
    go_loopw [5] (fun v wr => SameRel a b w v wr) (fun v _ => a.length - (intOf v).toNat)
    case atStart => exact ⟨0, 0, by omega, rfl, rfl, rfl⟩
    case round =>
      obtain ⟨j, m, hj, rfl, rfl, ht⟩ := hrel
      have HT := hide ht
      clear ht
      by_cases hlt : j < a.length
      · have hltb : j < b.length := by omega
        obtain ⟨ba, oa, rfl, hca⟩ := ha (ints_ne (by intro e; subst e; simp at hlt))
        obtain ⟨bb, ob, rfl, hcb⟩ := hb (ints_ne (by intro e; subst e; simp at hltb))
        have h1 := hca j _ (ints_get hlt)
        have h2 := hcb j _ (ints_get hltb)
        have i0 : (0 : Int) ≤ (j : Int) := by omega
        have i1 : (j : Int) < (a.length : Int) := by omega
        have i2 : (j : Int) < (b.length : Int) := by omega
        clear ha hb hca hcb
        have hxy : Hid (∀ x y, a.getD j 0 = x → b.getD j 0 = y → x = y → a.take (j + 1) = b.take (j + 1)) := fun x y hx hy he => take_same HT.out hlt hltb (by rw [hx, hy, he])
        have hxn : Hid (∀ x y, a.getD j 0 = x → b.getD j 0 = y → x ≠ y → same a b = false) := fun x y hx hy he => by
          rw [Bool.eq_false_iff]; intro e; rw [same_iff.1 e] at hx; exact he (hx.symm.trans hy)
        generalize hx : a.getD j 0 = x at h1
        generalize hy : b.getD j 0 = y at h2
        have HX := hide hx
        have HY := hide hy
        clear hx hy
        by_cases he : x = y
        · have hf : (x != y) = false := by simpa using he
          have HE := hide he
          clear he
          go_wp2
          go_quiet (fail)
          go_wp2
          go_roundw
          case rel => exact ⟨j + 1, _, by omega, by go_num, rfl, hxy.out _ _ HX.out HY.out HE.out⟩
          case measure => simp [intOf]; omega
        · have hf : (x != y) = true := by simpa using he
          have HE := hide he
          clear he
          go_wp2
          go_quiet (fail)
          go_wp2
          go_ret
          exact ⟨ret_bool (hxn.out _ _ HX.out HY.out HE.out).symm, _, World.drewN_drewN _ _ _⟩
      · obtain rfl : j = a.length := by omega
        have hs : same a b = true := by
          rw [same_iff]
          have := HT.out
          rw [List.take_length, List.take_of_length_le (Nat.le_of_eq HL.out.symm)] at this
          exact this
        have HS := hide hs
        clear hs ha hb
        go_wp2
        go_ret
        exact ⟨ret_bool HS.out.symm, _, rfl⟩
  · have hne : same a b = false := by
      rw [Bool.eq_false_iff]; intro e; exact hl (by rw [same_iff.1 e])
    have h1 : ((a.length : Int) != (b.length : Int)) = true := by simp; omega
    have h1' : (a.length != b.length) = true := by simpa using hl
    have H := hide hne
    clear ha hb hl hne
    go_enter Try.func62, Try.ntmps62
    go_wp2
    go_ret
    exact ⟨ret_bool H.out.symm, 0, rfl⟩
end Go.Proofs.Ytmeegehmbphooaa
