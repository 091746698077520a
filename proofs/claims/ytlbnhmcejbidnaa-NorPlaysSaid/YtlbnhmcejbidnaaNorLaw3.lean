/-
  The helpers of the flash's statements: SameNors; an op, and what it does.
-/
import Derived.Test.YtlbnhmcejbidnaaNorLaw2
namespace Go.Proofs.Ytlbnhmcejbidnaa
open Go.RowKit

namespace NorS
/-- do they read the same? -/
def same (s t : NorS) : Bool := decide (s.n = t.n ∧ s.down = t.down ∧ ∀ i, i < s.n → s.sector i = t.sector i)
end NorS
section
variable {w : World} {p q c p' q' c' : Nat} {s t : NorS}
def NorsPost (w : World) (b : Bool) (e : Ending) (w' : World) : Prop := e = .returned (.bool b) ∧ Frm NoB w w'
def NorsRel (w : World) (s t : NorS) (i : Value) (wr : World) : Prop := ∃ j : Nat, j ≤ s.n ∧ i = .int .i64 j ∧ Frm NoB w wr ∧ ∀ k, k < j → s.sector k = t.sector k

set_option maxHeartbeats 400000 in
theorem sameNors_is (h : NorAt w p q c s) (h' : NorAt w p' q' c' t) :
    Calls Try.prog 23 #[.pointer (some ⟨p, 0, none⟩), .pointer (some ⟨p', 0, none⟩)] w (NorsPost w (s.same t)) := by
  have hn2 := h.ok.n2
  have H := hide h
  have H' := hide h'
  clear h h'
  by_cases hn : s.n = t.n
  · have e1 : ((s.n : Int) != (t.n : Int)) = false := by rw [hn]; simp
    have e1' : (s.n != t.n) = false := by rw [hn]; simp
    have HN := hide hn
    clear hn
    by_cases hd : s.down = t.down
    · have e2 : (s.down == t.down) = true := by rw [hd]; simp
      have HD := hide hd
      clear hd
      go_enter Try.func23, Try.ntmps23
      go_wp2_with fail
      refine (sectors_is H.out).mono ?_
      rintro e w' ⟨rfl, rfl⟩
      go_wp2_with fail
      refine (sectors_is H'.out).mono ?_
      rintro e w' ⟨rfl, rfl⟩
      go_wp2_with fail
      refine (down_is H.out).mono ?_
      rintro e w' ⟨rfl, rfl⟩
      go_wp2_with fail
      refine (down_is H'.out).mono ?_
      rintro e w' ⟨rfl, rfl⟩
      go_wp2_with fail
      go_loopw [5] (fun i wr => NorsRel w s t i wr) (fun i _ => s.n - (intOf i).toNat)
      case atStart => exact ⟨0, by omega, rfl, Frm.refl _ _, fun k hk => by omega⟩
      case round =>
        obtain ⟨j, hj, rfl, hF, hs⟩ := hrel
        have HS := hide hs
        have HA := hide ((Hid.out H).frm hF (fun e => e) (fun e => e))
        have HB := hide ((Hid.out H').frm hF (fun e => e) (fun e => e))
        clear hs
        by_cases hlt : j < s.n
        · by_cases he : s.sector j = t.sector j
          · have hsm : same (s.sector j) (t.sector j) = true := same_iff.2 he
            have HE := hide he
            have hll := hide (show ((s.sector j).length : Int) ≤ 9223372036854775807 by
              unfold NorS.sector; split
              · rw [List.length_take]; omega
              · simp)
            clear he
            go_wp2_with fail
            refine (sectors_is HA.out).mono ?_
            rintro e w' ⟨rfl, rfl⟩
            go_wp2_with fail
            refine (sector_is _ HA.out).mono ?_
            rintro e w1 ⟨A1, c1, rfl, h1, hA1, hF1⟩
            have HB1 := hide ((Hid.out HB).frm hF1 (fun e => e) (fun e => e))
            go_wp2_with fail
            refine (sector_is _ HB1.out).mono ?_
            rintro e w2 ⟨A2, c2, rfl, h2, hA2, hF2⟩
            have h1' := h1.frm hF2 (fun _ _ e => e)
            go_wp2_with fail
            refine (sameWords_is _ _ _ _ _ _ _ h1' h2 hll.out).mono ?_
            rintro e w3 ⟨rfl, m, rfl⟩
            have HFF := hide (((hF.trans hF1).trans hF2).drewN m)
            clear h1 h2 h1' hF1 hF2 hA1 hA2 hll
            go_wp2
            go_roundw
            case rel => exact ⟨j + 1, by omega, by go_num, HFF.out, fun k hk => by
              rcases Nat.lt_or_ge k j with h | h
              · exact HS.out k h
              · obtain rfl : k = j := by omega
                exact HE.out⟩
            case measure => simp [intOf]; omega
          · have hsm : same (s.sector j) (t.sector j) = false := by rw [Bool.eq_false_iff]; intro e; exact he (same_iff.1 e)
            have hres : s.same t = false := by
              rw [Bool.eq_false_iff]; intro e
              exact he ((of_decide_eq_true e).2.2 j hlt)
            have HR := hide hres
            have hll := hide (show ((s.sector j).length : Int) ≤ 9223372036854775807 by
              unfold NorS.sector; split
              · rw [List.length_take]; omega
              · simp)
            clear he hres
            go_wp2_with fail
            refine (sectors_is HA.out).mono ?_
            rintro e w' ⟨rfl, rfl⟩
            go_wp2_with fail
            refine (sector_is _ HA.out).mono ?_
            rintro e w1 ⟨A1, c1, rfl, h1, hA1, hF1⟩
            have HB1 := hide ((Hid.out HB).frm hF1 (fun e => e) (fun e => e))
            go_wp2_with fail
            refine (sector_is _ HB1.out).mono ?_
            rintro e w2 ⟨A2, c2, rfl, h2, hA2, hF2⟩
            have h1' := h1.frm hF2 (fun _ _ e => e)
            go_wp2_with fail
            refine (sameWords_is _ _ _ _ _ _ _ h1' h2 hll.out).mono ?_
            rintro e w3 ⟨rfl, m, rfl⟩
            have HFF := hide (((hF.trans hF1).trans hF2).drewN m)
            clear h1 h2 h1' hF1 hF2 hA1 hA2 hll
            go_wp2
            go_ret
            exact ⟨ret_bool HR.out.symm, HFF.out⟩
        · obtain rfl : j = s.n := by omega
          have hres : s.same t = true := by
            unfold NorS.same
            exact decide_eq_true ⟨HN.out, HD.out, HS.out⟩
          have HR := hide hres
          clear hres
          go_wp2_with fail
          refine (sectors_is HA.out).mono ?_
          rintro e w' ⟨rfl, rfl⟩
          go_wp2
          go_ret
          exact ⟨ret_bool HR.out.symm, hF⟩
    · have e2 : (s.down == t.down) = false := by simpa using hd
      have hres : s.same t = false := by rw [Bool.eq_false_iff]; intro e; exact hd (of_decide_eq_true e).2.1
      have HR := hide hres
      clear hd hres
      go_enter Try.func23, Try.ntmps23
      go_wp2_with fail
      refine (sectors_is H.out).mono ?_
      rintro e w' ⟨rfl, rfl⟩
      go_wp2_with fail
      refine (sectors_is H'.out).mono ?_
      rintro e w' ⟨rfl, rfl⟩
      go_wp2_with fail
      refine (down_is H.out).mono ?_
      rintro e w' ⟨rfl, rfl⟩
      go_wp2_with fail
      refine (down_is H'.out).mono ?_
      rintro e w' ⟨rfl, rfl⟩
      go_wp2
      go_ret
      exact ⟨ret_bool HR.out.symm, Frm.refl _ _⟩
  · have e1 : ((s.n : Int) != (t.n : Int)) = true := by simp; omega
    have e1' : (s.n != t.n) = true := by simpa using hn
    have hres : s.same t = false := by rw [Bool.eq_false_iff]; intro e; exact hn (of_decide_eq_true e).1
    have HR := hide hres
    clear hn hres
    go_enter Try.func23, Try.ntmps23
    go_wp2_with fail
    refine (sectors_is H.out).mono ?_
    rintro e w' ⟨rfl, rfl⟩
    go_wp2_with fail
    refine (sectors_is H'.out).mono ?_
    rintro e w' ⟨rfl, rfl⟩
    go_wp2
    go_ret
    exact ⟨ret_bool HR.out.symm, Frm.refl _ _⟩
end
end Go.Proofs.Ytlbnhmcejbidnaa
