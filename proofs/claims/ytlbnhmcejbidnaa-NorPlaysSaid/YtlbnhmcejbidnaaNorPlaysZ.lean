/-
  Through any script every answer, and each word, is as the document defines: all cases.
-/
import Derived.Test.YtlbnhmcejbidnaaNorPlays
namespace Go.Proofs.Ytlbnhmcejbidnaa
open Go.RowKit Go.Proofs.YtlbnhmcejbidnaaW.PrintWords Go.Proofs.Ytlbnhmcejbidnaa.PNorPlays
set_option maxRecDepth 100000 in
set_option maxHeartbeats 2000000 in
theorem norPlays_bad (w : World) (n g : Int) (V : Value) (h6 : n ≤ 6) (h : n < 1 ∨ 1024 < n ∨ g < 0 ∨ n < g) :
    Calls Try.prog 8 #[.int .i64 n, .int .i64 g, V] w fun e w' => e = .returned (.bool true) ∧ Frm NoB w w' := by
  have b6 : decide (n > 6) = false := by simp; omega
  have H := hide h
  clear h
  go_enter Try.func8, Try.ntmps8
  go_wp2_with fail
  refine (new_bad n g w H.out).mono ?_
  rintro e w1 ⟨rfl, rfl⟩
  go_wp2_with fail
  refine (ref_new_bad n g H.out w).mono ?_
  rintro e w2 ⟨A0, c0, rfl, hb⟩
  have HF := hide (Frm.of_below hb NoB)
  clear hb
  go_wp2_with fail
  refine (awake_is _).mono ?_
  rintro e wz ⟨rfl, hz⟩
  go_wp2
  go_ret
  exact ⟨rfl, ((Hid.out HF).alloc _).trans hz⟩
set_option maxRecDepth 100000 in
theorem norPlays_is (w : World) (n g : Int) (A : Option Addr) (cp : Nat) (ops : List OpS) (h : OpsAt w w.heap.size A ops) (hm : (ops.length : Int) ≤ 9223372036854775807) :
    Calls Try.prog 8 #[.int .i64 n, .int .i64 g, .slice A ops.length cp] w fun e w' => e = .returned (.bool true) ∧ Frm NoB w w' := by
  by_cases h6 : n ≤ 6
  · by_cases hb : n < 1 ∨ 1024 < n ∨ g < 0 ∨ n < g
    · exact norPlays_bad w n g _ h6 hb
    · obtain ⟨N, rfl⟩ := Int.eq_ofNat_of_zero_le (a := n) (by omega)
      obtain ⟨G, rfl⟩ := Int.eq_ofNat_of_zero_le (a := g) (by omega)
      exact norPlays_loop w N G A cp ops (by omega) (by omega) (by omega) h hm
  · have b6 : decide (n > 6) = true := by simp; omega
    clear h
    go_enter Try.func8, Try.ntmps8
    go_wp2_with fail
    refine (awake_is _).mono ?_
    rintro e wz ⟨rfl, hz⟩
    go_wp2
    go_ret
    exact ⟨rfl, hz⟩
end Go.Proofs.Ytlbnhmcejbidnaa
