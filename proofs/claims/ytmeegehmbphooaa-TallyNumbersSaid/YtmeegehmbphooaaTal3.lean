/-
  The tally: look.
-/
import Derived.Test.YtmeegehmbphooaaTal2
namespace Go.Proofs.Ytmeegehmbphooaa
open Go.RowKit
section
variable {w : World} {g gd : Nat} {f : Nat → Int} {on count : Int} {over : Bool}
def LookPost (w : World) (g gd : Nat) (f : Nat → Int) (over : Bool) (e : Ending) (w' : World) : Prop := e = .returned (.tuple #[]) ∧ TalAt w' g gd f (look f).1 (look f).2 over ∧ Frm (One g) w w'
/-- what is known behind the first i sectors -/
def look1 (f : Nat → Int) : Nat → Int × Int
  | 0 => (-1, 0)
  | 1 => if cntOk f 0 = true then (0, cntN f 0) else (-1, 0)
  | _ => look f
def LookRel (w : World) (g gd : Nat) (f : Nat → Int) (over : Bool) (i : Value) (wr : World) : Prop := ∃ j : Nat, j ≤ 2 ∧ i = .int .i64 j ∧ TalAt wr g gd f (look1 f j).1 (look1 f j).2 over ∧ Frm (One g) w wr
theorem two_facts {p : Nat → Prop} (h0 : p 0) (h1 : p 1) (j : Nat) (hj : j < 2) : p j := by
  rcases (by omega : j = 0 ∨ j = 1) with rfl | rfl
  · exact h0
  · exact h1
set_option maxHeartbeats 1000000 in
theorem look_is (h : TalAt w g gd f on count over) (hu : ∀ i, 0 ≤ f i ∧ f i < 4294967296) :
    Calls Try.prog 39 #[.pointer (some ⟨g, 0, none⟩)] w (LookPost w g gd f over) := by
  have H := hide h
  have HU := hide hu
  have c1 := h.con
  have c2 := h.ccount
  have f1 := h.fz 129
  have f2 := h.fz 130
  clear h hu
  go_enter Try.func39, Try.ntmps39
  go_wp2_with fail
  go_loopw [11] (fun i wr => LookRel w g gd f over i wr) (fun i _ => 2 - (intOf i).toNat)
  case atStart => exact ⟨0, by omega, rfl, (H.out.set_on (-1)).set_count 0, ((Frm.refl (One g) w).set1 129 _).set1 130 _⟩
  case round =>
    clear c1 c2 f1 f2
    obtain ⟨j, hj, rfl, hT, hF⟩ := hrel
    have HT := hide hT
    have HF := hide hF
    by_cases hlt : j < 2
    · obtain rfl | rfl : j = 0 ∨ j = 1 := by omega
      · have KC := counts_is (w := wr) (g := g) (k := 1) (o := 0) (f := f) (fun j hj => by have := HT.out.cw (i := 0 + j) (by omega); rwa [← Nat.add_assoc] at this) (fun j hj => HU.out _)
        unfold CntPost at KC
        obtain ⟨n0, hn0⟩ : ∃ n0, cntN f 0 = n0 := ⟨_, rfl⟩
        cases h0 : cntOk f 0 with
        | true =>
          rw [if_pos h0, h0, hn0] at KC
          have KC := hide KC
          have LK : Hid (look1 f 1 = (0, n0)) := by show (if cntOk f 0 = true then ((0 : Int), cntN f 0) else (-1, 0)) = _; rw [if_pos h0, hn0]
          clear h0 hn0
          have HT : Hid (TalAt wr g gd f (-1) 0 over) := HT.out
          clear hT hF
          go_wp2_with fail
          refine KC.out.mono ?_
          rintro e w1 ⟨rfl, hF1⟩
          have HT1 := hide (HT.out.frm hF1 (fun e => e))
          have c1 := HT1.out.con
          have c2 := HT1.out.ccount
          have f1 := HT1.out.fz 129
          have f2 := HT1.out.fz 130
          have HF1 := hide ((Hid.out HF).trans (hF1.mono (fun _ _ e => e.elim)))
          clear hF1
          go_wp2
          go_roundw
          case rel => exact ⟨1, by omega, rfl, by rw [LK.out]; exact (HT1.out.set_on 0).set_count _, (HF1.out.set1 129 _).set1 130 _⟩
          case measure => simp [intOf]
        | false =>
          rw [if_neg (by rw [h0]; simp), h0] at KC
          have KC := hide KC
          have LK : Hid (look1 f 1 = (-1, 0)) := by show (if cntOk f 0 = true then ((0 : Int), cntN f 0) else (-1, 0)) = _; rw [if_neg (by rw [h0]; simp)]
          clear h0 hn0
          have HT : Hid (TalAt wr g gd f (-1) 0 over) := HT.out
          clear hT hF
          go_wp2_with fail
          refine KC.out.mono ?_
          rintro e w1 ⟨rfl, hF1⟩
          have HT1 := hide (HT.out.frm hF1 (fun e => e))
          have c1 := HT1.out.con
          have c2 := HT1.out.ccount
          have f1 := HT1.out.fz 129
          have f2 := HT1.out.fz 130
          have HF1 := hide ((Hid.out HF).trans (hF1.mono (fun _ _ e => e.elim)))
          clear hF1
          go_wp2
          go_roundw
          case rel => exact ⟨1, by omega, rfl, by rw [LK.out]; exact HT1.out, HF1.out⟩
          case measure => simp [intOf]
      · have KC := counts_is (w := wr) (g := g) (k := 65) (o := 64) (f := f) (fun j hj => by have := HT.out.cw (i := 64 + j) (by omega); rwa [← Nat.add_assoc] at this) (fun j hj => HU.out _)
        unfold CntPost at KC
        obtain ⟨n0, hn0⟩ : ∃ n0, cntN f 0 = n0 := ⟨_, rfl⟩
        obtain ⟨n1, hn1⟩ : ∃ n1, cntN f 64 = n1 := ⟨_, rfl⟩
        cases h1 : cntOk f 64 with
        | false =>
          rw [if_neg (by rw [h1]; simp), h1] at KC
          have KC := hide KC
          have LK : Hid (look1 f 2 = look1 f 1) := by
            show look f = if cntOk f 0 = true then _ else _
            unfold look
            rw [h1]
            by_cases h0 : cntOk f 0 = true
            · rw [if_pos h0, if_neg (by simp), if_pos h0]
            · rw [if_neg h0, if_neg (by simp), if_neg h0]
          clear h1 hn0 hn1
          obtain ⟨x1, x2, hx⟩ : ∃ x1 x2, look1 f 1 = (x1, x2) := ⟨_, _, rfl⟩
          rw [hx] at LK HT
          clear hx
          have HT : Hid (TalAt wr g gd f x1 x2 over) := HT.out
          clear hT hF
          go_wp2_with fail
          refine KC.out.mono ?_
          rintro e w1 ⟨rfl, hF1⟩
          have HT1 := hide (HT.out.frm hF1 (fun e => e))
          have c1 := HT1.out.con
          have c2 := HT1.out.ccount
          have f1 := HT1.out.fz 129
          have f2 := HT1.out.fz 130
          have HF1 := hide ((Hid.out HF).trans (hF1.mono (fun _ _ e => e.elim)))
          clear hF1
          go_wp2
          go_roundw
          case rel => exact ⟨2, by omega, rfl, by rw [LK.out]; exact HT1.out, HF1.out⟩
          case measure => simp [intOf]
        | true =>
          rw [if_pos h1, h1, hn1] at KC
          have KC := hide KC
          cases h0 : cntOk f 0 with
          | false =>
            have LK : Hid (look1 f 2 = (1, n1)) := by
              show look f = _
              unfold look
              rw [if_neg (by rw [h0]; simp), if_pos h1, hn1]
            have E1 : look1 f 1 = (-1, 0) := by show (if cntOk f 0 = true then ((0 : Int), cntN f 0) else (-1, 0)) = _; rw [if_neg (by rw [h0]; simp)]
            rw [E1] at HT
            clear h0 h1 hn0 hn1 E1
            have HT : Hid (TalAt wr g gd f (-1) 0 over) := HT.out
            clear hT hF
            go_wp2_with fail
            refine KC.out.mono ?_
            rintro e w1 ⟨rfl, hF1⟩
            have HT1 := hide (HT.out.frm hF1 (fun e => e))
            have c1 := HT1.out.con
            have c2 := HT1.out.ccount
            have f1 := HT1.out.fz 129
            have f2 := HT1.out.fz 130
            have HF1 := hide ((Hid.out HF).trans (hF1.mono (fun _ _ e => e.elim)))
            clear hF1
            go_wp2
            go_roundw
            case rel => exact ⟨2, by omega, rfl, by rw [LK.out]; exact (HT1.out.set_on 1).set_count _, (HF1.out.set1 129 _).set1 130 _⟩
            case measure => simp [intOf]
          | true =>
            have E1 : look1 f 1 = (0, n0) := by show (if cntOk f 0 = true then ((0 : Int), cntN f 0) else (-1, 0)) = _; rw [if_pos h0, hn0]
            rw [E1] at HT
            by_cases hgt : n0 < n1
            · have LK : Hid (look1 f 2 = (1, n1)) := by
                show look f = _
                unfold look
                rw [if_pos h0, if_pos ⟨h1, by rw [hn0, hn1]; exact hgt⟩, hn1]
              have tg : decide (n1 > n0) = true := decide_eq_true hgt
              clear h0 h1 hn0 hn1 E1
              have HT : Hid (TalAt wr g gd f 0 n0 over) := HT.out
              clear hT hF
              go_wp2_with fail
              refine KC.out.mono ?_
              rintro e w1 ⟨rfl, hF1⟩
              have HT1 := hide (HT.out.frm hF1 (fun e => e))
              have c1 := HT1.out.con
              have c2 := HT1.out.ccount
              have f1 := HT1.out.fz 129
              have f2 := HT1.out.fz 130
              have HF1 := hide ((Hid.out HF).trans (hF1.mono (fun _ _ e => e.elim)))
              clear hF1
              go_wp2
              go_roundw
              case rel => exact ⟨2, by omega, rfl, by rw [LK.out]; exact (HT1.out.set_on 1).set_count _, (HF1.out.set1 129 _).set1 130 _⟩
              case measure => simp [intOf]
            · have LK : Hid (look1 f 2 = (0, n0)) := by
                show look f = _
                unfold look
                rw [if_pos h0, if_neg (fun h => hgt (by have := h.2; rwa [hn0, hn1] at this)), hn0]
              have tg : decide (n1 > n0) = false := decide_eq_false hgt
              clear h0 h1 hn0 hn1 E1
              have HT : Hid (TalAt wr g gd f 0 n0 over) := HT.out
              clear hT hF
              go_wp2_with fail
              refine KC.out.mono ?_
              rintro e w1 ⟨rfl, hF1⟩
              have HT1 := hide (HT.out.frm hF1 (fun e => e))
              have c1 := HT1.out.con
              have c2 := HT1.out.ccount
              have f1 := HT1.out.fz 129
              have f2 := HT1.out.fz 130
              have HF1 := hide ((Hid.out HF).trans (hF1.mono (fun _ _ e => e.elim)))
              clear hF1
              go_wp2
              go_roundw
              case rel => exact ⟨2, by omega, rfl, by rw [LK.out]; exact HT1.out, HF1.out⟩
              case measure => simp [intOf]
    · obtain rfl : j = 2 := by omega
      clear hT hF
      go_wp2
      go_end0
      exact ⟨rfl, HT.out, HF.out⟩
end
end Go.Proofs.Ytmeegehmbphooaa
