/-
  The document's bytes: Bytes.
-/
import Derived.Test.YtdhcgghdimkdbaaRb6
namespace Go.Proofs.Ytdhcgghdimkdbaa
open Go.RowKit
theorem wb_get {x : Int} (h : 0 ≤ x ∧ x < 4294967296) (j : Nat) (hj : j < 4) : (wb x).getD j 0 = byteW x j := by
  have : j = 0 ∨ j = 1 ∨ j = 2 ∨ j = 3 := by omega
  rcases this with rfl | rfl | rfl | rfl
  all_goals
    simp only [byteW, wb, Nat.reduceMul, Nat.reduceSub, Int.reducePow, Nat.sub_zero, Nat.mul_zero, List.getD_cons_zero, List.getD_cons_succ]
    try omega
theorem bytesN_next {l : List Int} (u : U32 l) (j : Nat) : bytesN l (4 * j) ++ wb (l.getD j 0) = bytesN l (4 * (j + 1)) := by
  have hl : (bytesN l (4 * j)).length = 4 * j := bytesN_length _ _
  apply ext_getD' (by rw [List.length_append, hl, bytesN_length, wb_length]; omega)
  intro i hi
  rw [List.length_append, hl, wb_length] at hi
  rw [bytesN_get (show i < 4 * (j + 1) by omega)]
  by_cases h : i < 4 * j
  · rw [getD_append_left (by rw [hl]; exact h), bytesN_get h]
  · have e : i = (bytesN l (4 * j)).length + (i - 4 * j) := by rw [hl]; omega
    conv => lhs; rw [e]
    rw [getD_append_right, wb_get (u.get j) _ (by omega), show i / 4 = j from by omega, show i % 4 = i - 4 * j from by omega]
section
variable {w : World}
def RysRel (w : World) (l : List Int) (v i : Value) (wr : World) : Prop := ∃ j : Nat, j ≤ l.length ∧ i = .int .i64 j ∧ By wr v (bytesN l (4 * j)) ∧ Frm NoB w wr
def RysPost (w : World) (l : List Int) (n : Int) (e : Ending) (w' : World) : Prop := ∃ v', e = .returned (.tuple #[v', .int .i64 (byE l n)]) ∧ By w' v' (if byE l n = 0 then bytesN l n.toNat else []) ∧ Frm NoB w w'
theorem rys_bad {l : List Int} {n k : Int} (h : byE l n = k) (hk : k ≠ 0) {w w' : World} (hf : Frm NoB w w') : RysPost w l n (.returned (.tuple #[.slice none 0 0, .int .i64 k])) w' := by
  refine ⟨.slice none 0 0, by rw [h], ?_, hf⟩
  rw [if_neg (by rw [h]; exact hk)]
  exact By.nil _
set_option maxHeartbeats 1000000 in
theorem refBytes_is (A : Option Addr) (cp : Nat) (l : List Int) (hr : Rd w A (ints .u32 l)) (hu : U32 l) (hl : l.length ≤ 4000000) (n : Int) :
    Calls Try.prog 27 #[.slice A l.length cp, .int .i64 n] w (RysPost w l n) := by
  have HR := hide hr
  have HU := hide hu
  clear hr hu
  by_cases h1 : n < 0
  · have E : Hid (byE l n = 2) := by show _ = _; unfold byE; rw [if_pos h1]
    have z1 : decide (n < 0) = true := decide_eq_true h1
    clear h1
    go_enter Try.func27, Try.ntmps27
    go_wp2
    go_ret2
    exact rys_bad E.out (by decide) (Frm.refl _ _)
  · have z1 : decide (n < 0) = false := decide_eq_false h1
    obtain ⟨m, rfl⟩ := Int.eq_ofNat_of_zero_le (a := n) (by omega)
    clear h1
    go_enter Try.func27, Try.ntmps27
    go_wp2
    go_loopw [6, 7] (fun v i wr => RysRel w l v i wr) (fun _ i _ => l.length - (intOf i).toNat)
    case atStart => exact ⟨0, by omega, rfl, By.nil _, Frm.refl _ _⟩
    case round =>
      obtain ⟨j, hj, rfl, hB, hF⟩ := hrel
      have HB := hide hB
      have HF := hide hF
      clear hB hF
      by_cases hlt : j < l.length
      · obtain ⟨b, o, rfl, hc⟩ := HR.out (ints_ne (by intro e; subst e; simp at hlt))
        have c1 := (HF.out.cell (World.block_lt_of_cell? w _ (hc j _ (ints_get hlt))) (fun e => e)).trans (hc j _ (ints_get hlt))
        have i0 : (0 : Int) ≤ (j : Int) := by omega
        have i1 : (j : Int) < (l.length : Int) := by omega
        have hx := hide (HU.out.get j)
        have HN := hide (bytesN_next HU.out j)
        have HL := hide (bytesN_length l (4 * j))
        clear hc
        generalize l.getD j 0 = x at *
        go_wp2_with fail
        refine (refWord_is x hx.out HB.out (by rw [HL.out]; omega)).mono ?_
        rintro e w1 ⟨v1, rfl, hG⟩
        rw [HN.out] at hG
        have HG := hide hG
        clear hG
        go_wp2
        go_roundw
        case rel => exact ⟨j + 1, by omega, by go_num, HG.out.o.by_, HF.out.trans HG.out.new⟩
        case measure => simp [intOf]; omega
      · obtain rfl : j = l.length := by omega
        have HL := hide (bytesN_length l (4 * l.length))
        have b1 : decide ((l.length : Int) < (l.length : Int)) = false := decide_eq_false (by omega)
        obtain ⟨A1, c1, e, h5, h6⟩ := HB.out
        rw [HL.out] at e
        subst e
        by_cases h2 : 4 * l.length < m
        · have E : Hid (byE l m = 10) := by show _ = _; unfold byE; rw [if_neg (by omega), if_pos (by omega)]
          go_wp2
          go_ret2
          exact rys_bad E.out (by decide) HF.out
        · have E : Hid (byE l m = 0) := by show _ = _; unfold byE; rw [if_neg (by omega), if_neg (by omega)]
          have k1 : 4 * l.length ≤ c1 := by have := h6.2.1; rw [HL.out] at this; exact this
          have hm1 : (0 : Int) ≤ (m : Int) ∧ (m : Int) ≤ (c1 : Int) := by omega
          have HT := hide (HB.out.take (k := m) (by rw [HL.out]; omega))
          have ET := hide (bytesN_take l (n := 4 * l.length) (k := m) (by omega))
          clear h5 h6
          go_wp2_with fail
          refine (behind_is (By.nil wr) HT.out (by rw [ET.out, bytesN_length]; simp; omega)).mono ?_
          rintro e w1 ⟨v1, rfl, hG⟩
          rw [ET.out] at hG
          have HG := hide hG
          clear hG
          go_wp2
          go_ret2
          refine ⟨v1, by rw [E.out]; rfl, ?_, HF.out.trans HG.out.new⟩
          rw [E.out, if_pos rfl]
          exact HG.out.o.by_
end
end Go.Proofs.Ytdhcgghdimkdbaa
