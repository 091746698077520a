/-
  bytes: GetWord, GetBlob.
-/
import Derived.Test.YtdhcgghdimkdbaaByt4
namespace Go.Proofs.Ytdhcgghdimkdbaa
open Go.RowKit
/-- a word's value -/
def wv (l : List Int) : Int := l.getD 0 0 * 16777216 + l.getD 1 0 * 65536 + l.getD 2 0 * 256 + l.getD 3 0
/-- what GetWord tells -/
def wE (xs : List Int) (a : Int) : Int := if 0 ≤ a ∧ a ≤ xs.length then (if (xs.length : Int) < a + 4 then 10 else 0) else 2
def wN (xs : List Int) (a : Int) : Int := if wE xs a = 0 then wv (xs.drop a.toNat) else 0
def wX (xs : List Int) (a : Int) : Int := if wE xs a = 0 then a + 4 else 0
/-- what GetBlob tells -/
def bE (xs : List Int) (a most : Int) : Int := if gE xs a = 0 then (if most < 0 ∨ most < gN xs a then 3 else if (xs.length : Int) - gX xs a < gN xs a then 10 else 0) else gE xs a
def bX (xs : List Int) (a most : Int) : Int := if bE xs a most = 0 then gX xs a + gN xs a else 0
def bB (xs : List Int) (a most : Int) : List Int := if bE xs a most = 0 then (xs.drop (gX xs a).toNat).take (gN xs a).toNat else []
section
variable {w : World} {v : Value} {xs : List Int}
theorem getWord_is (hv : By w v xs) (a : Int) (hl : xs.length ≤ 16777216) :
    Calls Try.prog 19 #[v, .int .i64 a] w fun e w' => e = .returned (.tuple #[.int .u32 (wN xs a), .int .i64 (wX xs a), .int .i64 (wE xs a)]) ∧ ∃ m, w' = w.drewN m := by
  obtain ⟨A, c, rfl, hr, hz, hlc, hc, hu⟩ := hv
  by_cases ha : 0 ≤ a ∧ a ≤ xs.length
  · obtain ⟨m, rfl⟩ := Int.eq_ofNat_of_zero_le ha.1
    have hm : m ≤ xs.length := by omega
    have hln : (xs.drop m).length = xs.length - m := List.length_drop
    obtain ⟨A', h1, h2⟩ := rest_at m hm hr hlc hc
    have HR := hide h2
    rcases Nat.lt_or_ge (xs.length - m) 4 with h4 | h4
    · have E : Hid (wE xs m = 10) := by show _ = _; unfold wE; rw [if_pos ha, if_pos (by omega)]
      clear hr hz hu h1 h2 ha hln
      go_enter Try.func19, Try.ntmps19
      go_wp2_with fail
      refine HR.out.mono ?_
      rintro e w' ⟨rfl, rfl⟩
      go_wp2_with fail
      refine bodyPost_ret (results_tmp3 rfl _ _ _) rfl ?_
      refine ⟨ret3 ?_ ?_ E.out.symm, 0, rfl⟩
      · unfold wN; rw [E.out]; rfl
      · unfold wX; rw [E.out]; rfl
    · have E : Hid (wE xs m = 0) := by show _ = _; unfold wE; rw [if_pos ha, if_neg (by omega)]
      obtain ⟨x0, x1, x2, x3, l, hd⟩ : ∃ x0 x1 x2 x3 l, xs.drop m = x0 :: x1 :: x2 :: x3 :: l := by
        match h : xs.drop m with
        | [] => rw [h] at hln; simp at hln; omega
        | [_] => rw [h] at hln; simp at hln; omega
        | [_, _] => rw [h] at hln; simp at hln; omega
        | [_, _, _] => rw [h] at hln; simp at hln; omega
        | x0 :: x1 :: x2 :: x3 :: l => exact ⟨x0, x1, x2, x3, l, rfl⟩
      have HN : Hid (wN xs m = x0 * 16777216 + x1 * 65536 + x2 * 256 + x3) := by
        show _ = _
        unfold wN; rw [E.out, if_pos rfl, Int.toNat_natCast, hd]; rfl
      have hud := hu.drop m
      rw [hd] at h1 hud
      have HW := hide (word_is (w := w) (A := A') (cp := c - m) x0 x1 x2 x3 l (U8.cons hud.head (U8.cons hud.tail.head (U8.cons hud.tail.tail.head (U8.cons hud.tail.tail.tail.head U8.nil)))) h1 (xs.length - m) h4)
      clear hr hz hu h1 h2 ha hln hud hd
      go_enter Try.func19, Try.ntmps19
      go_wp2_with fail
      refine HR.out.mono ?_
      rintro e w' ⟨rfl, rfl⟩
      go_wp2_with fail
      refine HW.out.mono ?_
      rintro e w' ⟨rfl, k, rfl⟩
      go_wp2_with fail
      refine bodyPost_ret (results_tmp3 rfl _ _ _) rfl ?_
      refine ⟨ret3 HN.out.symm ?_ E.out.symm, k, rfl⟩
      unfold wX; rw [E.out]; rfl
  · have E : Hid (wE xs a = 2) := by show _ = _; unfold wE; rw [if_neg ha]
    have HA := hide ha
    clear ha hr hz hu
    go_enter Try.func19, Try.ntmps19
    go_wp2_with fail
    refine (rest_no a HA.out).mono ?_
    rintro e w' ⟨rfl, rfl⟩
    go_wp2_with fail
    refine bodyPost_ret (results_tmp3 rfl _ _ _) rfl ?_
    refine ⟨ret3 ?_ ?_ E.out.symm, 0, rfl⟩
    · unfold wN; rw [E.out]; rfl
    · unfold wX; rw [E.out]; rfl
def GbPost (xs : List Int) (a most : Int) (w : World) (e : Ending) (w' : World) : Prop := ∃ v', e = .returned (.tuple #[v', .int .i64 (bX xs a most), .int .i64 (bE xs a most)]) ∧ Grew w w.heap.size (.slice none 0 0) v' (bB xs a most) w'
theorem gb_bad {xs : List Int} {a most k : Int} (h : bE xs a most = k) (hk : k ≠ 0) (w : World) : GbPost xs a most w (.returned (.tuple #[.slice none 0 0, .int .i64 0, .int .i64 k])) w := by
  have h0 : ¬ bE xs a most = 0 := by rw [h]; exact hk
  refine ⟨.slice none 0 0, ?_, ?_⟩
  · unfold bX; rw [if_neg h0, h]
  · unfold bB; rw [if_neg h0]; exact Grew.refl (Ob.nil _ _)
set_option maxRecDepth 100000 in
set_option maxHeartbeats 1000000 in
theorem getBlob_is (hv : By w v xs) (a most : Int) (hl : xs.length ≤ 16777216) (hm : -9223372036854775808 ≤ most ∧ most ≤ 9223372036854775807) :
    Calls Try.prog 20 #[v, .int .i64 a, .int .i64 most] w (GbPost xs a most w) := by
  have HV := hide hv
  have HG := hide (getUint_is hv a hl)
  unfold GuPost at HG
  obtain ⟨A, c, rfl, hr, hz, hlc, hc, hu⟩ := hv
  obtain ⟨m0, m1⟩ := hm
  by_cases he : gE xs a = 0
  · -- a number is there
    have hin : 0 ≤ a ∧ a ≤ xs.length := by
      by_cases h : 0 ≤ a ∧ a ≤ xs.length
      · exact h
      · unfold gE at he; rw [if_neg h] at he; cases he
    have hgu : guE (xs.drop a.toNat) = 0 := by unfold gE at he; rwa [if_pos hin] at he
    have hb := gu_back (hu.drop _) hgu
    have hN : gN xs a = guN (xs.drop a.toNat) := by unfold gN; rw [if_pos he]
    have hX : gX xs a = a + fi (xs.drop a.toNat) + 1 := by unfold gX; rw [if_pos he]
    have hld : (xs.drop a.toNat).length = xs.length - a.toNat := List.length_drop
    obtain ⟨N, hNn⟩ := Int.eq_ofNat_of_zero_le (a := gN xs a) (by omega)
    obtain ⟨X, hXn⟩ := Int.eq_ofNat_of_zero_le (a := gX xs a) (by omega)
    have hNlt : N < 18446744073709551616 := by omega
    have hX1 : 1 ≤ X := by omega
    have hXl : X ≤ xs.length := by omega
    have HE := hide he
    have HNn := hide hNn
    have HXn := hide hXn
    rw [he, hNn, hXn] at HG
    clear he hN hX hld hb hgu hin hNn hXn
    by_cases h1 : most < 0
    · have E : Hid (bE xs a most = 3) := by show _ = _; unfold bE; rw [if_pos HE.out, if_pos (.inl h1)]
      clear hr hz hu
      go_enter Try.func20, Try.ntmps20
      go_wp2_with fail
      refine HG.out.mono ?_
      rintro e w' ⟨rfl, rfl⟩
      go_wp2_with fail
      refine bodyPost_ret (results_tmp3 rfl _ _ _) rfl ?_
      exact gb_bad E.out (by decide) _
    · by_cases h2 : most < N
      · have E : Hid (bE xs a most = 3) := by show _ = _; unfold bE; rw [if_pos HE.out, if_pos (.inr (by rw [HNn.out]; exact h2))]
        have cv : most % 18446744073709551616 = most := by omega
        have b2 : decide (most < (N : Int)) = true := decide_eq_true h2
        clear hr hz hu
        go_enter Try.func20, Try.ntmps20
        go_wp2_with fail
        refine HG.out.mono ?_
        rintro e w' ⟨rfl, rfl⟩
        go_wp2_with fail
        refine bodyPost_ret (results_tmp3 rfl _ _ _) rfl ?_
        exact gb_bad E.out (by decide) _
      · have cv : most % 18446744073709551616 = most := by omega
        have hNm : (N : Int) ≤ most := by omega
        have b2 : decide (most < (N : Int)) = false := decide_eq_false h2
        have sb : IntKind.i64.wrap ((xs.length : Int) - X) = ((xs.length - X : Nat) : Int) := by
          rw [show ((xs.length : Int) - X) = ((xs.length - X : Nat) : Int) from by omega]; exact IntWalk.i64_in _ (by omega)
        have sb2 : ((xs.length : Int) - X) = ((xs.length - X : Nat) : Int) := by omega
        by_cases h3 : xs.length - X < N
        · have E : Hid (bE xs a most = 10) := by
            show _ = _
            unfold bE; rw [if_pos HE.out, if_neg (by rw [HNn.out]; omega), if_pos (by rw [HNn.out, HXn.out]; omega)]
          clear hr hz hu
          go_enter Try.func20, Try.ntmps20
          go_wp2_with fail
          refine HG.out.mono ?_
          rintro e w' ⟨rfl, rfl⟩
          go_wp2_with fail
          refine bodyPost_ret (results_tmp3 rfl _ _ _) rfl ?_
          exact gb_bad E.out (by decide) _
        · have E : Hid (bE xs a most = 0) := by
            show _ = _
            unfold bE; rw [if_pos HE.out, if_neg (by rw [HNn.out]; omega), if_neg (by rw [HNn.out, HXn.out]; omega)]
          have EX : Hid (bX xs a most = X + N) := by show _ = _; unfold bX; rw [if_pos E.out, HNn.out, HXn.out]
          have EB : Hid (bB xs a most = (xs.drop X).take N) := by show _ = _; unfold bB; rw [if_pos E.out, HNn.out, HXn.out]; rfl
          have hbl : ((xs.drop X).take N).length = N := by rw [List.length_take, List.length_drop]; omega
          obtain ⟨b, o, rfl, hcl⟩ := hr (ints_ne (by intro e; rw [e] at hXl; simp at hXl; omega))
          have HC : Hid (∀ i u, (ints .u8 xs)[i]? = some u → w.cell? ⟨b, o + i, none⟩ = some u) := hcl
          have HU := hide hu
          have HBL := hide hbl
          have HBY : Hid (∀ c', N ≤ c' → (c' : Int) ≤ 9223372036854775807 → By w (.slice (some ⟨b, o + X, none⟩) N c') ((xs.drop X).take N)) := fun c' k1 k2 => by
            refine ⟨_, c', by rw [hbl], fun _ => ⟨b, o + X, rfl, fun i u hu => ?_⟩, (fun e => by cases e), by rw [hbl]; exact k1, k2, (hu.drop X).take N⟩
            have hi : i < ((xs.drop X).take N).length := by have := (List.getElem?_eq_some_iff.1 hu).1; rwa [ints_length] at this
            rw [Nat.add_assoc, hcl (X + i) u ?_]
            rw [← hu]
            simp only [ints, List.map_take, List.map_drop]
            rw [List.getElem?_take_of_lt (by omega), List.getElem?_drop]
          have HB0 : Hid (N = 0 → By w (.slice (some ⟨b, o, none⟩) N 0) ((xs.drop X).take N)) := fun h0 => by
            subst h0
            rw [List.take_zero]
            exact ⟨_, 0, rfl, Rd.nil _ _, fun _ => rfl, Nat.le_refl _, by omega, U8.nil⟩
          clear hr hz hu hcl hbl
          have cN : (N : Int) < 9223372036854775808 := by omega
          have hXN : X + N ≤ xs.length := by omega
          obtain ⟨q, hq⟩ : ∃ q, xs.length - X = q := ⟨_, rfl⟩
          rw [hq] at sb h3
          have hNq : N ≤ q := by omega
          have hq2 : q ≤ 16777216 := by omega
          have hN24 : N ≤ 16777216 := by omega
          clear sb2 hq h3 cN hNlt
          go_enter Try.func20, Try.ntmps20
          go_wp2_with fail
          refine HG.out.mono ?_
          rintro e w' ⟨rfl, rfl⟩
          go_wp2_with (at_builtin; refine append_bytes rfl (.const (.slice none 0 0)) (.tmp 45) rfl _ _ _ [] ((xs.drop X).take N) rfl rfl (Ob.nil _ _) ?cb ?cc (Nat.le_refl _) ?_)
          case cb.inl => exact HB0.out (by omega)
          case cb.inr => exact HBY.out _ (by omega) (by omega)
          case cc => have := HBL.out; simp only [List.length_nil]; omega
          all_goals
            intro v' w2 hg
            go_wp2_with fail
            refine bodyPost_ret (results_tmp3 rfl _ _ _) rfl ?_
            refine ⟨v', ?_, ?_⟩
            · rw [EX.out, E.out]; rfl
            · rw [EB.out]; exact hg
  · have E : Hid (bE xs a most = gE xs a) := by show _ = _; unfold bE; rw [if_neg he]
    have N0 : gN xs a = 0 := by unfold gN; rw [if_neg he]
    have X0 : gX xs a = 0 := by unfold gX; rw [if_neg he]
    rw [N0, X0] at HG
    have HE := hide he
    have hb : (gE xs a != 0) = true := by simpa using he
    clear he hr hz hu N0 X0
    obtain ⟨k, hk⟩ : ∃ k, gE xs a = k := ⟨_, rfl⟩
    rw [hk] at hb HG E HE
    clear hk
    go_enter Try.func20, Try.ntmps20
    go_wp2_with fail
    refine HG.out.mono ?_
    rintro e w' ⟨rfl, rfl⟩
    go_wp2_with fail
    refine bodyPost_ret (results_tmp3 rfl _ _ _) rfl ?_
    exact gb_bad E.out HE.out _
end
end Go.Proofs.Ytdhcgghdimkdbaa
