/-
  bytes: GetUint at a place that is one.
-/
import Derived.Test.YtdhcgghdimkdbaaByt3
namespace Go.Proofs.Ytdhcgghdimkdbaa
open Go.RowKit
section
variable {w : World} {xs : List Int}
/-- what is known ahead of the paths -/
structure GuIn (w : World) (xs : List Int) (A A' : Option Addr) (c c2 a n f : Nat) (l : List Int) : Prop where
  rest : Calls Try.prog 38 #[.slice A xs.length c, .int .i64 a] w fun e w' => e = .returned (.tuple #[.slice A' n c2, .bool true]) ∧ w' = w
  idx : Calls Try.prog 39 #[.slice A' n c2, .func (.func 40) #[] #[]] w fun e w' => e = .returned (.int .i64 (fiV l)) ∧ w = w'
  r : Rd w A' (ints .u8 l)
  u : U8 l
  ln : l.length = n
  lf : fi l = f
  le : a + n ≤ 16777216
  e : gE xs a = guE l
  d : xs.drop a = l
theorem gu_short (A A' : Option Addr) (c c2 a n f : Nat) (l : List Int) (h : GuIn w xs A A' c c2 a n f l) (h1 : f = n) (h2 : n < 10) :
    Calls Try.prog 22 #[.slice A xs.length c, .int .i64 a] w (GuPost xs a w) := by
  have IDX : Hid (Calls Try.prog 39 #[.slice A' n c2, .func (.func 40) #[] #[]] w fun e w' => e = .returned (.int .i64 (-1)) ∧ w = w') := by
    have k := h.idx
    have e : fiV l = -1 := by unfold fiV; rw [h.ln, h.lf]; rw [if_pos (by omega)]
    rw [e] at k
    exact k
  have E : Hid (gE xs a = 10) := by
    show _ = _
    rw [h.e]; unfold guE; rw [h.ln, h.lf]
    rw [if_pos h1, if_pos h2]
  have H := hide h
  clear h
  go_enter Try.func22, Try.ntmps22
  go_wp2_with fail
  refine H.out.rest.mono ?_
  rintro e w' ⟨rfl, rfl⟩
  go_wp2_with fail
  refine IDX.out.mono ?_
  rintro e w' ⟨rfl, rfl⟩
  go_wp2_with fail
  refine bodyPost_ret (results_tmp3 rfl _ _ _) rfl ?_
  refine ⟨ret3 ?_ ?_ E.out.symm, rfl⟩
  · unfold gN; rw [E.out]; rfl
  · unfold gX; rw [E.out]; rfl
theorem gu_long (A A' : Option Addr) (c c2 a n f : Nat) (l : List Int) (h : GuIn w xs A A' c c2 a n f l) (h1 : f = n) (h2 : 10 ≤ n) :
    Calls Try.prog 22 #[.slice A xs.length c, .int .i64 a] w (GuPost xs a w) := by
  have IDX : Hid (Calls Try.prog 39 #[.slice A' n c2, .func (.func 40) #[] #[]] w fun e w' => e = .returned (.int .i64 (-1)) ∧ w = w') := by
    have k := h.idx
    have e : fiV l = -1 := by unfold fiV; rw [h.ln, h.lf]; rw [if_pos (by omega)]
    rw [e] at k
    exact k
  have E : Hid (gE xs a = 11) := by
    show _ = _
    rw [h.e]; unfold guE; rw [h.ln, h.lf]
    rw [if_pos h1, if_neg (by omega)]
  have H := hide h
  clear h
  go_enter Try.func22, Try.ntmps22
  go_wp2_with fail
  refine H.out.rest.mono ?_
  rintro e w' ⟨rfl, rfl⟩
  go_wp2_with fail
  refine IDX.out.mono ?_
  rintro e w' ⟨rfl, rfl⟩
  go_wp2_with fail
  refine bodyPost_ret (results_tmp3 rfl _ _ _) rfl ?_
  refine ⟨ret3 ?_ ?_ E.out.symm, rfl⟩
  · unfold gN; rw [E.out]; rfl
  · unfold gX; rw [E.out]; rfl
theorem gu_far (A A' : Option Addr) (c c2 a n f : Nat) (l : List Int) (h : GuIn w xs A A' c c2 a n f l) (h1 : f < n) (h2 : 10 ≤ f) :
    Calls Try.prog 22 #[.slice A xs.length c, .int .i64 a] w (GuPost xs a w) := by
  have IDX : Hid (Calls Try.prog 39 #[.slice A' n c2, .func (.func 40) #[] #[]] w fun e w' => e = .returned (.int .i64 ((f : Int))) ∧ w = w') := by
    have k := h.idx
    have e : fiV l = (f : Int) := by unfold fiV; rw [h.ln, h.lf]; rw [if_neg (by omega)]; try omega
    rw [e] at k
    exact k
  have E : Hid (gE xs a = 11) := by
    show _ = _
    rw [h.e]; unfold guE; rw [h.ln, h.lf]
    rw [if_neg (by omega), if_pos (.inl h2)]
  have H := hide h
  have b1 : ((f : Int) == 9) = false := by rw [beq_eq_false_iff_ne]; omega
  clear h
  go_enter Try.func22, Try.ntmps22
  go_wp2_with fail
  refine H.out.rest.mono ?_
  rintro e w' ⟨rfl, rfl⟩
  go_wp2_with fail
  refine IDX.out.mono ?_
  rintro e w' ⟨rfl, rfl⟩
  go_wp2_with fail
  refine bodyPost_ret (results_tmp3 rfl _ _ _) rfl ?_
  refine ⟨ret3 ?_ ?_ E.out.symm, rfl⟩
  · unfold gN; rw [E.out]; rfl
  · unfold gX; rw [E.out]; rfl
theorem gu_nine (A A' : Option Addr) (c c2 a n f : Nat) (l : List Int) (h : GuIn w xs A A' c c2 a n f l) (h1 : 9 < n) (hf : f = 9) (h2 : 1 < l.getD 9 0) :
    Calls Try.prog 22 #[.slice A xs.length c, .int .i64 a] w (GuPost xs a w) := by
  have IDX : Hid (Calls Try.prog 39 #[.slice A' n c2, .func (.func 40) #[] #[]] w fun e w' => e = .returned (.int .i64 ((9 : Int))) ∧ w = w') := by
    have k := h.idx
    have e : fiV l = (9 : Int) := by unfold fiV; rw [h.ln, h.lf]; rw [if_neg (by omega)]; try omega
    rw [e] at k
    exact k
  have E : Hid (gE xs a = 11) := by
    show _ = _
    rw [h.e]; unfold guE; rw [h.ln, h.lf]
    rw [if_neg (by omega), if_pos (.inr (.inl ⟨hf, by rw [hf]; exact h2⟩))]
  have H := hide h
  subst hf
  have hx := h.u.get 9
  obtain ⟨b, o, rfl, hc⟩ := h.r (ints_ne (by intro e; have := h.ln; rw [e] at this; simp at this; omega))
  have c1 := hc 9 _ (ints_get (by rw [h.ln]; exact h1))
  clear hc
  have i1 : (9 : Int) < n := by omega
  generalize l.getD 9 0 = x at *
  have b1 : decide (1 < x) = true := decide_eq_true h2
  clear h
  go_enter Try.func22, Try.ntmps22
  go_wp2_with fail
  refine H.out.rest.mono ?_
  rintro e w' ⟨rfl, rfl⟩
  go_wp2_with fail
  refine IDX.out.mono ?_
  rintro e w' ⟨rfl, rfl⟩
  go_wp2_with fail
  refine bodyPost_ret (results_tmp3 rfl _ _ _) rfl ?_
  refine ⟨ret3 ?_ ?_ E.out.symm, rfl⟩
  · unfold gN; rw [E.out]; rfl
  · unfold gX; rw [E.out]; rfl
theorem gu_nine0 (A A' : Option Addr) (c c2 a n f : Nat) (l : List Int) (h : GuIn w xs A A' c c2 a n f l) (h1 : 9 < n) (hf : f = 9) (h2 : l.getD 9 0 = 0) :
    Calls Try.prog 22 #[.slice A xs.length c, .int .i64 a] w (GuPost xs a w) := by
  have IDX : Hid (Calls Try.prog 39 #[.slice A' n c2, .func (.func 40) #[] #[]] w fun e w' => e = .returned (.int .i64 ((9 : Int))) ∧ w = w') := by
    have k := h.idx
    have e : fiV l = (9 : Int) := by unfold fiV; rw [h.ln, h.lf]; rw [if_neg (by omega)]; try omega
    rw [e] at k
    exact k
  have E : Hid (gE xs a = 11) := by
    show _ = _
    rw [h.e]; unfold guE; rw [h.ln, h.lf]
    rw [if_neg (by omega), if_pos (.inr (.inr ⟨by omega, by rw [hf]; exact h2⟩))]
  have H := hide h
  subst hf
  have hx := h.u.get 9
  obtain ⟨b, o, rfl, hc⟩ := h.r (ints_ne (by intro e; have := h.ln; rw [e] at this; simp at this; omega))
  have c1 := hc 9 _ (ints_get (by rw [h.ln]; exact h1))
  clear hc
  have i1 : (9 : Int) < n := by omega
  rw [h2] at c1 hx
  clear h
  go_enter Try.func22, Try.ntmps22
  go_wp2_with fail
  refine H.out.rest.mono ?_
  rintro e w' ⟨rfl, rfl⟩
  go_wp2_with fail
  refine IDX.out.mono ?_
  rintro e w' ⟨rfl, rfl⟩
  go_wp2_with fail
  refine bodyPost_ret (results_tmp3 rfl _ _ _) rfl ?_
  refine ⟨ret3 ?_ ?_ E.out.symm, rfl⟩
  · unfold gN; rw [E.out]; rfl
  · unfold gX; rw [E.out]; rfl
theorem gu_zero (A A' : Option Addr) (c c2 a n f : Nat) (l : List Int) (h : GuIn w xs A A' c c2 a n f l) (h1 : f < n) (hf : 0 < f) (hf9 : f < 9) (h2 : l.getD f 0 = 0) :
    Calls Try.prog 22 #[.slice A xs.length c, .int .i64 a] w (GuPost xs a w) := by
  have IDX : Hid (Calls Try.prog 39 #[.slice A' n c2, .func (.func 40) #[] #[]] w fun e w' => e = .returned (.int .i64 ((f : Int))) ∧ w = w') := by
    have k := h.idx
    have e : fiV l = (f : Int) := by unfold fiV; rw [h.ln, h.lf]; rw [if_neg (by omega)]; try omega
    rw [e] at k
    exact k
  have E : Hid (gE xs a = 11) := by
    show _ = _
    rw [h.e]; unfold guE; rw [h.ln, h.lf]
    rw [if_neg (by omega), if_pos (.inr (.inr ⟨hf, h2⟩))]
  have H := hide h
  have hx := h.u.get f
  obtain ⟨b, o, rfl, hc⟩ := h.r (ints_ne (by intro e; have := h.ln; rw [e] at this; simp at this; omega))
  have c1 := hc f _ (ints_get (by rw [h.ln]; exact h1))
  clear hc
  rw [h2] at c1 hx
  have b9 : ((f : Int) == 9) = false := by rw [beq_eq_false_iff_ne]; omega
  have i1 : (f : Int) < n := by omega
  have i0 : (0 : Int) < f := by omega
  clear h
  go_enter Try.func22, Try.ntmps22
  go_wp2_with fail
  refine H.out.rest.mono ?_
  rintro e w' ⟨rfl, rfl⟩
  go_wp2_with fail
  refine IDX.out.mono ?_
  rintro e w' ⟨rfl, rfl⟩
  go_wp2_with fail
  refine bodyPost_ret (results_tmp3 rfl _ _ _) rfl ?_
  refine ⟨ret3 ?_ ?_ E.out.symm, rfl⟩
  · unfold gN; rw [E.out]; rfl
  · unfold gX; rw [E.out]; rfl
set_option maxHeartbeats 1000000 in
theorem gu_ok0 (A A' : Option Addr) (c c2 a n f : Nat) (l : List Int) (h : GuIn w xs A A' c c2 a n f l) (h1 : 0 < n) (hf : f = 0) :
    Calls Try.prog 22 #[.slice A xs.length c, .int .i64 a] w (GuPost xs a w) := by
  have IDX : Hid (Calls Try.prog 39 #[.slice A' n c2, .func (.func 40) #[] #[]] w fun e w' => e = .returned (.int .i64 ((0 : Int))) ∧ w = w') := by
    have k := h.idx
    have e : fiV l = (0 : Int) := by unfold fiV; rw [h.ln, h.lf]; rw [if_neg (by omega)]; try omega
    rw [e] at k
    exact k
  have E : Hid (gE xs a = 0) := by
    show _ = _
    rw [h.e]; unfold guE; rw [h.ln, h.lf]
    rw [if_neg (by omega), if_neg (by omega)]
  have hfn : f < n := by omega
  have hle := h.le
  have GB := hide (gu_back h.u (h.e.symm.trans E.out))
  have HT : Hid ((l.take (f + 1)).length = f + 1) := by show _ = _; rw [List.length_take, h.ln]; omega
  have HV : Hid (vl (l.take (f + 1)) < 18446744073709551616) := by have k := GB.out.2.2.2.1; unfold guN at k; rw [h.lf] at k; exact k
  have HN : Hid (gN xs a = vl (l.take (f + 1))) := by show _ = _; unfold gN; rw [E.out, if_pos rfl]; unfold guN; rw [Int.toNat_natCast, h.d, h.lf]
  have HX : Hid (gX xs a = a + f + 1) := by show _ = _; unfold gX; rw [E.out, if_pos rfl, Int.toNat_natCast, h.d, h.lf]
  have HC : Hid (∀ k, k < f + 1 → ∃ b o, A' = some ⟨b, o, none⟩ ∧ w.cell? ⟨b, o + k, none⟩ = some (.int .u8 ((l.take (f + 1)).getD k 0))) := fun k hk => by
    obtain ⟨b, o, e, hc⟩ := h.r (ints_ne (by intro e; have := h.ln; rw [e] at this; simp at this; omega))
    refine ⟨b, o, e, ?_⟩
    rw [hc k _ (ints_get (by rw [h.ln]; omega)), List.getD_eq_getElem?_getD (l := l.take (f + 1)), List.getElem?_take_of_lt hk, ← List.getD_eq_getElem?_getD]
  have HU := hide (h.u.take (f + 1))
  have H := hide h
  subst hf
  generalize l.take (0 + 1) = t at *
  clear h
  go_enter Try.func22, Try.ntmps22
  go_wp2_with fail
  refine H.out.rest.mono ?_
  rintro e w' ⟨rfl, rfl⟩
  go_wp2_with fail
  refine IDX.out.mono ?_
  rintro e w' ⟨rfl, rfl⟩
  go_wp2_with fail
  go_loopw [10, 59] (fun n i wr => GuRel w' t i n wr) (fun _ i _ => 0 + 1 - (intOf i).toNat)
  case atStart => exact ⟨0, by omega, rfl, by rw [Nat.sub_zero, List.drop_length]; rfl, rfl⟩
  case round =>
    obtain ⟨j, hj, rfl, rfl, rfl⟩ := hrel
    rw [HT.out] at hj ⊢
    by_cases hlt : j < 0 + 1
    · obtain ⟨b, o, eA, c1⟩ := HC.out (0 - j) (by omega)
      first
        | subst eA
        | (simp only [Option.some.injEq, Addr.mk.injEq, and_true] at eA; obtain ⟨rfl, rfl⟩ := eA)
      have hxx := HU.out.get (0 - j)
      have hvd := vl_drop (t := t) (k := 0 - j) (by rw [HT.out]; omega)
      have hv1 := vl_drop_le t (0 - j)
      have hv0 := vl_lo (t.drop (0 - j + 1))
      have hv := HV.out
      rw [show 0 + 1 - j = 0 - j + 1 from by omega]
      have HR : Hid (vl (t.drop (0 + 1 - (j + 1))) = t.getD (0 - j) 0 % 128 + 128 * vl (t.drop (0 - j + 1))) := by show _ = _; rw [show 0 + 1 - (j + 1) = 0 - j from by omega]; exact hvd
      have hq : vl (t.drop (0 - j + 1)) * 128 < 18446744073709551616 := by omega
      have hw1 : IntKind.i64.wrap ((0 : Int) - j) = ((0 - j : Nat) : Int) := by
        rw [show ((0 : Int) - j) = ((0 - j : Nat) : Int) from by omega]; exact IntWalk.i64_in _ (by omega)
      have hw2 : ((0 : Int) - j) = ((0 - j : Nat) : Int) := by omega
      have i3 : (((0 - j : Nat) : Int) < n) := by omega
      have i4 : (0 - j < n) := by omega
      have a1 := u8_and127 hxx.1 hxx.2
      have a2 := u64_join 7 (vl (t.drop (0 - j + 1)) * 128) (t.getD (0 - j) 0 % 128) (by omega) (by omega) (by omega) (by omega) (by omega)
      clear hvd hv1
      generalize t.getD (0 - j) 0 = x at *
      generalize vl (t.drop (0 - j + 1)) = y at *
      generalize 0 - j = kk at *
      go_wp2_with fail
      go_roundw
      case rel =>
        refine ⟨j + 1, by rw [HT.out]; omega, by go_num, ?_, rfl⟩
        rw [HT.out, HR.out]
        first | rfl | (congr 1; omega) | skip
      case measure => simp [intOf]; omega
    · have ej : j = 0 + 1 := by omega
      subst ej
      rw [Nat.sub_self, List.drop_zero]
      go_wp2_with fail
      refine bodyPost_ret (results_tmp3 rfl _ _ _) rfl ?_
      exact ⟨ret3 HN.out.symm (by rw [HX.out]; try omega) E.out.symm, rfl⟩
set_option maxHeartbeats 1000000 in
theorem gu_ok9 (A A' : Option Addr) (c c2 a n f : Nat) (l : List Int) (h : GuIn w xs A A' c c2 a n f l) (h1 : 9 < n) (hf : f = 9) (h2 : l.getD 9 0 = 1) :
    Calls Try.prog 22 #[.slice A xs.length c, .int .i64 a] w (GuPost xs a w) := by
  have IDX : Hid (Calls Try.prog 39 #[.slice A' n c2, .func (.func 40) #[] #[]] w fun e w' => e = .returned (.int .i64 ((9 : Int))) ∧ w = w') := by
    have k := h.idx
    have e : fiV l = (9 : Int) := by unfold fiV; rw [h.ln, h.lf]; rw [if_neg (by omega)]; try omega
    rw [e] at k
    exact k
  have E : Hid (gE xs a = 0) := by
    show _ = _
    rw [h.e]; unfold guE; rw [h.ln, h.lf]
    rw [if_neg (by omega), hf, h2, if_neg (by omega)]
  have hfn : f < n := by omega
  have hle := h.le
  have GB := hide (gu_back h.u (h.e.symm.trans E.out))
  have HT : Hid ((l.take (f + 1)).length = f + 1) := by show _ = _; rw [List.length_take, h.ln]; omega
  have HV : Hid (vl (l.take (f + 1)) < 18446744073709551616) := by have k := GB.out.2.2.2.1; unfold guN at k; rw [h.lf] at k; exact k
  have HN : Hid (gN xs a = vl (l.take (f + 1))) := by show _ = _; unfold gN; rw [E.out, if_pos rfl]; unfold guN; rw [Int.toNat_natCast, h.d, h.lf]
  have HX : Hid (gX xs a = a + f + 1) := by show _ = _; unfold gX; rw [E.out, if_pos rfl, Int.toNat_natCast, h.d, h.lf]
  have HC : Hid (∀ k, k < f + 1 → ∃ b o, A' = some ⟨b, o, none⟩ ∧ w.cell? ⟨b, o + k, none⟩ = some (.int .u8 ((l.take (f + 1)).getD k 0))) := fun k hk => by
    obtain ⟨b, o, e, hc⟩ := h.r (ints_ne (by intro e; have := h.ln; rw [e] at this; simp at this; omega))
    refine ⟨b, o, e, ?_⟩
    rw [hc k _ (ints_get (by rw [h.ln]; omega)), List.getD_eq_getElem?_getD (l := l.take (f + 1)), List.getElem?_take_of_lt hk, ← List.getD_eq_getElem?_getD]
  have HU := hide (h.u.take (f + 1))
  have H := hide h
  subst hf
  have hx := h.u.get 9
  obtain ⟨b0, o0, rfl, hc⟩ := h.r (ints_ne (by intro e; have := h.ln; rw [e] at this; simp at this; omega))
  have c9 := hc 9 _ (ints_get (by rw [h.ln]; exact h1))
  clear hc
  have i1 : (9 : Int) < n := by omega
  rw [h2] at c9 hx
  generalize l.take (9 + 1) = t at *
  clear h
  go_enter Try.func22, Try.ntmps22
  go_wp2_with fail
  refine H.out.rest.mono ?_
  rintro e w' ⟨rfl, rfl⟩
  go_wp2_with fail
  refine IDX.out.mono ?_
  rintro e w' ⟨rfl, rfl⟩
  go_wp2_with fail
  go_loopw [10, 59] (fun n i wr => GuRel w' t i n wr) (fun _ i _ => 9 + 1 - (intOf i).toNat)
  case atStart => exact ⟨0, by omega, rfl, by rw [Nat.sub_zero, List.drop_length]; rfl, rfl⟩
  case round =>
    obtain ⟨j, hj, rfl, rfl, rfl⟩ := hrel
    rw [HT.out] at hj ⊢
    by_cases hlt : j < 9 + 1
    · obtain ⟨b, o, eA, c1⟩ := HC.out (9 - j) (by omega)
      first
        | subst eA
        | (simp only [Option.some.injEq, Addr.mk.injEq, and_true] at eA; obtain ⟨rfl, rfl⟩ := eA)
      have hxx := HU.out.get (9 - j)
      have hvd := vl_drop (t := t) (k := 9 - j) (by rw [HT.out]; omega)
      have hv1 := vl_drop_le t (9 - j)
      have hv0 := vl_lo (t.drop (9 - j + 1))
      have hv := HV.out
      rw [show 9 + 1 - j = 9 - j + 1 from by omega]
      have HR : Hid (vl (t.drop (9 + 1 - (j + 1))) = t.getD (9 - j) 0 % 128 + 128 * vl (t.drop (9 - j + 1))) := by show _ = _; rw [show 9 + 1 - (j + 1) = 9 - j from by omega]; exact hvd
      have hq : vl (t.drop (9 - j + 1)) * 128 < 18446744073709551616 := by omega
      have hw1 : IntKind.i64.wrap ((9 : Int) - j) = ((9 - j : Nat) : Int) := by
        rw [show ((9 : Int) - j) = ((9 - j : Nat) : Int) from by omega]; exact IntWalk.i64_in _ (by omega)
      have hw2 : ((9 : Int) - j) = ((9 - j : Nat) : Int) := by omega
      have i3 : (((9 - j : Nat) : Int) < n) := by omega
      have i4 : (9 - j < n) := by omega
      have a1 := u8_and127 hxx.1 hxx.2
      have a2 := u64_join 7 (vl (t.drop (9 - j + 1)) * 128) (t.getD (9 - j) 0 % 128) (by omega) (by omega) (by omega) (by omega) (by omega)
      clear hvd hv1
      generalize t.getD (9 - j) 0 = x at *
      generalize vl (t.drop (9 - j + 1)) = y at *
      generalize 9 - j = kk at *
      go_wp2_with fail
      go_roundw
      case rel =>
        refine ⟨j + 1, by rw [HT.out]; omega, by go_num, ?_, rfl⟩
        rw [HT.out, HR.out]
        first | rfl | (congr 1; omega) | skip
      case measure => simp [intOf]; omega
    · have ej : j = 9 + 1 := by omega
      subst ej
      rw [Nat.sub_self, List.drop_zero]
      go_wp2_with fail
      refine bodyPost_ret (results_tmp3 rfl _ _ _) rfl ?_
      exact ⟨ret3 HN.out.symm (by rw [HX.out]; try omega) E.out.symm, rfl⟩
set_option maxHeartbeats 1000000 in
theorem gu_ok (A A' : Option Addr) (c c2 a n f : Nat) (l : List Int) (h : GuIn w xs A A' c c2 a n f l) (h1 : f < n) (hf : 0 < f) (hf9 : f < 9) (h2 : l.getD f 0 ≠ 0) :
    Calls Try.prog 22 #[.slice A xs.length c, .int .i64 a] w (GuPost xs a w) := by
  have IDX : Hid (Calls Try.prog 39 #[.slice A' n c2, .func (.func 40) #[] #[]] w fun e w' => e = .returned (.int .i64 ((f : Int))) ∧ w = w') := by
    have k := h.idx
    have e : fiV l = (f : Int) := by unfold fiV; rw [h.ln, h.lf]; rw [if_neg (by omega)]; try omega
    rw [e] at k
    exact k
  have E : Hid (gE xs a = 0) := by
    show _ = _
    rw [h.e]; unfold guE; rw [h.ln, h.lf]
    rw [if_neg (by omega), if_neg (by omega)]
  have hfn : f < n := by omega
  have hle := h.le
  have GB := hide (gu_back h.u (h.e.symm.trans E.out))
  have HT : Hid ((l.take (f + 1)).length = f + 1) := by show _ = _; rw [List.length_take, h.ln]; omega
  have HV : Hid (vl (l.take (f + 1)) < 18446744073709551616) := by have k := GB.out.2.2.2.1; unfold guN at k; rw [h.lf] at k; exact k
  have HN : Hid (gN xs a = vl (l.take (f + 1))) := by show _ = _; unfold gN; rw [E.out, if_pos rfl]; unfold guN; rw [Int.toNat_natCast, h.d, h.lf]
  have HX : Hid (gX xs a = a + f + 1) := by show _ = _; unfold gX; rw [E.out, if_pos rfl, Int.toNat_natCast, h.d, h.lf]
  have HC : Hid (∀ k, k < f + 1 → ∃ b o, A' = some ⟨b, o, none⟩ ∧ w.cell? ⟨b, o + k, none⟩ = some (.int .u8 ((l.take (f + 1)).getD k 0))) := fun k hk => by
    obtain ⟨b, o, e, hc⟩ := h.r (ints_ne (by intro e; have := h.ln; rw [e] at this; simp at this; omega))
    refine ⟨b, o, e, ?_⟩
    rw [hc k _ (ints_get (by rw [h.ln]; omega)), List.getD_eq_getElem?_getD (l := l.take (f + 1)), List.getElem?_take_of_lt hk, ← List.getD_eq_getElem?_getD]
  have HU := hide (h.u.take (f + 1))
  have H := hide h
  have hx := h.u.get f
  obtain ⟨b0, o0, rfl, hc⟩ := h.r (ints_ne (by intro e; have := h.ln; rw [e] at this; simp at this; omega))
  have c9 := hc f _ (ints_get (by rw [h.ln]; exact h1))
  clear hc
  have b9 : ((f : Int) == 9) = false := by rw [beq_eq_false_iff_ne]; omega
  have i1 : (f : Int) < n := by omega
  have i0 : (0 : Int) < f := by omega
  have bx : (l.getD f 0 == 0) = false := by rw [beq_eq_false_iff_ne]; exact h2
  generalize l.getD f 0 = z at *
  generalize l.take (f + 1) = t at *
  clear h
  go_enter Try.func22, Try.ntmps22
  go_wp2_with fail
  refine H.out.rest.mono ?_
  rintro e w' ⟨rfl, rfl⟩
  go_wp2_with fail
  refine IDX.out.mono ?_
  rintro e w' ⟨rfl, rfl⟩
  go_wp2_with fail
  go_loopw [10, 59] (fun n i wr => GuRel w' t i n wr) (fun _ i _ => f + 1 - (intOf i).toNat)
  case atStart => exact ⟨0, by omega, rfl, by rw [Nat.sub_zero, List.drop_length]; rfl, rfl⟩
  case round =>
    obtain ⟨j, hj, rfl, rfl, rfl⟩ := hrel
    rw [HT.out] at hj ⊢
    by_cases hlt : j < f + 1
    · obtain ⟨b, o, eA, c1⟩ := HC.out (f - j) (by omega)
      first
        | subst eA
        | (simp only [Option.some.injEq, Addr.mk.injEq, and_true] at eA; obtain ⟨rfl, rfl⟩ := eA)
      have hxx := HU.out.get (f - j)
      have hvd := vl_drop (t := t) (k := f - j) (by rw [HT.out]; omega)
      have hv1 := vl_drop_le t (f - j)
      have hv0 := vl_lo (t.drop (f - j + 1))
      have hv := HV.out
      rw [show f + 1 - j = f - j + 1 from by omega]
      have HR : Hid (vl (t.drop (f + 1 - (j + 1))) = t.getD (f - j) 0 % 128 + 128 * vl (t.drop (f - j + 1))) := by show _ = _; rw [show f + 1 - (j + 1) = f - j from by omega]; exact hvd
      have hq : vl (t.drop (f - j + 1)) * 128 < 18446744073709551616 := by omega
      have hw1 : IntKind.i64.wrap ((f : Int) - j) = ((f - j : Nat) : Int) := by
        rw [show ((f : Int) - j) = ((f - j : Nat) : Int) from by omega]; exact IntWalk.i64_in _ (by omega)
      have hw2 : ((f : Int) - j) = ((f - j : Nat) : Int) := by omega
      have i3 : (((f - j : Nat) : Int) < n) := by omega
      have i4 : (f - j < n) := by omega
      have a1 := u8_and127 hxx.1 hxx.2
      have a2 := u64_join 7 (vl (t.drop (f - j + 1)) * 128) (t.getD (f - j) 0 % 128) (by omega) (by omega) (by omega) (by omega) (by omega)
      clear hvd hv1
      generalize t.getD (f - j) 0 = x at *
      generalize vl (t.drop (f - j + 1)) = y at *
      generalize f - j = kk at *
      go_wp2_with fail
      go_roundw
      case rel =>
        refine ⟨j + 1, by rw [HT.out]; omega, by go_num, ?_, rfl⟩
        rw [HT.out, HR.out]
        first | rfl | (congr 1; omega) | skip
      case measure => simp [intOf]; omega
    · have ej : j = f + 1 := by omega
      subst ej
      rw [Nat.sub_self, List.drop_zero]
      go_wp2_with fail
      refine bodyPost_ret (results_tmp3 rfl _ _ _) rfl ?_
      exact ⟨ret3 HN.out.symm (by rw [HX.out]; try omega) E.out.symm, rfl⟩
/-- GetUint -/
theorem getUint_is {v : Value} (hv : By w v xs) (a : Int) (hl : xs.length ≤ 16777216) : Calls Try.prog 22 #[v, .int .i64 a] w (GuPost xs a w) := by
  by_cases ha : 0 ≤ a ∧ a ≤ xs.length
  · obtain ⟨m, rfl⟩ := Int.eq_ofNat_of_zero_le ha.1
    obtain ⟨A, c, rfl, hr, hz, hlc, hc, hu⟩ := hv
    have hm : m ≤ xs.length := by omega
    have hln : (xs.drop m).length = xs.length - m := List.length_drop
    have key : ∃ A', GuIn w xs A A' c (c - m) m (xs.length - m) (fi (xs.drop m)) (xs.drop m) := by
      have hA : ∃ A', Rd w A' (ints .u8 (xs.drop m)) ∧ Calls Try.prog 38 #[.slice A xs.length c, .int .i64 m] w fun e w' => e = .returned (.tuple #[.slice A' (xs.length - m) (c - m), .bool true]) ∧ w' = w := rest_at m hm hr hlc hc
      obtain ⟨A', h1, h2⟩ := hA
      exact ⟨A', h2, index8_is _ _ _ _ _ h1 (by omega) hln, h1, hu.drop m, hln, rfl, by omega, by unfold gE; rw [if_pos ha, Int.toNat_natCast], rfl⟩
    obtain ⟨A', h⟩ := key
    have hfl := fi_le (xs.drop m)
    have hle := h.ln
    rcases Nat.lt_or_ge (fi (xs.drop m)) (xs.length - m) with h1 | h1
    · rcases Nat.lt_or_ge (fi (xs.drop m)) 10 with h2 | h2
      · have hu2 := h.u.get (fi (xs.drop m))
        by_cases h9 : fi (xs.drop m) = 9
        · rw [h9] at hu2 h1
          by_cases x0 : (xs.drop m).getD 9 0 = 0
          · exact gu_nine0 _ _ _ _ _ _ _ _ h h1 h9 x0
          · by_cases x1 : 1 < (xs.drop m).getD 9 0
            · exact gu_nine _ _ _ _ _ _ _ _ h h1 h9 x1
            · exact gu_ok9 _ _ _ _ _ _ _ _ h h1 h9 (by omega)
        · by_cases h0 : fi (xs.drop m) = 0
          · exact gu_ok0 _ _ _ _ _ _ _ _ h (by omega) h0
          · by_cases x0 : (xs.drop m).getD (fi (xs.drop m)) 0 = 0
            · exact gu_zero _ _ _ _ _ _ _ _ h h1 (by omega) (by omega) x0
            · exact gu_ok _ _ _ _ _ _ _ _ h h1 (by omega) (by omega) x0
      · exact gu_far _ _ _ _ _ _ _ _ h h1 h2
    · rcases Nat.lt_or_ge (xs.length - m) 10 with h2 | h2
      · exact gu_short _ _ _ _ _ _ _ _ h (by omega) h2
      · exact gu_long _ _ _ _ _ _ _ _ h (by omega) h2
  · exact getUint_no hv a ha
end
end Go.Proofs.Ytdhcgghdimkdbaa
