/-
  The flash: Erase, Guard, Rewrite, Crash.
-/
import Derived.Test.YtmeegehmbphooaaNor5
namespace Go.Proofs.Ytmeegehmbphooaa
open Go.RowKit

theorem ones64_ints : ones64.toList = ints .u32 (List.replicate 64 4294967295) := by simp [ones64, ints, one32]
theorem splice_lay (xs : List Int) : ∀ (l : List Int) (i : Nat), i + xs.length ≤ l.length → NorS.lay l i xs = l.take i ++ xs ++ l.drop (i + xs.length) := by
  induction xs with
  | nil => intro l i h; simp [NorS.lay]
  | cons x r ih =>
    intro l i h
    have h' : i + 1 + r.length ≤ l.length := by simp at h; omega
    rw [NorS.lay, ih _ _ (by simpa using h')]
    have hi : i < l.length := by simp at h; omega
    rw [List.take_set, List.drop_set_of_lt (by omega)]
    have e : (l.take (i + 1)).set i x = l.take i ++ [x] := by
      rw [List.take_succ_eq_append_getElem hi, List.set_append_right _ _ (by simp; omega)]
      simp [Nat.min_eq_left (Nat.le_of_lt hi)]
    rw [e]
    simp [Nat.add_assoc, Nat.add_comm 1]

section
variable {w : World} {p q c : Nat} {s : NorS}
/-- some words are laid, by a row -/
theorem NorAt.laid (h : NorAt w p q c s) (i : Nat) (xs : List Int) (hx : U32 xs) (hi : i + xs.length ≤ s.l.length) (cur : Array Value) (hq : Blk w q 97 cur) :
    NorAt (w.setRow q (cur.toList.take i ++ ints .u32 xs ++ cur.toList.drop (i + (ints .u32 xs).length)).toArray) p q c { s with l := NorS.lay s.l i xs } := by
  have hl := h.ok.len
  refine ⟨h.blk.setRow_far _ h.ne, ?_, ⟨by rw [NorS.lay_length]; exact hl, h.ok.n1, h.ok.n2, h.ok.g0, h.ok.g1, h.ok.a0, h.ok.a1, h.ok.h0, h.ok.h1, NorS.lay_u32 xs hx _ _ h.ok.u⟩⟩
  rcases h.row.2 with ⟨e, _⟩ | ⟨g, cap, cur', e, h1, h2, h3, h4, h5, h6⟩
  · cases e
  · simp only [Value.slice.injEq, Option.some.injEq, Addr.mk.injEq, and_true, true_and] at e
    obtain ⟨rfl, rfl⟩ := e
    obtain ⟨rfl, -⟩ := Blk.inj (show Blk w q _ cur' from h2) hq
    have hs : s.n * 64 = s.l.length := by omega
    have hc6 : s.l.length ≤ cur'.size := by rw [h5]; omega
    rw [hs] at h6
    have h7 : cur'.toList.take i = ints .u32 (s.l.take i) := by
      rw [show ints .u32 (s.l.take i) = (ints .u32 s.l).take i from by simp [ints, List.map_take], ← h6, List.take_take, Nat.min_eq_left (by omega)]
    refine ⟨by show (ints .u32 (NorS.lay s.l i xs)).length = _; rw [ints_length, NorS.lay_length]; show _ = s.n * 64; omega, .inr ⟨q, c, _, rfl, h1, Blk.setRow (t := 97) h2 _, h3, h4, ?_, ?_⟩⟩
    · simp [ints_length]; omega
    · show List.take (s.n * 64) (_ : List Value) = ints .u32 (NorS.lay s.l i xs)
      rw [hs, splice_lay _ _ _ hi]
      simp only [ints, List.map_append, List.map_take, List.map_drop]
      rw [show (s.l.map (Value.int .u32)) = cur'.toList.take s.l.length from h6.symm]
      simp only [List.take_append, List.length_append, List.length_take, List.length_map, List.take_take, List.drop_take]
      have e1 : min i cur'.toList.length = i := by simp; omega
      simp only [e1]
      rw [show min s.l.length i = i from by omega, show min i s.l.length = i from by omega, List.take_of_length_le (l := xs.map _) (by simp; omega)]
theorem guard_is (h : NorAt w p q c s) : Calls Try.prog 60 #[.pointer (some ⟨p, 0, none⟩)] w fun e w' => e = .returned (.int .i64 s.guard) ∧ w = w' := by
  have h1 := h.c1
  have H := hide h
  clear h
  go_enter Try.func60, Try.ntmps60
  go_wp2_with (first
    | (go_at_call 51; refine (none_is H.out).mono ?_; rintro e w' ⟨rfl, rfl⟩))
  go_ret
  exact ⟨rfl, rfl⟩
theorem guard_no (v : Value) (h : NoNor w v) : Calls Try.prog 60 #[v] w fun e w' => e = .returned (.int .i64 0) ∧ w = w' := by
  have H := hide h
  clear h
  go_enter Try.func60, Try.ntmps60
  go_wp2_with (first
    | (go_at_call 51; refine (none_no _ _ H.out).mono ?_; rintro e w' ⟨rfl, rfl⟩))
  go_ret
  exact ⟨rfl, rfl⟩

theorem store_ones {w : World} {g off : Nat} (h : RowOk w g (off + 64)) : (storeCells ⟨g, off, none⟩ ones64.toList).run Try.prog w = .ok () (laidRow w g off ones64) :=
  run_storeCells_agg ones64_one h
theorem NorAt.rowOk {n : Nat} (h : NorAt w p q c s) (hn : n ≤ s.l.length) : RowOk w q n := by
  have hl := h.ok.len
  rcases h.row.2 with ⟨e, _⟩ | ⟨g, cap, cur', e, h1, h2, h3, h4, h5, h6⟩
  · cases e
  · simp only [Value.slice.injEq, Option.some.injEq, Addr.mk.injEq, and_true, true_and] at e
    obtain ⟨rfl, rfl⟩ := e
    exact ⟨cur', _, h2, by rw [h5]; omega⟩
attribute [local go_sem] store_ones
set_option maxRecDepth 100000 in
set_option maxHeartbeats 1000000 in
theorem erase_is (sec : Int) (h : NorAt w p q c s) :
    Calls Try.prog 75 #[.pointer (some ⟨p, 0, none⟩), .int .i64 sec] w fun e w' => e = .returned (.int .i64 (s.eraseE sec)) ∧ NorAt w' p q c (s.erase sec) ∧ Frm (Two p q) w w' := by
  by_cases hu : s.up sec 0 0 = 0
  · obtain ⟨-, i0, i1, -, -⟩ := NorS.up_zero hu
    obtain ⟨S, rfl⟩ := Int.eq_ofNat_of_zero_le i0
    have hu0 : (s.up S 0 0 != 0) = false := by rw [hu]; rfl
    by_cases hs : s.steps = true
    · have E : Hid (s.erase S = { s.step with l := NorS.lay s.l (NorS.at_ S 0) (List.replicate 64 4294967295) }) := by show _ = _; unfold NorS.erase; rw [if_pos hu, if_pos hs]
      have E' : Hid (s.eraseE S = 0) := by show _ = _; unfold NorS.eraseE; rw [if_pos hu, if_pos hs]
      have HU := hide hu
      have H := hide h
      clear h hu
      go_enter Try.func75, Try.ntmps75
      go_wp2_with (first
        | (go_at_call 70; refine (up_is _ _ _ H.out (by omega) (by omega)).mono ?_; rintro e w' ⟨rfl, rfl⟩)
        | (go_at_call 71; refine (step_is H.out).mono ?_; rintro e w1 ⟨rfl, hN1, hF1⟩; have hw0 := hN1.c0; have hsn := NorS.step_n s; rw [hsn] at hw0; have HN1 := hide hN1; clear hN1 hsn))
      have hl : s.step.l.length = 64 * s.n := by rw [NorS.step_l]; exact (Hid.out H).ok.len
      have hl0 : S * 64 + 64 ≤ s.step.l.length := by omega
      clear hl
      have hos : ones64.size = 64 := by kernel_rfl
      go_region_law (first
        | (go_simp; go_at_call 46; refine (blank_is _).mono ?_; rintro e w2 ⟨rfl, hF2⟩; have hN2 := (NorAt.drew HN1.out).frm hF2 (fun e => e) (fun e => e); have hw2 := hN2.c0; have hro := hN2.rowOk hl0; rw [NorS.step_n] at hw2; have HN2 := hide hN2; clear hN2))
      all_goals
        go_wp2
        go_ret
        have hN2 : NorAt w2 p q c s.step := HN2.out
        refine ⟨ret_int E'.out.symm, ?_, ((Frm.drew hF1).then_ hF2 (fun _ _ e => e.elim)).setRow (.inl (.inr rfl)) _⟩
        rw [E.out]
        obtain ⟨cs, hb⟩ := hN2.blkq
        have h3 := hN2.laid (NorS.at_ S 0) (List.replicate 64 4294967295) (fun x hx => by rw [List.eq_of_mem_replicate hx]; omega) (by simp [NorS.at_]; omega) cs hb
        rw [← ones64_ints] at h3
        have e1 : NorS.at_ S 0 = S * 64 := by simp [NorS.at_]
        rw [e1] at h3 ⊢
        rw [NorS.step_l] at h3
        show NorAt (w2.setRow q _) p q c _
        rw [rowOf_blk hb]
        exact h3
    · have E : Hid (s.erase S = { s.step with half := S }) := by show _ = _; unfold NorS.erase; rw [if_pos hu, if_neg hs]
      have E' : Hid (s.eraseE S = 40) := by show _ = _; unfold NorS.eraseE; rw [if_pos hu, if_neg hs]
      have hs0 : s.steps = false := by simpa using hs
      have HU := hide hu
      have H := hide h
      clear h hu hs
      go_enter Try.func75, Try.ntmps75
      go_wp2_with (first
        | (go_at_call 70; refine (up_is _ _ _ H.out (by omega) (by omega)).mono ?_; rintro e w' ⟨rfl, rfl⟩)
        | (go_at_call 71; refine (step_is H.out).mono ?_; rintro e w1 ⟨rfl, hN1, hF1⟩; have hw4 := hN1.c4; have hf4 := hN1.blk.frozen 4; have HN1 := hide hN1; clear hN1))
      go_ret
      refine ⟨ret_int E'.out.symm, ?_, hF1.setp _ _⟩
      rw [E.out]
      have hN1 : NorAt w1 p q c s.step := HN1.out
      have o := hN1.ok
      exact hN1.turn (hN1.blk.set_ 4 _) ((Frm.refl (One p) w1).set1 _ _) rfl rfl ⟨o.len, o.n1, o.n2, o.g0, o.g1, o.a0, o.a1, by show (-1 : Int) ≤ S; omega, by show (S : Int) < s.step.n; rw [NorS.step_n]; omega, o.u⟩
  · have E : Hid (s.erase sec = s) := by show _ = _; unfold NorS.erase; rw [if_neg hu]
    have E' : Hid (s.eraseE sec = s.up sec 0 0) := by show _ = _; unfold NorS.eraseE; rw [if_neg hu]
    have hu0 : (s.up sec 0 0 != 0) = true := by simpa using hu
    have H := hide h
    clear h hu
    go_enter Try.func75, Try.ntmps75
    go_wp2_with (first
      | (go_at_call 70; refine (up_is _ _ _ H.out (by omega) (by omega)).mono ?_; rintro e w' ⟨rfl, rfl⟩))
    go_ret
    exact ⟨ret_int E'.out.symm, by rw [E.out]; exact H.out, Frm.refl _ _⟩
theorem erase_no (sec : Int) (v : Value) (h : NoNor w v) : Calls Try.prog 75 #[v, .int .i64 sec] w fun e w' => e = .returned (.int .i64 1) ∧ w = w' := by
  have H := hide h
  clear h
  go_enter Try.func75, Try.ntmps75
  go_wp2_with (first
    | (go_at_call 70; refine (up_no _ _ _ _ H.out).mono ?_; rintro e w' ⟨rfl, rfl⟩))
  go_ret
  exact ⟨rfl, rfl⟩
end
end Go.Proofs.Ytmeegehmbphooaa
