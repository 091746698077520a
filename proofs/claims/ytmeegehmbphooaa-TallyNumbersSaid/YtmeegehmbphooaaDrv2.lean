/-
  The drive: Part, Erase, pieces.
-/
import Derived.Test.YtmeegehmbphooaaDrv1
namespace Go.Proofs.Ytmeegehmbphooaa
open Go.RowKit
section
variable {w : World} {g p q c : Nat} {s : NorS} {d : DrvS}
theorem dpart_is (a m : Nat) (h : DrvAt w g p d) (hd : d.first + d.many ≤ 1024) (hm : 1 ≤ m) (ham : a + m ≤ d.many) :
    Calls Try.prog 33 #[.pointer (some ⟨g, 0, none⟩), .int .i64 a, .int .i64 m] w fun e w' => ∃ g', e = .returned (.tuple #[.pointer (some ⟨g', 0, none⟩), .int .i64 0]) ∧ DrvAt w' g' p ⟨d.first + a, m⟩ ∧ w.heap.size ≤ g' ∧ Frm NoB w w' := by
  have c0 := h.c0; have c1 := h.c1; have c2 := h.c2
  have H := hide h
  clear h
  have e0 : withinB a m d.many = true := within_true (by omega)
  have E0 := hide e0
  have m1 : decide ((m : Int) < 1) = false := by simp; omega
  have hw1 : IntKind.i64.wrap ((d.first : Int) + a) = (d.first : Int) + a := IntWalk.i64_in _ (by omega)
  clear e0
  go_enter Try.func33, Try.ntmps33
  go_wp2_with (first
    | (go_at_call 65; refine (dnone_is H.out).mono ?_; rintro e w' ⟨rfl, rfl⟩)
    | (go_at_call 48; refine (within_is _ _ _ _ (by omega) (by omega)).mono ?_; rw [E0.out]; rintro e w' ⟨rfl, rfl⟩))
  go_region_held3 (fun w' => w'.cell? ⟨g, 0, none⟩ = some (.pointer (some ⟨p, 0, none⟩)) ∧ w'.cell? ⟨g, 1, none⟩ = some (.int .i64 d.first)) (go_keep) (fail)
  all_goals
    go_wp2
    go_ret2
    refine ⟨_, rfl, ⟨?_⟩, Nat.le_refl _, ((Frm.refl NoB w).drew).alloc _⟩
    exact Blk.new w.drew 87 (drvCells p ⟨d.first + a, m⟩)
theorem dpart_bad (a m : Int) (h : DrvAt w g p d) (hd : d.first + d.many ≤ 1024) (hb : ¬ (1 ≤ m ∧ 0 ≤ a ∧ a ≤ d.many ∧ m ≤ d.many - a)) :
    Calls Try.prog 33 #[.pointer (some ⟨g, 0, none⟩), .int .i64 a, .int .i64 m] w fun e w' => e = .returned (.tuple #[.pointer none, .int .i64 2]) ∧ w = w' := by
  have c0 := h.c0; have c1 := h.c1; have c2 := h.c2
  have H := hide h
  have HB := hide hb
  clear h hb
  by_cases hm : m < 1
  · go_enter Try.func33, Try.ntmps33
    go_wp2_with (first
      | (go_at_call 65; refine (dnone_is H.out).mono ?_; rintro e w' ⟨rfl, rfl⟩))
    go_ret2
    exact ⟨rfl, rfl⟩
  · have e0 : withinB a m d.many = false := within_false (by have := HB.out; omega)
    have E0 := hide e0
    clear e0
    go_enter Try.func33, Try.ntmps33
    go_wp2_with (first
      | (go_at_call 65; refine (dnone_is H.out).mono ?_; rintro e w' ⟨rfl, rfl⟩)
      | (go_at_call 48; refine (within_is _ _ _ _ (by omega) (by omega)).mono ?_; rw [E0.out]; rintro e w' ⟨rfl, rfl⟩))
    go_ret2
    exact ⟨rfl, rfl⟩
theorem dpart_no (a m : Int) (v : Value) (h : NoDrv w v) :
    Calls Try.prog 33 #[v, .int .i64 a, .int .i64 m] w fun e w' => e = .returned (.tuple #[.pointer none, .int .i64 1]) ∧ w = w' := by
  have H := hide h
  clear h
  go_enter Try.func33, Try.ntmps33
  go_wp2_with (go_at_call 65; refine (dnone_no _ _ H.out).mono ?_; rintro e w' ⟨rfl, rfl⟩)
  go_ret2
  exact ⟨rfl, rfl⟩
theorem derase_is (sec : Int) (h : DrvAt w g p d) (hn : NorAt w p q c s) (hd : d.first + d.many ≤ 1024) (_ : -9223372036854775808 ≤ sec) :
    Calls Try.prog 67 #[.pointer (some ⟨g, 0, none⟩), .int .i64 sec] w fun e w' => e = .returned (.int .i64 (d.erE s sec)) ∧ NorAt w' p q c (d.er s sec) ∧ Frm (Two p q) w w' := by
  have c0 := h.c0; have c1 := h.c1; have c2 := h.c2
  have H := hide h
  have HN := hide hn
  clear h hn
  by_cases hb : 0 ≤ sec ∧ sec < d.many
  · have E : Hid (d.er s sec = s.erase (d.first + sec)) := by show _ = _; unfold DrvS.er; rw [if_pos hb]
    have E' : Hid (d.erE s sec = s.eraseE (d.first + sec)) := by show _ = _; unfold DrvS.erE; rw [if_pos hb]
    obtain ⟨h0, h1⟩ := hb
    have hw1 : IntKind.i64.wrap ((d.first : Int) + sec) = (d.first : Int) + sec := IntWalk.i64_in _ (by omega)
    have HND := hide ((Hid.out HN).drew)
    go_enter Try.func67, Try.ntmps67
    go_wp2_with (first
      | (go_at_call 65; refine (dnone_is H.out).mono ?_; rintro e w' ⟨rfl, rfl⟩))
    go_region_held3 (fun w' => w'.cell? ⟨g, 0, none⟩ = some (.pointer (some ⟨p, 0, none⟩)) ∧ w'.cell? ⟨g, 1, none⟩ = some (.int .i64 d.first)) (go_keep)
      (first
        | (go_at_call 75; refine (erase_is _ HND.out).mono ?_; rintro e w1 ⟨rfl, hN1, hF1⟩; have D1 := H.out.frm (((Frm.refl _ w).drew).trans hF1) (H.out.two HN.out); have d0 := D1.c0; have d1 := D1.c1))
    all_goals
      have HN1 := hide hN1
      clear hN1 D1 d0 d1
      go_wp2
      go_ret
      exact ⟨ret_int E'.out.symm, by rw [E.out]; exact HN1.out, ((Frm.refl _ w).drew).trans hF1⟩
  · have E : Hid (d.er s sec = s) := by show _ = _; unfold DrvS.er; rw [if_neg hb]
    have E' : Hid (d.erE s sec = 2) := by show _ = _; unfold DrvS.erE; rw [if_neg hb]
    have hcs : sec < 0 ∨ (d.many : Int) ≤ sec := by omega
    clear hb
    by_cases h1 : sec < 0
    · go_enter Try.func67, Try.ntmps67
      go_wp2_with (first
        | (go_at_call 65; refine (dnone_is H.out).mono ?_; rintro e w' ⟨rfl, rfl⟩))
      go_ret
      exact ⟨ret_int E'.out.symm, by rw [E.out]; exact HN.out, Frm.refl _ _⟩
    · have h2 : (d.many : Int) ≤ sec := by omega
      go_enter Try.func67, Try.ntmps67
      go_wp2_with (first
        | (go_at_call 65; refine (dnone_is H.out).mono ?_; rintro e w' ⟨rfl, rfl⟩))
      go_ret
      exact ⟨ret_int E'.out.symm, by rw [E.out]; exact HN.out, Frm.refl _ _⟩
theorem derase_no (sec : Int) (v : Value) (h : NoDrv w v) :
    Calls Try.prog 67 #[v, .int .i64 sec] w fun e w' => e = .returned (.int .i64 1) ∧ w = w' := by
  have H := hide h
  clear h
  go_enter Try.func67, Try.ntmps67
  go_wp2_with (go_at_call 65; refine (dnone_no _ _ H.out).mono ?_; rintro e w' ⟨rfl, rfl⟩)
  go_ret
  exact ⟨rfl, rfl⟩
/-- the iterator of words from a place on: three boxes -/
theorem dpieces_is (a m : Int) (g : Nat) :
    Calls Try.prog 42 #[.pointer (some ⟨g, 0, none⟩), .int .i64 a, .int .i64 m] w fun e w' =>
      e = .returned (.func (.func 69) #[] #[.pointer (some ⟨w.heap.size + 2, 0, none⟩), .pointer (some ⟨w.heap.size + 1, 0, none⟩), .pointer (some ⟨w.heap.size, 0, none⟩)]) ∧
      w' = ((w.alloc (.cells #[.pointer (some ⟨g, 0, none⟩)] 24)).alloc (.cells #[.int .i64 a] 3)).alloc (.cells #[.int .i64 m] 3) := by
  go_enter Try.func42, Try.ntmps42
  go_wp2
  go_ret
  exact ⟨rfl, rfl⟩
end
end Go.Proofs.Ytmeegehmbphooaa
