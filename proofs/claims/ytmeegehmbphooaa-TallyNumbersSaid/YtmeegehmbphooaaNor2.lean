/-
  The flash: Read, Arm, Down, Sectors, Guard, Program, Erase.
-/
import Derived.Test.YtmeegehmbphooaaNor1
namespace Go.Proofs.Ytmeegehmbphooaa
open Go.RowKit

section
variable {w : World} {p q c : Nat} {s : NorS}

theorem read_is (sec k : Int) (h : NorAt w p q c s) :
    Calls Try.prog 43 #[.pointer (some ⟨p, 0, none⟩), .int .i64 sec, .int .i64 k] w fun e w' => e = .returned (.tuple #[.int .u32 (s.read sec k), .int .i64 (s.up sec k 1)]) ∧ w = w' := by
  have h0 := h.c0
  have hn := h.ok.n2
  by_cases hu : s.up sec k 1 = 0
  · obtain ⟨-, i0, i1, i2, i4⟩ := NorS.up_zero hu
    obtain ⟨S, rfl⟩ := Int.eq_ofNat_of_zero_le i0
    obtain ⟨K, rfl⟩ := Int.eq_ofNat_of_zero_le i2
    have hl := h.ok.len
    have hc := h.cell (S * 64 + K) (by omega)
    have E : Hid (s.read S K = s.wd (S * 64 + K)) := by
      show _ = _; unfold NorS.read; rw [if_pos hu]; rfl
    have hu0 : (s.up S K 1 != 0) = false := by rw [hu]; rfl
    have H := hide h
    have HU := hide hu
    clear h hu hl
    go_enter Try.func43, Try.ntmps43
    go_wp2_with (first
      | (go_at_call 70; refine (up_is _ _ _ H.out (by omega) (by omega)).mono ?_; rintro e w' ⟨rfl, rfl⟩))
    go_ret2
    exact ⟨ret_ii E.out.symm HU.out.symm, rfl⟩
  · have E : Hid (s.read sec k = 0) := by show _ = _; unfold NorS.read; rw [if_neg hu]
    have hu0 : (s.up sec k 1 != 0) = true := by simpa using hu
    have H := hide h
    clear h hu
    go_enter Try.func43, Try.ntmps43
    go_wp2_with (first
      | (go_at_call 70; refine (up_is _ _ _ H.out (by omega) (by omega)).mono ?_; rintro e w' ⟨rfl, rfl⟩))
    go_ret2
    exact ⟨ret_ii E.out.symm rfl, rfl⟩
theorem read_no (sec k : Int) (v : Value) (h : NoNor w v) :
    Calls Try.prog 43 #[v, .int .i64 sec, .int .i64 k] w fun e w' => e = .returned (.tuple #[.int .u32 0, .int .i64 1]) ∧ w = w' := by
  have H := hide h
  clear h
  go_enter Try.func43, Try.ntmps43
  go_wp2_with (first
    | (go_at_call 70; refine (up_no _ _ _ _ H.out).mono ?_; rintro e w' ⟨rfl, rfl⟩))
  go_ret2
  exact ⟨rfl, rfl⟩

theorem down_is (h : NorAt w p q c s) : Calls Try.prog 41 #[.pointer (some ⟨p, 0, none⟩)] w fun e w' => e = .returned (.bool s.down) ∧ w = w' := by
  have h3 := h.c3
  have H := hide h
  clear h
  go_enter Try.func41, Try.ntmps41
  go_wp2_with (first
    | (go_at_call 51; refine (none_is H.out).mono ?_; rintro e w' ⟨rfl, rfl⟩))
  go_ret
  exact ⟨rfl, rfl⟩
theorem down_no (v : Value) (h : NoNor w v) : Calls Try.prog 41 #[v] w fun e w' => e = .returned (.bool false) ∧ w = w' := by
  have H := hide h
  clear h
  go_enter Try.func41, Try.ntmps41
  go_wp2_with (first
    | (go_at_call 51; refine (none_no _ _ H.out).mono ?_; rintro e w' ⟨rfl, rfl⟩))
  go_ret
  exact ⟨rfl, rfl⟩

theorem sectors_is (h : NorAt w p q c s) : Calls Try.prog 47 #[.pointer (some ⟨p, 0, none⟩)] w fun e w' => e = .returned (.int .i64 s.n) ∧ w = w' := by
  have h0 := h.c0
  have H := hide h
  clear h
  go_enter Try.func47, Try.ntmps47
  go_wp2_with (first
    | (go_at_call 51; refine (none_is H.out).mono ?_; rintro e w' ⟨rfl, rfl⟩))
  go_ret
  exact ⟨rfl, rfl⟩
theorem sectors_no (v : Value) (h : NoNor w v) : Calls Try.prog 47 #[v] w fun e w' => e = .returned (.int .i64 0) ∧ w = w' := by
  have H := hide h
  clear h
  go_enter Try.func47, Try.ntmps47
  go_wp2_with (first
    | (go_at_call 51; refine (none_no _ _ H.out).mono ?_; rintro e w' ⟨rfl, rfl⟩))
  go_ret
  exact ⟨rfl, rfl⟩

theorem arm_is (k : Int) (h : NorAt w p q c s) (hk : k ≤ 9223372036854775807) :
    Calls Try.prog 19 #[.pointer (some ⟨p, 0, none⟩), .int .i64 k] w fun e w' => e = .returned (.tuple #[]) ∧ NorAt w' p q c (s.arms k) ∧ Frm (Two p q) w w' := by
  have h2 := h.c2
  have h3 := h.c3
  have f2 := h.blk.frozen 2
  by_cases hd : s.down = true
  · have E : Hid (s.arms k = s) := by show _ = _; unfold NorS.arms; rw [if_pos hd]
    have hd0 : (!s.down) = false := by rw [hd]; rfl
    have H := hide h
    clear h hd
    go_enter Try.func19, Try.ntmps19
    go_wp2_with (first
      | (go_at_call 51; refine (none_is H.out).mono ?_; rintro e w' ⟨rfl, rfl⟩))
    go_end0
    exact ⟨rfl, by rw [E.out]; exact H.out, Frm.refl _ _⟩
  · have E : Hid (s.arms k = { s with arm := max k 0 }) := by show _ = _; unfold NorS.arms; rw [if_neg hd]
    have hd0 : (!s.down) = true := by simpa using hd
    have O : Hid ({ s with arm := max k 0 } : NorS).Ok := ⟨h.ok.len, h.ok.n1, h.ok.n2, h.ok.g0, h.ok.g1, by show -1 ≤ max _ _; omega, by show max _ _ ≤ _; omega, h.ok.h0, h.ok.h1, h.ok.u⟩
    have H := hide h
    clear h hd
    go_enter Try.func19, Try.ntmps19
    go_wp2_with (first
      | (go_at_call 51; refine (none_is H.out).mono ?_; rintro e w' ⟨rfl, rfl⟩))
    all_goals
      go_end0
      refine ⟨rfl, ?_, (Frm.refl _ w).setp _ _⟩
      have o := O.out
      rw [E.out]
      have em : max k 0 = (if k < 0 then 0 else k) := by split <;> omega
      rw [em] at o ⊢
      first | rw [if_pos ‹_›] at o ⊢ | rw [if_neg (by omega)] at o ⊢
      exact H.out.turn (H.out.blk.set_ 2 _) ((Frm.refl (One p) w).set1 _ _) rfl rfl o
theorem arm_no (k : Int) (v : Value) (h : NoNor w v) : Calls Try.prog 19 #[v, .int .i64 k] w fun e w' => e = .returned (.tuple #[]) ∧ w = w' := by
  have H := hide h
  clear h
  go_enter Try.func19, Try.ntmps19
  go_wp2_with (first
    | (go_at_call 51; refine (none_no _ _ H.out).mono ?_; rintro e w' ⟨rfl, rfl⟩))
  go_end0
  exact ⟨rfl, rfl⟩

end
end Go.Proofs.Ytmeegehmbphooaa
