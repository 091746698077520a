/-
  Texts of this claim, joined: Nor1, Nor2, Nor3, Nor4, Nor5, Nor6, Nor7, Nor8, AndP.
-/
import Derived.Deep.RegionHeld3
import Derived.Deep.AppendLies
import Derived.Deep.RegionLaw
import Derived.Deep.DeepMust
import Derived.Laws.CopyOwn
import Derived.Test.YtiapoalkkhpmlaaCelJ0
/-
  The flash: how it lies in memory, and the walks of what only reads it, and of a step.
-/
namespace Go.Proofs.Ytiapoalkkhpmlaa
open Go.RowKit

/-- A flash in memory: its struct in block p, its sectors in block q. -/
structure NorAt (w : World) (p q c : Nat) (s : NorS) : Prop where
  blk : Blk w p 105 #[.slice (some ⟨q, 0, none⟩) s.n c, .int .i64 s.guard, .int .i64 s.arm, .bool s.down, .int .i64 s.half]
  row : w.ownsRow 0 107 64 (.slice (some ⟨q, 0, none⟩) s.n c) s.n (ints .u32 s.l)
  ok : s.Ok
/-- No flash. -/
def NoNor (w : World) (v : Value) : Prop := v = .pointer none ∨ ∃ p A c, v = .pointer (some ⟨p, 0, none⟩) ∧ w.cell? ⟨p, 0, none⟩ = some (.slice A 0 c)

namespace NorAt
variable {w w' : World} {p q c : Nat} {s : NorS}
theorem cell (h : NorAt w p q c s) (i : Nat) (hi : i < s.l.length) : w.cell? ⟨q, i, none⟩ = some (.int .u32 (s.wd i)) := by
  have hl := h.ok.len
  rw [h.row.cellAt i (by omega), ints_get hi]; rfl
theorem free (h : NorAt w p q c s) (i : Nat) : w.frozen? ⟨q, i, none⟩ = false := h.row.frozenAt i
theorem ltq (h : NorAt w p q c s) : q < w.heap.size := (h.row.lt q rfl).2
theorem ltp (h : NorAt w p q c s) : p < w.heap.size := h.blk.lt
theorem blkq (h : NorAt w p q c s) : ∃ cs, Blk w q 107 cs := by
  rcases h.row.2 with ⟨e, _⟩ | ⟨g, cap, cur, e, _, hb, _⟩
  · cases e
  · simp only [Value.slice.injEq, Option.some.injEq, Addr.mk.injEq, and_true, true_and] at e
    obtain ⟨rfl, rfl⟩ := e
    exact ⟨cur, hb⟩
theorem ne (h : NorAt w p q c s) : p ≠ q := by
  rintro rfl
  obtain ⟨cs, hb⟩ := h.blkq
  exact absurd (h.blk.inj hb).2 (by decide)
theorem frm {S : Nat → Prop} (h : NorAt w p q c s) (hb : Frm S w w') (hp : ¬ S p) (hq : ¬ S q) : NorAt w' p q c s := by
  refine ⟨h.blk.frm hb hp, ⟨h.row.1, ?_⟩, h.ok⟩
  rcases h.row.2 with h1 | ⟨g, cap, cur, e, h1, h2, h3⟩
  · exact .inl h1
  · simp only [Value.slice.injEq, Option.some.injEq, Addr.mk.injEq, and_true, true_and] at e
    obtain ⟨rfl, rfl⟩ := e
    exact .inr ⟨q, c, cur, rfl, h1, (hb.block q h.ltq hq).trans h2, h3⟩
/-- its struct has turned -/
theorem turn {s' : NorS} (h : NorAt w p q c s) (hb : Blk w' p 105 #[.slice (some ⟨q, 0, none⟩) s'.n c, .int .i64 s'.guard, .int .i64 s'.arm, .bool s'.down, .int .i64 s'.half])
    (hf : Frm (One p) w w') (hn : s'.n = s.n) (hl : s'.l = s.l) (ok : s'.Ok) : NorAt w' p q c s' := by
  refine ⟨hb, ⟨by rw [hn, hl]; exact h.row.1, ?_⟩, ok⟩
  rw [hn, hl]
  rcases h.row.2 with h1 | ⟨g, cap, cur, e, h1, h2, h3⟩
  · exact .inl h1
  · simp only [Value.slice.injEq, Option.some.injEq, Addr.mk.injEq, and_true, true_and] at e
    obtain ⟨rfl, rfl⟩ := e
    exact .inr ⟨q, c, cur, rfl, h1, (hf.block q h.ltq (show ¬ q = p from h.ne.symm)).trans h2, h3⟩
theorem drewN (h : NorAt w p q c s) (n : Nat) : NorAt (w.drewN n) p q c s := ⟨h.blk, h.row, h.ok⟩
theorem drew (h : NorAt w p q c s) : NorAt w.drew p q c s := ⟨h.blk, h.row, h.ok⟩
theorem alloc (h : NorAt w p q c s) (o : Obj) : NorAt (w.alloc o) p q c s := h.frm ((Frm.refl NoB w).alloc o) (fun e => e) (fun e => e)
/-- a word is stored -/
theorem stored (h : NorAt w p q c s) (i : Nat) {x : Int} (hx : 0 ≤ x ∧ x < 4294967296) :
    NorAt (w.setCell ⟨q, i, none⟩ (.int .u32 x)) p q c (s.put i x) := by
  have h1 := (h.row.stored i (.int .u32 x)).1
  refine ⟨h.blk.far (p := ⟨q, i, none⟩) h.ne _, ?_, h.ok.put i hx⟩
  have e : ints .u32 (s.put i x).l = (ints .u32 s.l).set i (.int .u32 x) := by simp [ints, NorS.put, List.map_set]
  rw [e]
  exact h1
theorem frm_stored (_ : NorAt w p q c s) (i : Nat) (u : Value) : Frm (Two p q) w (w.setCell ⟨q, i, none⟩ u) := (Frm.refl _ w).setCell (.inl (.inr rfl)) u
theorem c0 (h : NorAt w p q c s) : w.cell? ⟨p, 0, none⟩ = some (.slice (some ⟨q, 0, none⟩) s.n c) := h.blk.cell 0
theorem c1 (h : NorAt w p q c s) : w.cell? ⟨p, 1, none⟩ = some (.int .i64 s.guard) := h.blk.cell 1
theorem c2 (h : NorAt w p q c s) : w.cell? ⟨p, 2, none⟩ = some (.int .i64 s.arm) := h.blk.cell 2
theorem c3 (h : NorAt w p q c s) : w.cell? ⟨p, 3, none⟩ = some (.bool s.down) := h.blk.cell 3
theorem c4 (h : NorAt w p q c s) : w.cell? ⟨p, 4, none⟩ = some (.int .i64 s.half) := h.blk.cell 4
theorem n0 (h : NorAt w p q c s) : (((s.n : Nat) : Int) == 0) = false := by have := h.ok.n1; rw [beq_eq_false_iff_ne]; omega
end NorAt

theorem none_no (v : Value) (w : World) (h : NoNor w v) : Calls Try.prog 54 #[v] w fun e w' => e = .returned (.bool true) ∧ w = w' := by
  rcases h with rfl | ⟨p, A, c, rfl, hc⟩
  all_goals
    go_enter Try.func54, Try.ntmps54
    go_wp2
    go_ret
    exact ⟨rfl, rfl⟩

section
variable {w : World} {p q c : Nat} {s : NorS}
theorem none_is (h : NorAt w p q c s) : Calls Try.prog 54 #[.pointer (some ⟨p, 0, none⟩)] w fun e w' => e = .returned (.bool false) ∧ w = w' := by
  have h0 := h.c0
  have hn := h.n0
  clear h
  go_enter Try.func54, Try.ntmps54
  go_wp2
  go_ret
  exact ⟨rfl, rfl⟩

set_option maxHeartbeats 400000 in
theorem there_is (sec k m : Int) (h : NorAt w p q c s) (hm : 0 ≤ m) (hm2 : m ≤ 9223372036854775807) :
    Calls Try.prog 55 #[.pointer (some ⟨p, 0, none⟩), .int .i64 sec, .int .i64 k, .int .i64 m] w fun e w' => e = .returned (.bool (s.there sec k m)) ∧ w = w' := by
  have h0 := h.c0
  have hn := h.ok.n2
  have ht : Hid (∀ b, s.there sec k m = b ↔ (decide (0 ≤ sec) && decide (sec < s.n) && decide (0 ≤ k) && decide (m ≤ 64) && decide (k ≤ 64 - m)) = b) := fun b => Iff.rfl
  clear h
  go_enter Try.func55, Try.ntmps55
  go_wp2
  all_goals
    go_ret
    refine ⟨ret_bool (((ht.out _).2 ?_).symm), rfl⟩
    rw [Bool.eq_iff_iff]
    simp
    try omega

set_option maxHeartbeats 400000 in
theorem up_is (sec k m : Int) (h : NorAt w p q c s) (hm : 0 ≤ m) (hm2 : m ≤ 9223372036854775807) :
    Calls Try.prog 77 #[.pointer (some ⟨p, 0, none⟩), .int .i64 sec, .int .i64 k, .int .i64 m] w fun e w' => e = .returned (.int .i64 (s.up sec k m)) ∧ w = w' := by
  have h3 := h.c3
  have ht : Hid (s.up sec k m = if s.down = true then 40 else if s.there sec k m = true then 0 else 2) := rfl
  have H := hide h
  clear h
  go_enter Try.func77, Try.ntmps77
  go_wp2_with (first
    | (go_at_call 54; refine (none_is H.out).mono ?_; rintro e w' ⟨rfl, rfl⟩)
    | (go_at_call 55; refine (there_is _ _ _ H.out hm hm2).mono ?_; rintro e w' ⟨rfl, rfl⟩))
  all_goals
    go_ret
    refine ⟨ret_int ?_, rfl⟩
    rw [ht.out]
    simp_all

theorem up_no (sec k m : Int) (v : Value) (h : NoNor w v) :
    Calls Try.prog 77 #[v, .int .i64 sec, .int .i64 k, .int .i64 m] w fun e w' => e = .returned (.int .i64 1) ∧ w = w' := by
  have H := hide h
  clear h
  go_enter Try.func77, Try.ntmps77
  go_wp2_with (first
    | (go_at_call 54; refine (none_no _ _ H.out).mono ?_; rintro e w' ⟨rfl, rfl⟩))
  go_ret
  exact ⟨rfl, rfl⟩

/-- a step -/
theorem step_is (h : NorAt w p q c s) :
    Calls Try.prog 85 #[.pointer (some ⟨p, 0, none⟩)] w fun e w' => e = .returned (.bool s.steps) ∧ NorAt w' p q c s.step ∧ Frm (Two p q) w w' := by
  have h2 := h.c2
  have h3 := h.c3
  have f2 := h.blk.frozen 2
  have f3 := h.blk.frozen 3
  have ha := h.ok.a0
  have hb := h.ok.a1
  have H := hide h
  clear h
  by_cases h0 : s.arm = 0
  · have e0 : (s.arm == 0) = true := by simp [h0]
    have E : Hid (s.step = { s with down := true, arm := -1 }) := by show _ = _; unfold NorS.step; rw [if_pos h0]
    have Es : Hid (s.steps = false) := by show _ = _; unfold NorS.steps; rw [e0]; rfl
    clear h0
    go_enter Try.func85, Try.ntmps85
    go_wp2
    go_ret
    refine ⟨ret_bool Es.out.symm, ?_, ((Frm.refl _ w).setCell (.inl (.inl rfl)) _).setCell (.inl (.inl rfl)) _⟩
    have o := H.out.ok.step
    rw [E.out] at o ⊢
    exact H.out.turn ((H.out.blk.set_ 3 (.bool true)).set_ 2 (.int .i64 (-1))) (((Frm.refl (One p) w).set1 _ _).set1 _ _) rfl rfl o
  · have e0 : (s.arm == 0) = false := by simp [h0]
    have E : Hid (s.step = { s with arm := max (s.arm - 1) (-1) }) := by show _ = _; unfold NorS.step; rw [if_neg h0]
    have Es : Hid (s.steps = true) := by show _ = _; unfold NorS.steps; rw [e0]; rfl
    clear h0
    go_enter Try.func85, Try.ntmps85
    go_wp2
    all_goals
      go_ret
      refine ⟨ret_bool Es.out.symm, ?_, (Frm.refl _ w).setCell (.inl (.inl rfl)) _⟩
      have o := H.out.ok.step
      rw [E.out] at o ⊢
      have em : max (s.arm - 1) (-1) = (if s.arm - 1 < -1 then -1 else s.arm - 1) := by split <;> omega
      rw [em] at o ⊢
      first | rw [if_pos h] at o ⊢ | rw [if_neg (by omega)] at o ⊢
      exact H.out.turn (H.out.blk.set_ 2 _) ((Frm.refl (One p) w).set1 _ _) rfl rfl o
end
end Go.Proofs.Ytiapoalkkhpmlaa

/-
  The flash: Read, Arm, Down, Sectors, Guard, Program, Erase.
-/
namespace Go.Proofs.Ytiapoalkkhpmlaa
open Go.RowKit

section
variable {w : World} {p q c : Nat} {s : NorS}

theorem read_is (sec k : Int) (h : NorAt w p q c s) :
    Calls Try.prog 49 #[.pointer (some ⟨p, 0, none⟩), .int .i64 sec, .int .i64 k] w fun e w' => e = .returned (.tuple #[.int .u32 (s.read sec k), .int .i64 (s.up sec k 1)]) ∧ w = w' := by
  have h0 := h.c0
  have hn := h.ok.n2
  by_cases hu : s.up sec k 1 = 0
  · obtain ⟨-, i0, i1, i2, i4⟩ := NorS.up_zero hu
    obtain ⟨S, rfl⟩ := Int.eq_ofNat_of_zero_le i0
    obtain ⟨K, rfl⟩ := Int.eq_ofNat_of_zero_le i2
    have hl := h.ok.len
    have hc := h.cell (S * 64 + K) (by omega)
    have E : Hid (s.read S K = s.wd (S * 64 + K)) := by
      show _ = _; unfold NorS.read; rw [if_pos hu]; rfl
    have hu0 : (s.up S K 1 != 0) = false := by rw [hu]; rfl
    have H := hide h
    have HU := hide hu
    clear h hu hl
    go_enter Try.func49, Try.ntmps49
    go_wp2_with (first
      | (go_at_call 77; refine (up_is _ _ _ H.out (by omega) (by omega)).mono ?_; rintro e w' ⟨rfl, rfl⟩))
    go_ret2
    exact ⟨ret_ii E.out.symm HU.out.symm, rfl⟩
  · have E : Hid (s.read sec k = 0) := by show _ = _; unfold NorS.read; rw [if_neg hu]
    have hu0 : (s.up sec k 1 != 0) = true := by simpa using hu
    have H := hide h
    clear h hu
    go_enter Try.func49, Try.ntmps49
    go_wp2_with (first
      | (go_at_call 77; refine (up_is _ _ _ H.out (by omega) (by omega)).mono ?_; rintro e w' ⟨rfl, rfl⟩))
    go_ret2
    exact ⟨ret_ii E.out.symm rfl, rfl⟩
theorem read_no (sec k : Int) (v : Value) (h : NoNor w v) :
    Calls Try.prog 49 #[v, .int .i64 sec, .int .i64 k] w fun e w' => e = .returned (.tuple #[.int .u32 0, .int .i64 1]) ∧ w = w' := by
  have H := hide h
  clear h
  go_enter Try.func49, Try.ntmps49
  go_wp2_with (first
    | (go_at_call 77; refine (up_no _ _ _ _ H.out).mono ?_; rintro e w' ⟨rfl, rfl⟩))
  go_ret2
  exact ⟨rfl, rfl⟩

theorem down_is (h : NorAt w p q c s) : Calls Try.prog 47 #[.pointer (some ⟨p, 0, none⟩)] w fun e w' => e = .returned (.bool s.down) ∧ w = w' := by
  have h3 := h.c3
  have H := hide h
  clear h
  go_enter Try.func47, Try.ntmps47
  go_wp2_with (first
    | (go_at_call 54; refine (none_is H.out).mono ?_; rintro e w' ⟨rfl, rfl⟩))
  go_ret
  exact ⟨rfl, rfl⟩
theorem down_no (v : Value) (h : NoNor w v) : Calls Try.prog 47 #[v] w fun e w' => e = .returned (.bool false) ∧ w = w' := by
  have H := hide h
  clear h
  go_enter Try.func47, Try.ntmps47
  go_wp2_with (first
    | (go_at_call 54; refine (none_no _ _ H.out).mono ?_; rintro e w' ⟨rfl, rfl⟩))
  go_ret
  exact ⟨rfl, rfl⟩

theorem sectors_is (h : NorAt w p q c s) : Calls Try.prog 57 #[.pointer (some ⟨p, 0, none⟩)] w fun e w' => e = .returned (.int .i64 s.n) ∧ w = w' := by
  have h0 := h.c0
  have H := hide h
  clear h
  go_enter Try.func57, Try.ntmps57
  go_wp2_with (first
    | (go_at_call 54; refine (none_is H.out).mono ?_; rintro e w' ⟨rfl, rfl⟩))
  go_ret
  exact ⟨rfl, rfl⟩
theorem sectors_no (v : Value) (h : NoNor w v) : Calls Try.prog 57 #[v] w fun e w' => e = .returned (.int .i64 0) ∧ w = w' := by
  have H := hide h
  clear h
  go_enter Try.func57, Try.ntmps57
  go_wp2_with (first
    | (go_at_call 54; refine (none_no _ _ H.out).mono ?_; rintro e w' ⟨rfl, rfl⟩))
  go_ret
  exact ⟨rfl, rfl⟩

theorem arm_is (k : Int) (h : NorAt w p q c s) (hk : k ≤ 9223372036854775807) :
    Calls Try.prog 24 #[.pointer (some ⟨p, 0, none⟩), .int .i64 k] w fun e w' => e = .returned (.tuple #[]) ∧ NorAt w' p q c (s.arms k) ∧ Frm (Two p q) w w' := by
  have h2 := h.c2
  have h3 := h.c3
  have f2 := h.blk.frozen 2
  by_cases hd : s.down = true
  · have E : Hid (s.arms k = s) := by show _ = _; unfold NorS.arms; rw [if_pos hd]
    have hd0 : (!s.down) = false := by rw [hd]; rfl
    have H := hide h
    clear h hd
    go_enter Try.func24, Try.ntmps24
    go_wp2_with (first
      | (go_at_call 54; refine (none_is H.out).mono ?_; rintro e w' ⟨rfl, rfl⟩))
    go_end0
    exact ⟨rfl, by rw [E.out]; exact H.out, Frm.refl _ _⟩
  · have E : Hid (s.arms k = { s with arm := max k 0 }) := by show _ = _; unfold NorS.arms; rw [if_neg hd]
    have hd0 : (!s.down) = true := by simpa using hd
    have O : Hid ({ s with arm := max k 0 } : NorS).Ok := ⟨h.ok.len, h.ok.n1, h.ok.n2, h.ok.g0, h.ok.g1, by show -1 ≤ max _ _; omega, by show max _ _ ≤ _; omega, h.ok.h0, h.ok.h1, h.ok.u⟩
    have H := hide h
    clear h hd
    go_enter Try.func24, Try.ntmps24
    go_wp2_with (first
      | (go_at_call 54; refine (none_is H.out).mono ?_; rintro e w' ⟨rfl, rfl⟩))
    all_goals
      go_end0
      refine ⟨rfl, ?_, (Frm.refl _ w).setp _ _⟩
      have o := O.out
      rw [E.out]
      have em : max k 0 = (if k < 0 then 0 else k) := by split <;> omega
      rw [em] at o ⊢
      first | rw [if_pos ‹_›] at o ⊢ | rw [if_neg (by omega)] at o ⊢
      exact H.out.turn (H.out.blk.set_ 2 _) ((Frm.refl (One p) w).set1 _ _) rfl rfl o
theorem arm_no (k : Int) (v : Value) (h : NoNor w v) : Calls Try.prog 24 #[v, .int .i64 k] w fun e w' => e = .returned (.tuple #[]) ∧ w = w' := by
  have H := hide h
  clear h
  go_enter Try.func24, Try.ntmps24
  go_wp2_with (first
    | (go_at_call 54; refine (none_no _ _ H.out).mono ?_; rintro e w' ⟨rfl, rfl⟩))
  go_end0
  exact ⟨rfl, rfl⟩

end
end Go.Proofs.Ytiapoalkkhpmlaa

/-
  The flash: Program.
-/
namespace Go.Proofs.Ytiapoalkkhpmlaa
open Go.RowKit

section
variable {w : World} {p q c : Nat} {s : NorS}
set_option maxHeartbeats 1000000 in
theorem program_is (sec k : Int) (A : Option Addr) (cp : Nat) (xs : List Int) (h : NorAt w p q c s) (hx : Rd w A (ints .u32 xs)) (hA : xs ≠ [] → ∀ a, A = some a → ¬ Two p q a.block) (ux : U32 xs) (hm : (xs.length : Int) ≤ 9223372036854775807) :
    Calls Try.prog 74 #[.pointer (some ⟨p, 0, none⟩), .int .i64 sec, .int .i64 k, .slice A xs.length cp] w fun e w' => e = .returned (.int .i64 (s.programE sec k xs)) ∧ NorAt w' p q c (s.program sec k xs) ∧ Frm (Two p q) w w' := by
  have hn := h.ok.n2
  by_cases hu : s.up sec k xs.length = 0
  · obtain ⟨-, i0, i1, i2, i4⟩ := NorS.up_zero hu
    obtain ⟨S, rfl⟩ := Int.eq_ofNat_of_zero_le i0
    obtain ⟨K, rfl⟩ := Int.eq_ofNat_of_zero_le i2
    have hu0 : (s.up S K xs.length != 0) = false := by rw [hu]; rfl
    have E : Hid (s.program S K xs = s.prog (S * 64 + K) xs) := by show _ = _; unfold NorS.program; rw [if_pos hu]; rfl
    have E' : Hid (s.programE S K xs = if s.progs xs = true then 0 else 40) := by show _ = _; unfold NorS.programE; rw [if_pos hu]
    have H := hide h
    have HU := hide hu
    clear h hu
    go_enter Try.func74, Try.ntmps74
    go_wp2_with (first
      | (go_at_call 77; refine (up_is _ _ _ H.out (by omega) (by omega)).mono ?_; rintro e w' ⟨rfl, rfl⟩))
    go_loopw [23] (fun i wr => ∃ (j : Nat) (s' : NorS), j ≤ xs.length ∧ i = .int .i64 j ∧ NorAt wr p q c s' ∧ Frm (Two p q) w wr ∧ s'.n = s.n ∧ s.prog (S * 64 + K) xs = s'.prog (S * 64 + K + j) (xs.drop j) ∧ s.progs xs = s'.progs (xs.drop j)) (fun i _ => xs.length - (intOf i).toNat)
    case atStart => exact ⟨0, s, by omega, rfl, H.out, Frm.refl _ _, rfl, rfl, rfl⟩
    case round =>
      obtain ⟨j, s', hj, rfl, hN, hF, hns, hp1, hp2⟩ := hrel
      have hns' : s'.n ≤ s.n := by omega
      have hns2 : s.n ≤ s'.n := by omega
      have HP1 := hide hp1
      have HP2 := hide hp2
      have HNs := hide hns
      clear hp1 hp2 hns
      by_cases hlt : j < xs.length
      · obtain ⟨b, o, rfl, hc⟩ := hx (ints_ne (by intro e; subst e; simp at hlt))
        have hcj : wr.cell? ⟨b, o + j, none⟩ = some (.int .u32 (xs.getD j 0)) := by
          have h1 := hc j _ (ints_get hlt)
          rw [hF.cell (World.block_lt_of_cell? w _ h1) (show ¬ Two p q b from hA (by intro e; subst e; simp at hlt) _ rfl)]; exact h1
        have hd : Hid (xs.drop j = xs.getD j 0 :: xs.drop (j + 1)) := by
          show _ = _
          rw [List.drop_eq_getElem_cons hlt]; simp [hlt]
        have hb := ux.get j
        have U := hide ux
        clear hx hA hc ux
        generalize xs.getD j 0 = x at hcj hd hb
        obtain ⟨hb0, hb1⟩ := hb
        have HN := hide hN
        clear hN
        by_cases hs : s'.steps = true
        · have Es : Hid (s'.steps = true) := hs
          have hl' := (HN.out : NorAt wr p q c s').ok.len
          have hi : S * 64 + (K + j) < s'.step.l.length := by rw [NorS.step_l]; omega
          clear hl'
          go_wp2_with (first
            | (go_at_call 85; refine (step_is HN.out).mono ?_; rintro e w1 ⟨rfl, hN1, hF1⟩; have hw0 := hN1.c0; have hcl := hN1.cell (S * 64 + (K + j)) hi; have hfr := hN1.free (S * 64 + (K + j)); have hsn := NorS.step_n s'; rw [hsn] at hw0; have HN1 := hide hN1; clear hN1 hsn))
          go_region
          go_wp2
          go_roundw
          case rel =>
            have hb := (HN1.out : NorAt w1 p q c s'.step).ok.wd (S * 64 + (K + j))
            have eb : bits BinOp.and IntKind.u32 (s'.step.wd (S * 64 + (K + j))) x = wand (s'.wd (S * 64 + K + j)) x := by
              rw [u32_and _ _ hb.1 hb.2 hb0 hb1]
              unfold wand NorS.wd
              rw [NorS.step_l, Nat.add_assoc]
            rw [eb]
            have hw := (HN.out : NorAt wr p q c s').ok.wd (S * 64 + K + j)
            have h1 := ((HN1.out : NorAt w1 p q c s'.step).stored (S * 64 + (K + j)) (wand_u32 hw (b := x))).drew
            refine ⟨j + 1, s'.step.put (S * 64 + (K + j)) (wand (s'.wd (S * 64 + K + j)) x), by omega, by go_num, h1, ((hF.trans hF1).setq _ _).drew, (NorS.step_n s').trans HNs.out, ?_, ?_⟩
            · rw [HP1.out, hd.out]
              show (if s'.steps = true then _ else _) = _
              rw [if_pos Es.out, Nat.add_assoc (S * 64) K j, Nat.add_assoc (S * 64) K (j + 1), Nat.add_assoc (S * 64) (K + j) 1]
              rfl
            · rw [HP2.out, hd.out]
              show (if s'.steps = true then _ else _) = _
              rw [if_pos Es.out, NorS.progs_put]
          case measure => simp [intOf]; omega
        · have hs0 : s'.steps = false := by simpa using hs
          have Es : Hid (s'.steps = false) := hs0
          clear hs
          go_wp2_with (first
            | (go_at_call 85; refine (step_is HN.out).mono ?_; rintro e w1 ⟨rfl, hN1, hF1⟩; have HN1 := hide hN1; clear hN1))
          go_ret
          have e1 : s.prog (S * 64 + K) xs = s'.step := by
            rw [HP1.out, hd.out]
            show (if s'.steps = true then _ else _) = _
            rw [Es.out]; rfl
          have e2 : s.progs xs = false := by
            rw [HP2.out, hd.out]
            show (if s'.steps = true then _ else _) = _
            rw [Es.out]; rfl
          exact ⟨ret_int (by rw [E'.out, e2]; rfl), by rw [E.out, e1]; exact HN1.out, hF.trans hF1⟩
      · have ej : j = xs.length := by omega
        subst ej
        have HN := hide hN
        clear hN hx hA ux
        go_wp2
        go_ret
        have e0 : xs.drop xs.length = [] := List.drop_length
        have e1 : s.prog (S * 64 + K) xs = s' := by rw [HP1.out, e0]; rfl
        have e2 : s.progs xs = true := by rw [HP2.out, e0]; rfl
        exact ⟨ret_int (by rw [E'.out, e2]; rfl), by rw [E.out, e1]; exact HN.out, hF⟩
  · have E : Hid (s.program sec k xs = s) := by show _ = _; unfold NorS.program; rw [if_neg hu]
    have E' : Hid (s.programE sec k xs = s.up sec k xs.length) := by show _ = _; unfold NorS.programE; rw [if_neg hu]
    have hu0 : (s.up sec k xs.length != 0) = true := by simpa using hu
    have H := hide h
    clear h hu hx hA ux
    go_enter Try.func74, Try.ntmps74
    go_wp2_with (first
      | (go_at_call 77; refine (up_is _ _ _ H.out (by omega) (by omega)).mono ?_; rintro e w' ⟨rfl, rfl⟩))
    go_ret
    exact ⟨ret_int E'.out.symm, by rw [E.out]; exact H.out, Frm.refl _ _⟩
theorem program_no (sec k : Int) (A : Option Addr) (cp n : Nat) (v : Value) (h : NoNor w v) :
    Calls Try.prog 74 #[v, .int .i64 sec, .int .i64 k, .slice A n cp] w fun e w' => e = .returned (.int .i64 1) ∧ w = w' := by
  have H := hide h
  clear h
  go_enter Try.func74, Try.ntmps74
  go_wp2_with (first
    | (go_at_call 77; refine (up_no _ _ _ _ H.out).mono ?_; rintro e w' ⟨rfl, rfl⟩))
  go_ret
  exact ⟨rfl, rfl⟩
end
end Go.Proofs.Ytiapoalkkhpmlaa

/-
  The flash: blank.
-/
namespace Go.Proofs.Ytiapoalkkhpmlaa
open Go.RowKit
def one32 : Value := .int .u32 4294967295
def zero32 : Value := .int .u32 0
/-- a sector of ones -/
def ones64 : Array Value := Array.replicate 64 one32
def zeros64 : Array Value := Array.replicate 64 zero32
theorem ones64_all : ones64.all (·.oneCell') = true := by kernel_rfl
theorem sector_size : (Try.prog.info? 107).map (·.size) = some 64 := by kernel_rfl
set_option maxRecDepth 100000 in
theorem blank_is (w : World) :
    Calls Try.prog 56 #[] w fun e w' => e = .returned (.agg ones64) ∧ Frm NoB w w' := by
  go_enter Try.func56, Try.ntmps56
  go_wp2
  have hb0 := (Blk.new w 107 zeros64).alloc (.cells zeros64 107)
  have hb1 := Blk.new (w.alloc (.cells zeros64 107)) 107 zeros64
  have hf1 := ((Frm.refl NoB w).alloc (.cells zeros64 107)).alloc (.cells zeros64 107)
  rw [World.size_alloc] at hb1
  have ez : zeros64 = #[zero32, zero32, zero32, zero32, zero32, zero32, zero32, zero32, zero32, zero32, zero32, zero32, zero32, zero32, zero32, zero32, zero32, zero32, zero32, zero32, zero32, zero32, zero32, zero32, zero32, zero32, zero32, zero32, zero32, zero32, zero32, zero32, zero32, zero32, zero32, zero32, zero32, zero32, zero32, zero32, zero32, zero32, zero32, zero32, zero32, zero32, zero32, zero32, zero32, zero32, zero32, zero32, zero32, zero32, zero32, zero32, zero32, zero32, zero32, zero32, zero32, zero32, zero32, zero32] := by rfl
  generalize hW : (w.alloc (.cells zeros64 107)).alloc (.cells zeros64 107) = W at *
  rw [ez] at hW
  unfold zero32 at hW
  rw [hW]
  clear hW ez
  go_loopw [3] (fun i wr => ∃ j : Nat, j ≤ 64 ∧ i = .int .i64 j ∧ Blk wr w.heap.size 107 zeros64 ∧ Blk wr (w.heap.size + 1) 107 (fillTo 64 one32 zero32 j) ∧ Frm NoB w wr) (fun i _ => 64 - (intOf i).toNat)
  case atStart => exact ⟨0, by omega, rfl, hb0, by rw [fillTo_zero]; exact hb1, hf1⟩
  case round =>
    clear hb0 hb1 hf1
    obtain ⟨j, hj, rfl, h0, h1, hf⟩ := hrel
    by_cases hlt : j < 64
    · have hc : wr.cell? ⟨w.heap.size + 1, j, none⟩ = some zero32 := by rw [h1.cell, fillTo_get hlt]
      have hz := h1.frozen j
      have H0 := hide h0
      have H1 := hide h1
      clear h0 h1
      go_wp2
      go_roundw
      case rel =>
        refine ⟨j + 1, by omega, by go_num, (Hid.out H0).far (p := ⟨w.heap.size + 1, j, none⟩) (by simp) _, ?_, hf.setNew (by omega) _ _⟩
        have := (Hid.out H1).set_ j one32
        rw [fillTo_set hlt] at this
        exact this
      case measure => simp [intOf]; omega
    · obtain rfl : j = 64 := by omega
      have h1 : Blk wr (w.heap.size + 1) 107 ones64 := by rw [fillTo_all] at h1; exact h1
      have H0 := hide h0
      have H1 := hide h1
      clear h0 h1
      go_wp2_with (first
        | (refine wpList_load_row rfl 107 (.tmp 1) rfl (w.heap.size + 1) rfl 107 _ (0, 0) _ H1.out Try.underlying107 rfl sector_size ?_)
        | (refine wpList_store_row rfl 107 (.tmp 0) (.tmp 9) rfl w.heap.size _ rfl rfl 107 _ H0.out sector_size rfl ones64_all ?_))
      refine bodyPost_ret (results_cell_row rfl _ _ w.heap.size 107 ones64 (0, 0) _ rfl ((Hid.out H0).setRow ones64) Try.underlying107 rfl sector_size) rfl ⟨rfl, hf.setRow (.inr (Nat.le_refl _)) _⟩
end Go.Proofs.Ytiapoalkkhpmlaa

/-
  The flash: New.
-/
namespace Go.Proofs.Ytiapoalkkhpmlaa
open Go.RowKit

theorem ones64_len : ones64.toList.length = 1 * 64 := by kernel_rfl
theorem ones64_one : ∀ u ∈ ones64.toList, u.oneCell' = true := by
  intro u hu
  simp only [ones64, Array.toList_replicate] at hu
  rw [List.eq_of_mem_replicate hu]
  rfl
theorem sector_info : (Try.prog.info? 107).map (fun i => (i.zero, i.size, i.bytes)) = some (some (.agg zeros64), 64, 256) := by kernel_rfl

/-- one more sector of ones -/
theorem step_append_ones {w : World} {ops : Array Oper} {o : Oper} {a : Act} {K : Act → World → Prop} {Q : Exit → Act → World → Prop} {E : Prop} (hgd : o.guard = none) (s x : Operand)
    (ho : o.op = .call { callee := .builtin .append, args := #[s, x], argTypes := #[103, 103] })
    (base n b : Nat) (v : Value) (xs : List Value) (hs : a.eval s = v) (hx : a.eval x = .slice (some ⟨b, 0, none⟩) 1 1)
    (hown : w.ownsRow base 107 64 v n xs) (cs : Array Value) (hb : Blk w b 107 cs) (hcs : cs = ones64) (hn : n ≤ 1024) (hbase : base ≤ w.heap.size)
    (h : ∀ g cap w', w'.ownsRow base 107 64 (.slice (some ⟨g, 0, none⟩) (n + 1) cap) (n + 1) (xs ++ ones64.toList) → w.grownBy w' v.ownBlock → K (a.put o.dst (.slice (some ⟨g, 0, none⟩) (n + 1) cap)) w') :
    if Region.wanted o (yielded ops a.tmps) = true then Oper.wp Try.prog o a w K Q else E := by
  subst hcs
  obtain ⟨i0, hi0, hz0, hz1, hz2⟩ := info_parts sector_info
  exact step_append_lies w hgd s x 103 ho base 107 i0 _ 64 256 Try.underlying103 hi0 hz0 hz1 hz2 (by kernel_rfl) (by omega) v n xs hs hown ⟨b, 0, none⟩ 1 1 ones64.toList hx ones64_len (World.news_of_block hb) ones64_one (by omega) (by simp [maxLen]; omega) (by omega) hbase w.heap.size rfl (fun g cap w' h1 h2 _ _ => h g cap w' h1 h2)

theorem new_round {w wr w1 w2 : World} {j : Nat} {v : Value} {g : Int} {X : Obj} {g2 cap : Nat} (hf : Frm NoB w wr) (HB : Blk wr w.heap.size 105 #[v, .int .i64 g, .int .i64 (-1), .bool false, .int .i64 (-1)])
    (hf1 : Frm NoB wr w1) (hg : (w1.alloc X).grownBy w2 v.ownBlock) (hne : some w.heap.size ≠ v.ownBlock) (hv : ∀ b, v.ownBlock = some b → w.heap.size < b)
    (ho : w2.ownsRow (w.heap.size + 1) 107 64 (.slice (some ⟨g2, 0, none⟩) (j + 1) cap) (j + 1) (List.replicate (64 * j) one32 ++ ones64.toList)) :
    Blk (w2.setCell ⟨w.heap.size, 0, none⟩ (.slice (some ⟨g2, 0, none⟩) (j + 1) cap)) w.heap.size 105 #[.slice (some ⟨g2, 0, none⟩) (j + 1) cap, .int .i64 g, .int .i64 (-1), .bool false, .int .i64 (-1)] ∧
    (w2.setCell ⟨w.heap.size, 0, none⟩ (.slice (some ⟨g2, 0, none⟩) (j + 1) cap)).ownsRow (w.heap.size + 1) 107 64 (.slice (some ⟨g2, 0, none⟩) (j + 1) cap) (j + 1) (List.replicate (64 * (j + 1)) one32) ∧
    Frm NoB w (w2.setCell ⟨w.heap.size, 0, none⟩ (.slice (some ⟨g2, 0, none⟩) (j + 1) cap)) := by
  have hb1 := (HB.frm hf1 (fun e => e)).alloc X
  have hb2 : Blk w2 w.heap.size 105 #[v, .int .i64 g, .int .i64 (-1), .bool false, .int .i64 (-1)] := (hg.block _ hb1.lt hne).trans hb1
  refine ⟨hb2.set_ 0 _, ?_, ?_⟩
  · have hl := (ho.lt g2 rfl).1
    have e : List.replicate (64 * (j + 1)) one32 = List.replicate (64 * j) one32 ++ ones64.toList := by
      unfold ones64
      rw [Array.toList_replicate, List.replicate_append_replicate, Nat.mul_add]
    rw [e]
    exact own_frm ho ((Frm.refl (One w.heap.size) w2).set1 0 _) (fun b hb => by
      have : g2 = b := by simpa [Value.ownBlock] using hb
      intro h
      have : b = w.heap.size := h
      omega)
  · exact (((hf.trans hf1).alloc X).grown hg (fun b hb hlt => by have := hv b hb; omega)).setNew (Nat.le_refl _) _ _

/-- behind j sectors -/
def NewRel (w : World) (n : Nat) (g : Int) (i : Value) (wr : World) : Prop := ∃ (j : Nat) (v : Value), j ≤ n ∧ i = .int .i64 j ∧ Blk wr w.heap.size 105 #[v, .int .i64 g, .int .i64 (-1), .bool false, .int .i64 (-1)] ∧ wr.ownsRow (w.heap.size + 1) 107 64 v j (List.replicate (64 * j) one32) ∧ Frm NoB w wr
set_option maxHeartbeats 1000000 in
set_option maxRecDepth 100000 in
theorem new_is (n g : Nat) (w : World) (h1 : 1 ≤ n) (h2 : n ≤ 1024) (hg : g ≤ n) :
    Calls Try.prog 22 #[.int .i64 n, .int .i64 g] w fun e w' => ∃ p q c, e = .returned (.tuple #[.pointer (some ⟨p, 0, none⟩), .int .i64 0]) ∧ NorAt w' p q c (NorS.new n g) ∧ w.heap.size ≤ p ∧ w.heap.size ≤ q ∧ Frm NoB w w' := by
  have b1 : decide ((n : Int) < 1) = false := by simp; omega
  have b2 : decide (1024 < (n : Int)) = false := by simp; omega
  have b3 : decide ((g : Int) < 0) = false := by simp
  have b4 : decide ((n : Int) < (g : Int)) = false := by simp; omega
  have b5 : decide (n < g) = false := by simp; omega
  go_enter Try.func22, Try.ntmps22
  go_wp2
  go_loopw [26] (fun i wr => NewRel w n g i wr) (fun i _ => n - (intOf i).toNat)
  case atStart => exact ⟨0, .slice none 0 0, by omega, rfl, Blk.new _ _ _, World.ownsRow_nil _ _ _ _, (Frm.refl _ _).alloc _⟩
  case round =>
    obtain ⟨j, v, hj, rfl, hb, hrow, hf⟩ := hrel
    by_cases hlt : j < n
    · have hc := hb.cell 0
      have hz := hb.frozen 0
      have HB := hide hb
      have HR := hide hrow
      clear hb hrow
      go_wp2
      have hlt0 := Blk.lt HB.out
      have hne : Hid (some w.heap.size ≠ v.ownBlock) := fun e => by have := ((Hid.out HR).lt _ e.symm).1; omega
      have hos : ones64.size = 64 := by kernel_rfl
      have hcv : wr.cell? ⟨w.heap.size, 0, none⟩ = some v := hc
      clear hc
      go_region_law (first
          | (refine step_append_ones (by rfl) (.tmp 32) (.tmp 34) (by rfl) (w.heap.size + 1) j w1.heap.size v (List.replicate (64 * j) one32) (by rfl) (by rfl) ((own_frm (S := NoB) (w := wr.drew) (Hid.out HR) hf1 (fun _ _ e => e)).alloc _) _ (Blk.new _ _ _) (by kernel_rfl) (by omega) (by simp; omega) ?_; intro g2 cap w2 hown2 hgrow2; have hzz : w2.frozen? ⟨w.heap.size, 0, none⟩ = false := (by rw [hgrow2.frozen_far ⟨w.heap.size, 0, none⟩ (by simp; omega) hne.out, World.frozen?_alloc_old _ _ _ (by simp; omega), hf1.frozen (p := ⟨w.heap.size, 0, none⟩) (by simpa using hlt0) (fun e => e)]; exact hz); have hcc : w2.cell? ⟨w.heap.size, 0, none⟩ = some v := (by rw [hgrow2.cell_far ⟨w.heap.size, 0, none⟩ (by simp; omega) hne.out, World.cell?_alloc_old _ _ _ (by simp; omega), hf1.cell (p := ⟨w.heap.size, 0, none⟩) (by simpa using hlt0) (fun e => e)]; exact hcv))
          | (go_simp; go_at_call 56; refine (blank_is _).mono ?_; rintro e w1 ⟨rfl, hf1⟩; have hlt1 : wr.heap.size ≤ w1.heap.size := hf1.size; have hlt3 : w.heap.size < w1.heap.size := (by omega); have hcw : w1.cell? ⟨w.heap.size, 0, none⟩ = some v := (by rw [hf1.cell (p := ⟨w.heap.size, 0, none⟩) (by simpa using hlt0) (fun e => e)]; exact hcv)))
      all_goals
        have hR := new_round (wr := wr.drew) hf.drew HB.out hf1 hgrow2 hne.out (fun b hb => by have := ((Hid.out HR).lt b hb).1; omega) hown2
        clear hgrow2 hown2 hzz hcc hcw
        have HR2 := hide hR
        clear hR
        go_wp2
        go_roundw
        case rel =>
          obtain ⟨r1, r2, r3⟩ := (HR2.out)
          exact ⟨j + 1, _, by omega, by go_num, r1, r2, r3⟩
        case measure => simp [intOf]; omega
    · obtain rfl : j = n := by omega
      have HB := hide hb
      have HR := hide hrow
      clear hb hrow
      go_wp2
      go_ret2
      have hR := (Hid.out HR)
      obtain ⟨q, c, rfl, hq, hq2⟩ := hR.form (by omega)
      refine ⟨w.heap.size, q, c, rfl, ⟨HB.out, ?_, ?_⟩, Nat.le_refl _, by omega, hf⟩
      · have : ints .u32 (NorS.new j g).l = List.replicate (64 * j) one32 := by simp [ints, NorS.new, one32]
        rw [this]
        exact ⟨hR.1, by
          rcases hR.2 with h | ⟨a, b, c, e, h1, h2⟩
          · exact .inl h
          · exact .inr ⟨a, b, c, e, Nat.zero_le _, h2⟩⟩
      · exact ⟨by simp [NorS.new], h1, h2, by simp [NorS.new], by simp [NorS.new]; omega, by simp [NorS.new], by simp [NorS.new], by simp [NorS.new], by simp [NorS.new]; omega, fun x hx => by
          rw [List.eq_of_mem_replicate hx]; omega⟩
theorem new_bad (n g : Int) (w : World) (h : n < 1 ∨ 1024 < n ∨ g < 0 ∨ n < g) :
    Calls Try.prog 22 #[.int .i64 n, .int .i64 g] w fun e w' => e = .returned (.tuple #[.pointer none, .int .i64 2]) ∧ w = w' := by
  have hb : (decide (n < 1) || decide (1024 < n) || decide (g < 0) || decide (n < g)) = true := by simp; omega
  have H := hide h
  clear h
  by_cases h1 : n < 1
  · go_enter Try.func22, Try.ntmps22
    go_wp2
    go_ret2
    exact ⟨rfl, rfl⟩
  · by_cases h2 : 1024 < n
    · go_enter Try.func22, Try.ntmps22
      go_wp2
      go_ret2
      exact ⟨rfl, rfl⟩
    · by_cases h3 : g < 0
      · go_enter Try.func22, Try.ntmps22
        go_wp2
        go_ret2
        exact ⟨rfl, rfl⟩
      · have h4 : n < g := by have := H.out; omega
        go_enter Try.func22, Try.ntmps22
        go_wp2
        go_ret2
        exact ⟨rfl, rfl⟩
end Go.Proofs.Ytiapoalkkhpmlaa

/-
  The flash: Erase, Guard, Rewrite, Crash.
-/
namespace Go.Proofs.Ytiapoalkkhpmlaa
open Go.RowKit

theorem ones64_ints : ones64.toList = ints .u32 (List.replicate 64 4294967295) := by simp [ones64, ints, one32]
theorem splice_lay (xs : List Int) : ∀ (l : List Int) (i : Nat), i + xs.length ≤ l.length → NorS.lay l i xs = l.take i ++ xs ++ l.drop (i + xs.length) := by
  induction xs with
  | nil => intro l i h; simp [NorS.lay]
  | cons x r ih =>
    intro l i h
    have h' : i + 1 + r.length ≤ l.length := by simp at h; omega
    rw [NorS.lay, ih _ _ (by simpa using h')]
    have hi : i < l.length := by simp at h; omega
    rw [List.take_set, List.drop_set_of_lt (by omega)]
    have e : (l.take (i + 1)).set i x = l.take i ++ [x] := by
      rw [List.take_succ_eq_append_getElem hi, List.set_append_right _ _ (by simp; omega)]
      simp [Nat.min_eq_left (Nat.le_of_lt hi)]
    rw [e]
    simp [Nat.add_assoc, Nat.add_comm 1]

section
variable {w : World} {p q c : Nat} {s : NorS}
/-- some words are laid, by a row -/
theorem NorAt.laid (h : NorAt w p q c s) (i : Nat) (xs : List Int) (hx : U32 xs) (hi : i + xs.length ≤ s.l.length) (cur : Array Value) (hq : Blk w q 107 cur) :
    NorAt (w.setRow q (cur.toList.take i ++ ints .u32 xs ++ cur.toList.drop (i + (ints .u32 xs).length)).toArray) p q c { s with l := NorS.lay s.l i xs } := by
  have hl := h.ok.len
  refine ⟨h.blk.setRow_far _ h.ne, ?_, ⟨by rw [NorS.lay_length]; exact hl, h.ok.n1, h.ok.n2, h.ok.g0, h.ok.g1, h.ok.a0, h.ok.a1, h.ok.h0, h.ok.h1, NorS.lay_u32 xs hx _ _ h.ok.u⟩⟩
  rcases h.row.2 with ⟨e, _⟩ | ⟨g, cap, cur', e, h1, h2, h3, h4, h5, h6⟩
  · cases e
  · simp only [Value.slice.injEq, Option.some.injEq, Addr.mk.injEq, and_true, true_and] at e
    obtain ⟨rfl, rfl⟩ := e
    obtain ⟨rfl, -⟩ := Blk.inj (show Blk w q _ cur' from h2) hq
    have hs : s.n * 64 = s.l.length := by omega
    have hc6 : s.l.length ≤ cur'.size := by rw [h5]; omega
    rw [hs] at h6
    have h7 : cur'.toList.take i = ints .u32 (s.l.take i) := by
      rw [show ints .u32 (s.l.take i) = (ints .u32 s.l).take i from by simp [ints, List.map_take], ← h6, List.take_take, Nat.min_eq_left (by omega)]
    refine ⟨by show (ints .u32 (NorS.lay s.l i xs)).length = _; rw [ints_length, NorS.lay_length]; show _ = s.n * 64; omega, .inr ⟨q, c, _, rfl, h1, Blk.setRow (t := 107) h2 _, h3, h4, ?_, ?_⟩⟩
    · simp [ints_length]; omega
    · show List.take (s.n * 64) (_ : List Value) = ints .u32 (NorS.lay s.l i xs)
      rw [hs, splice_lay _ _ _ hi]
      simp only [ints, List.map_append, List.map_take, List.map_drop]
      rw [show (s.l.map (Value.int .u32)) = cur'.toList.take s.l.length from h6.symm]
      simp only [List.take_append, List.length_append, List.length_take, List.length_map, List.take_take, List.drop_take]
      have e1 : min i cur'.toList.length = i := by simp; omega
      simp only [e1]
      rw [show min s.l.length i = i from by omega, show min i s.l.length = i from by omega, List.take_of_length_le (l := xs.map _) (by simp; omega)]
theorem guard_is (h : NorAt w p q c s) : Calls Try.prog 68 #[.pointer (some ⟨p, 0, none⟩)] w fun e w' => e = .returned (.int .i64 s.guard) ∧ w = w' := by
  have h1 := h.c1
  have H := hide h
  clear h
  go_enter Try.func68, Try.ntmps68
  go_wp2_with (first
    | (go_at_call 54; refine (none_is H.out).mono ?_; rintro e w' ⟨rfl, rfl⟩))
  go_ret
  exact ⟨rfl, rfl⟩
theorem guard_no (v : Value) (h : NoNor w v) : Calls Try.prog 68 #[v] w fun e w' => e = .returned (.int .i64 0) ∧ w = w' := by
  have H := hide h
  clear h
  go_enter Try.func68, Try.ntmps68
  go_wp2_with (first
    | (go_at_call 54; refine (none_no _ _ H.out).mono ?_; rintro e w' ⟨rfl, rfl⟩))
  go_ret
  exact ⟨rfl, rfl⟩

theorem store_ones {w : World} {g off : Nat} (h : RowOk w g (off + 64)) : (storeCells ⟨g, off, none⟩ ones64.toList).run Try.prog w = .ok () (laidRow w g off ones64) :=
  run_storeCells_agg ones64_one h
theorem NorAt.rowOk {n : Nat} (h : NorAt w p q c s) (hn : n ≤ s.l.length) : RowOk w q n := by
  have hl := h.ok.len
  rcases h.row.2 with ⟨e, _⟩ | ⟨g, cap, cur', e, h1, h2, h3, h4, h5, h6⟩
  · cases e
  · simp only [Value.slice.injEq, Option.some.injEq, Addr.mk.injEq, and_true, true_and] at e
    obtain ⟨rfl, rfl⟩ := e
    exact ⟨cur', _, h2, by rw [h5]; omega⟩
attribute [local go_sem] store_ones
set_option maxRecDepth 100000 in
set_option maxHeartbeats 1000000 in
theorem erase_is (sec : Int) (h : NorAt w p q c s) :
    Calls Try.prog 73 #[.pointer (some ⟨p, 0, none⟩), .int .i64 sec] w fun e w' => e = .returned (.int .i64 (s.eraseE sec)) ∧ NorAt w' p q c (s.erase sec) ∧ Frm (Two p q) w w' := by
  by_cases hu : s.up sec 0 0 = 0
  · obtain ⟨-, i0, i1, -, -⟩ := NorS.up_zero hu
    obtain ⟨S, rfl⟩ := Int.eq_ofNat_of_zero_le i0
    have hu0 : (s.up S 0 0 != 0) = false := by rw [hu]; rfl
    by_cases hs : s.steps = true
    · have E : Hid (s.erase S = { s.step with l := NorS.lay s.l (NorS.at_ S 0) (List.replicate 64 4294967295) }) := by show _ = _; unfold NorS.erase; rw [if_pos hu, if_pos hs]
      have E' : Hid (s.eraseE S = 0) := by show _ = _; unfold NorS.eraseE; rw [if_pos hu, if_pos hs]
      have HU := hide hu
      have H := hide h
      clear h hu
      go_enter Try.func73, Try.ntmps73
      go_wp2_with (first
        | (go_at_call 77; refine (up_is _ _ _ H.out (by omega) (by omega)).mono ?_; rintro e w' ⟨rfl, rfl⟩)
        | (go_at_call 85; refine (step_is H.out).mono ?_; rintro e w1 ⟨rfl, hN1, hF1⟩; have hw0 := hN1.c0; have hsn := NorS.step_n s; rw [hsn] at hw0; have HN1 := hide hN1; clear hN1 hsn))
      have hl : s.step.l.length = 64 * s.n := by rw [NorS.step_l]; exact (Hid.out H).ok.len
      have hl0 : S * 64 + 64 ≤ s.step.l.length := by omega
      clear hl
      have hos : ones64.size = 64 := by kernel_rfl
      go_region_law (first
        | (go_simp; go_at_call 56; refine (blank_is _).mono ?_; rintro e w2 ⟨rfl, hF2⟩; have hN2 := (NorAt.drew HN1.out).frm hF2 (fun e => e) (fun e => e); have hw2 := hN2.c0; have hro := hN2.rowOk hl0; rw [NorS.step_n] at hw2; have HN2 := hide hN2; clear hN2))
      all_goals
        go_wp2
        go_ret
        have hN2 : NorAt w2 p q c s.step := HN2.out
        refine ⟨ret_int E'.out.symm, ?_, ((Frm.drew hF1).then_ hF2 (fun _ _ e => e.elim)).setRow (.inl (.inr rfl)) _⟩
        rw [E.out]
        obtain ⟨cs, hb⟩ := hN2.blkq
        have h3 := hN2.laid (NorS.at_ S 0) (List.replicate 64 4294967295) (fun x hx => by rw [List.eq_of_mem_replicate hx]; omega) (by simp [NorS.at_]; omega) cs hb
        rw [← ones64_ints] at h3
        have e1 : NorS.at_ S 0 = S * 64 := by simp [NorS.at_]
        rw [e1] at h3 ⊢
        rw [NorS.step_l] at h3
        show NorAt (w2.setRow q _) p q c _
        rw [rowOf_blk hb]
        exact h3
    · have E : Hid (s.erase S = { s.step with half := S }) := by show _ = _; unfold NorS.erase; rw [if_pos hu, if_neg hs]
      have E' : Hid (s.eraseE S = 40) := by show _ = _; unfold NorS.eraseE; rw [if_pos hu, if_neg hs]
      have hs0 : s.steps = false := by simpa using hs
      have HU := hide hu
      have H := hide h
      clear h hu hs
      go_enter Try.func73, Try.ntmps73
      go_wp2_with (first
        | (go_at_call 77; refine (up_is _ _ _ H.out (by omega) (by omega)).mono ?_; rintro e w' ⟨rfl, rfl⟩)
        | (go_at_call 85; refine (step_is H.out).mono ?_; rintro e w1 ⟨rfl, hN1, hF1⟩; have hw4 := hN1.c4; have hf4 := hN1.blk.frozen 4; have HN1 := hide hN1; clear hN1))
      go_ret
      refine ⟨ret_int E'.out.symm, ?_, hF1.setp _ _⟩
      rw [E.out]
      have hN1 : NorAt w1 p q c s.step := HN1.out
      have o := hN1.ok
      exact hN1.turn (hN1.blk.set_ 4 _) ((Frm.refl (One p) w1).set1 _ _) rfl rfl ⟨o.len, o.n1, o.n2, o.g0, o.g1, o.a0, o.a1, by show (-1 : Int) ≤ S; omega, by show (S : Int) < s.step.n; rw [NorS.step_n]; omega, o.u⟩
  · have E : Hid (s.erase sec = s) := by show _ = _; unfold NorS.erase; rw [if_neg hu]
    have E' : Hid (s.eraseE sec = s.up sec 0 0) := by show _ = _; unfold NorS.eraseE; rw [if_neg hu]
    have hu0 : (s.up sec 0 0 != 0) = true := by simpa using hu
    have H := hide h
    clear h hu
    go_enter Try.func73, Try.ntmps73
    go_wp2_with (first
      | (go_at_call 77; refine (up_is _ _ _ H.out (by omega) (by omega)).mono ?_; rintro e w' ⟨rfl, rfl⟩))
    go_ret
    exact ⟨ret_int E'.out.symm, by rw [E.out]; exact H.out, Frm.refl _ _⟩
theorem erase_no (sec : Int) (v : Value) (h : NoNor w v) : Calls Try.prog 73 #[v, .int .i64 sec] w fun e w' => e = .returned (.int .i64 1) ∧ w = w' := by
  have H := hide h
  clear h
  go_enter Try.func73, Try.ntmps73
  go_wp2_with (first
    | (go_at_call 77; refine (up_no _ _ _ _ H.out).mono ?_; rintro e w' ⟨rfl, rfl⟩))
  go_ret
  exact ⟨rfl, rfl⟩
end
end Go.Proofs.Ytiapoalkkhpmlaa

/-
  The flash: Rewrite, Crash.
-/
namespace Go.Proofs.Ytiapoalkkhpmlaa
open Go.RowKit
theorem sector_len : Try.prog.arrayLen 107 = 64 := by kernel_rfl
theorem sector_elem : Try.prog.elem 107 = 49 := by kernel_rfl
theorem word_size : (Try.prog.info? 49).map (·.size) = some 1 := by kernel_rfl
theorem ints_one {k : IntKind} {xs : List Int} : ∀ v ∈ ints k xs, v.oneCell' = true := by
  intro v hv
  simp only [ints, List.mem_map] at hv
  obtain ⟨x, _, rfl⟩ := hv
  rfl

section
variable {w : World} {p q c : Nat} {s : NorS}
set_option maxRecDepth 100000 in
set_option maxHeartbeats 1000000 in
theorem rewrite_is (sec k : Int) (A : Option Addr) (cp : Nat) (xs : List Int) (h : NorAt w p q c s) (hx : Rd w A (ints .u32 xs)) (ux : U32 xs) (hm : (xs.length : Int) ≤ 9223372036854775807) :
    Calls Try.prog 21 #[.pointer (some ⟨p, 0, none⟩), .int .i64 sec, .int .i64 k, .slice A xs.length cp] w fun e w' => e = .returned (.int .i64 (s.rewriteE sec k xs)) ∧ NorAt w' p q c (s.rewrite sec k xs) ∧ Frm (Two p q) w w' := by
  have hn := h.ok.n2
  have c0 := h.c0
  have c1 := h.c1
  by_cases ht : s.there sec k xs.length = true
  · by_cases hg : sec < s.guard
    · have E' : Hid (s.rewriteE sec k xs = 41) := by show _ = _; unfold NorS.rewriteE; rw [if_pos ht, if_pos hg]
      have E : Hid (s.rewrite sec k xs = s) := by show _ = _; unfold NorS.rewrite; rw [E'.out]; rfl
      have ht0 : (!s.there sec k xs.length) = false := by simpa using ht
      have H := hide h
      clear h hx ux ht
      go_enter Try.func21, Try.ntmps21
      go_wp2_with (first
        | (go_at_call 54; refine (none_is H.out).mono ?_; rintro e w' ⟨rfl, rfl⟩)
        | (go_at_call 55; refine (there_is _ _ _ H.out (by omega) (by omega)).mono ?_; rintro e w' ⟨rfl, rfl⟩))
      go_ret
      exact ⟨ret_int E'.out.symm, by rw [E.out]; exact H.out, Frm.refl _ _⟩
    · have E' : Hid (s.rewriteE sec k xs = 0) := by show _ = _; unfold NorS.rewriteE; rw [if_pos ht, if_neg hg]
      have E : Hid (s.rewrite sec k xs = { s with l := NorS.lay s.l (NorS.at_ sec k) xs }) := by show _ = _; unfold NorS.rewrite; rw [if_pos E'.out]
      have ht2 := ht
      unfold NorS.there at ht2
      simp only [Bool.and_eq_true, decide_eq_true_eq] at ht2
      obtain ⟨⟨⟨⟨i0, i1⟩, i2⟩, i3⟩, i4⟩ := ht2
      obtain ⟨S, rfl⟩ := Int.eq_ofNat_of_zero_le i0
      obtain ⟨K, rfl⟩ := Int.eq_ofNat_of_zero_le i2
      have H := hide h
      have hlen := h.ok.len
      clear h
      obtain ⟨cur, hq⟩ := (Hid.out H).blkq
      have HQ := hide hq
      clear hq
      have hfit : S * 64 + K + xs.length ≤ cur.size := by
        obtain ⟨cur', t, h1, h2⟩ := NorAt.rowOk (n := S * 64 + K + xs.length) H.out (by omega)
        obtain ⟨rfl, -⟩ := Blk.inj (show Blk w q _ cur' from h1) HQ.out
        exact h2
      have hal := sector_len
      have hel := sector_elem
      have hk : (K : Int) ≤ 64 := by omega
      have ht0 : (!s.there (↑S) (↑K) xs.length) = false := by simpa using ht
      by_cases he : xs = []
      · subst he
        have ht1 : (!s.there (↑S) (↑K) 0) = false := by simpa using ht
        have ht3 : ∀ m : Int, 0 ≤ m → m ≤ 9223372036854775807 → Calls Try.prog 55 #[.pointer (some ⟨p, 0, none⟩), .int .i64 S, .int .i64 K, .int .i64 m] w fun e w' => e = .returned (.bool (s.there S K m)) ∧ w = w' := fun m h1 h2 => there_is _ _ _ H.out h1 h2
        have HT := hide ht3
        have hcp := fun dp dLen dCap sp sCap => run_copy_none (P := Try.prog) w 34 34 3 49 dp sp dLen dCap 0 sCap Try.underlying34 word_size (by simp)
        clear hm i4 i3 hx ux ht ht0 ht3 hfit
        go_enter Try.func21, Try.ntmps21
        go_wp2_with (first
          | (go_at_call 54; refine (none_is H.out).mono ?_; rintro e w' ⟨rfl, rfl⟩)
          | (go_at_call 55; refine (HT.out _ (by simp) (by simp)).mono ?_; rintro e w' ⟨rfl, rfl⟩))
        all_goals
          go_ret
          refine ⟨ret_int E'.out.symm, ?_, Frm.refl _ _⟩
          rw [E.out]
          exact H.out
      · obtain ⟨b, o, rfl, hc⟩ := hx (ints_ne he)
        have hpos : 0 < xs.length := List.length_pos_iff.2 he
        have hk' : ((64 : Nat) = K) = False := by simp; omega
        have hcp := run_copy_row (P := Try.prog) w 34 34 3 49 q (S * 64 + K) (64 - K) (64 - K) ⟨b, o, none⟩ xs.length cp cur 107 (ints .u32 xs) Try.underlying34 word_size HQ.out
          (by rw [ints_length]; exact (Nat.min_eq_left (by omega)).symm) (fun j v hv => by rw [addr_add]; exact hc j v hv) (by rw [ints_length]; exact hfit) ints_one
        rw [ints_length] at hcp
        have HX := hide ux
        clear hx ux ht hc
        go_enter Try.func21, Try.ntmps21
        go_wp2_with (first
          | (go_at_call 54; refine (none_is H.out).mono ?_; rintro e w' ⟨rfl, rfl⟩)
          | (go_at_call 55; refine (there_is _ _ _ H.out (by omega) (by omega)).mono ?_; rintro e w' ⟨rfl, rfl⟩))
        go_ret
        refine ⟨ret_int E'.out.symm, ?_, (Frm.refl _ w).setRow (.inl (.inr rfl)) _⟩
        rw [E.out]
        have h3 := NorAt.laid H.out (NorS.at_ S K) xs HX.out (by simp [NorS.at_]; omega) cur HQ.out
        have e1 : NorS.at_ S K = S * 64 + K := by simp [NorS.at_]
        rw [e1, ints_length] at h3
        rw [e1]
        simpa using h3
  · have E' : Hid (s.rewriteE sec k xs = 2) := by show _ = _; unfold NorS.rewriteE; rw [if_neg ht]
    have E : Hid (s.rewrite sec k xs = s) := by show _ = _; unfold NorS.rewrite; rw [E'.out]; rfl
    have ht0 : (!s.there sec k xs.length) = true := by simpa using ht
    have H := hide h
    clear h hx ux ht
    go_enter Try.func21, Try.ntmps21
    go_wp2_with (first
      | (go_at_call 54; refine (none_is H.out).mono ?_; rintro e w' ⟨rfl, rfl⟩)
      | (go_at_call 55; refine (there_is _ _ _ H.out (by omega) (by omega)).mono ?_; rintro e w' ⟨rfl, rfl⟩))
    go_ret
    exact ⟨ret_int E'.out.symm, by rw [E.out]; exact H.out, Frm.refl _ _⟩
theorem rewrite_no (sec k : Int) (A : Option Addr) (cp n : Nat) (v : Value) (h : NoNor w v) :
    Calls Try.prog 21 #[v, .int .i64 sec, .int .i64 k, .slice A n cp] w fun e w' => e = .returned (.int .i64 1) ∧ w = w' := by
  have H := hide h
  clear h
  go_enter Try.func21, Try.ntmps21
  go_wp2_with (first
    | (go_at_call 54; refine (none_no _ _ H.out).mono ?_; rintro e w' ⟨rfl, rfl⟩))
  go_ret
  exact ⟨rfl, rfl⟩
end
end Go.Proofs.Ytiapoalkkhpmlaa

/-
  The flash: Crash.
-/
namespace Go.Proofs.Ytiapoalkkhpmlaa
open Go.RowKit

namespace NorS
theorem burn_length (ks : List Bool) (base : Nat) : ∀ (m i : Nat) (l : List Int), (burn ks base m i l).length = l.length := by
  intro m
  induction m with
  | zero => intro i l; rfl
  | succ m ih => intro i l; rw [burn, ih]; split <;> simp
theorem burn_u32 (ks : List Bool) (base : Nat) : ∀ (m i : Nat) (l : List Int), U32 l → U32 (burn ks base m i l) := by
  intro m
  induction m with
  | zero => intro i l h; exact h
  | succ m ih =>
    intro i l h
    rw [burn]
    apply ih
    split
    · exact h.set _ (by omega)
    · exact h
/-- behind i places of a crash -/
def burnt (s : NorS) (ks : List Bool) (i : Nat) (l : List Int) : Prop := burn ks (at_ s.half 0) 64 0 s.l = burn ks (at_ s.half 0) (64 - i) i l ∧ l.length = s.l.length
/-- how it stands in the midst -/
def mid (s : NorS) (l : List Int) : NorS := { s with l := l }
theorem Ok.mid {s : NorS} (h : s.Ok) {l : List Int} (hl : l.length = s.l.length) (hu : U32 l) : (s.mid l).Ok := ⟨by show l.length = _; rw [hl]; exact h.len, h.n1, h.n2, h.g0, h.g1, h.a0, h.a1, h.h0, h.h1, hu⟩
theorem Ok.crash {s : NorS} (h : s.Ok) (ks : List Bool) : (s.crash ks).Ok := by
  have h1 := h.n1
  refine ⟨?_, h.n1, h.n2, h.g0, h.g1, by simp [NorS.crash], by simp [NorS.crash], by simp [NorS.crash], by show (-1 : Int) < s.n; omega, ?_⟩
  · show (if 0 ≤ s.half then _ else _ : List Int).length = _
    split
    · rw [burn_length]; exact h.len
    · exact h.len
  · show U32 (if 0 ≤ s.half then _ else _ : List Int)
    split
    · exact burn_u32 _ _ _ _ _ h.u
    · exact h.u
end NorS

section
variable {w : World} {p q c : Nat} {s : NorS}
/-- behind j places -/
def CrashRel (w : World) (p q c : Nat) (s : NorS) (ks : List Bool) (i : Value) (wr : World) : Prop := ∃ (j : Nat) (l : List Int), j ≤ 64 ∧ i = .int .i64 j ∧ NorAt wr p q c (s.mid l) ∧ Frm (Two p q) w wr ∧ (0 ≤ s.half → s.burnt ks j l) ∧ (s.half < 0 → l = s.l)

set_option maxRecDepth 100000 in
set_option maxHeartbeats 1000000 in
theorem crash_is (A : Option Addr) (cp : Nat) (ks : List Bool) (h : NorAt w p q c s) (hx : Rd w A (bools ks)) (hA : ks ≠ [] → ∀ a, A = some a → ¬ Two p q a.block) (hm : (ks.length : Int) ≤ 9223372036854775807) :
    Calls Try.prog 25 #[.pointer (some ⟨p, 0, none⟩), .slice A ks.length cp] w fun e w' => e = .returned (.tuple #[]) ∧ NorAt w' p q c (s.crash ks) ∧ Frm (Two p q) w w' := by
  have hn := h.ok.n2
  have hh0 := h.ok.h0
  have hh1 := h.ok.h1
  have H := hide h
  clear h
  go_enter Try.func25, Try.ntmps25
  go_wp2_with (first
    | (go_at_call 54; refine (none_is H.out).mono ?_; rintro e w' ⟨rfl, rfl⟩))
  go_loopw [7] (fun i wr => CrashRel w p q c s ks i wr) (fun i _ => 64 - (intOf i).toNat)
  case atStart => exact ⟨0, s.l, by omega, rfl, H.out, Frm.refl _ _, fun _ => ⟨rfl, rfl⟩, fun _ => rfl⟩
  case round =>
    obtain ⟨j, l, hj, rfl, hN, hF, hb1, hb2⟩ := hrel
    have c0 := hN.c0
    have c4 := hN.c4
    have f2 := hN.blk.frozen 2
    have f3 := hN.blk.frozen 3
    have f4 := hN.blk.frozen 4
    have c2 := hN.c2
    have c3 := hN.c3
    have HB1 := hide hb1
    have HB2 := hide hb2
    have HN := hide hN
    clear hb1 hb2 hN
    by_cases hlt : j < 64
    · by_cases h0 : 0 ≤ s.half
      · obtain ⟨hb, hl⟩ := HB1.out h0
        obtain ⟨S, hS⟩ := Int.eq_ofNat_of_zero_le h0
        have HS := hide hS
        have HL := hide hl
        have HB := hide hb
        have hlen := (Hid.out H).ok.len
        have hlen2 : S * 64 + 64 ≤ l.length := by omega
        clear hl hb hlen
        have hc := NorAt.cell HN.out (S * 64 + j) (by show _ < l.length; omega)
        have hf := NorAt.free HN.out (S * 64 + j)
        have ea : Hid (NorS.at_ s.half 0 = S * 64) := by show _ = _; rw [hS]; simp [NorS.at_]
        have e64 : Hid (64 - j = (64 - (j + 1)) + 1) := by show _ = _; omega
        have c4' : wr.cell? ⟨p, 4, none⟩ = some (.int .i64 S) := by rw [c4]; show some (Value.int .i64 s.half) = _; rw [hS]
        have c0' : wr.cell? ⟨p, 0, none⟩ = some (.slice (some ⟨q, 0, none⟩) s.n c) := c0
        have hS1 : (S : Int) < s.n := by omega
        clear hS c4 h0 hh0 hh1 c0
        by_cases hk : j < ks.length
        · obtain ⟨b, o, rfl, hcx⟩ := hx (bools_ne (by intro e; subst e; simp at hk))
          have hcj : wr.cell? ⟨b, o + j, none⟩ = some (.bool (ks.getD j false)) := by
            have h1 := hcx j _ (bools_get hk)
            rw [hF.cell (World.block_lt_of_cell? w _ h1) (show ¬ Two p q b from hA (by intro e; subst e; simp at hk) _ rfl)]; exact h1
          clear hx hA hcx
          by_cases hv : ks.getD j false = true
          · rw [hv] at hcj
            have HV := hide hv
            clear hv
            go_wp2
            go_region
            go_wp2
            go_roundw
            case rel =>
              have hN : NorAt wr p q c (s.mid l) := HN.out
              have h1 := (hN.stored (S * 64 + j) (x := 4294967295) (by omega)).drew
              refine ⟨j + 1, l.set (S * 64 + j) 4294967295, by omega, by go_num, h1, (hF.setq _ _).drew, fun _ => ⟨?_, by simpa using HL.out⟩, fun hneg => by have := HS.out; omega⟩
              rw [HB.out, ea.out, e64.out, NorS.burn, if_pos HV.out]
            case measure => simp [intOf]; omega
          · have hv : ks.getD j false = false := by simpa using hv
            rw [hv] at hcj
            have HV := hide hv
            clear hv
            go_wp2
            go_roundw
            case rel =>
              refine ⟨j + 1, l, by omega, by go_num, HN.out, hF, fun _ => ⟨?_, HL.out⟩, fun hneg => by have := HS.out; omega⟩
              rw [HB.out, ea.out, e64.out, NorS.burn, HV.out]; rfl
            case measure => simp [intOf]; omega
        · have hv : Hid (ks.getD j false = false) := by show _ = _; rw [List.getD_eq_getElem?_getD, List.getElem?_eq_none (by omega)]; rfl
          clear hx hA
          go_wp2
          go_roundw
          case rel =>
            refine ⟨j + 1, l, by omega, by go_num, HN.out, hF, fun _ => ⟨?_, HL.out⟩, fun hneg => by have := HS.out; omega⟩
            rw [HB.out, ea.out, e64.out, NorS.burn, hv.out]; rfl
          case measure => simp [intOf]; omega
      · have c4' : wr.cell? ⟨p, 4, none⟩ = some (.int .i64 s.half) := c4
        clear hx hA
        go_wp2
        go_roundw
        case rel =>
          exact ⟨j + 1, l, by omega, by go_num, HN.out, hF, fun hp => by omega, fun _ => HB2.out (by omega)⟩
        case measure => simp [intOf]; omega
    · obtain rfl : j = 64 := by omega
      clear hx hA
      go_wp2
      go_end0
      have hN : NorAt wr p q c (s.mid l) := HN.out
      have e : s.crash ks = { s.mid l with down := false, arm := -1, half := -1 } := by
        unfold NorS.crash NorS.mid
        by_cases h0 : 0 ≤ s.half
        · rw [if_pos h0, (HB1.out h0).1]; rfl
        · rw [if_neg h0, HB2.out (by omega)]
      have o := (Hid.out H).ok.crash ks
      rw [e] at o ⊢
      exact ⟨rfl, hN.turn (((hN.blk.set_ 3 _).set_ 2 _).set_ 4 _) ((((Frm.refl (One p) wr).set1 _ _).set1 _ _).set1 _ _) rfl rfl o, ((hF.setp _ _).setp _ _).setp _ _⟩
theorem crash_no (A : Option Addr) (cp n : Nat) (v : Value) (h : NoNor w v) : Calls Try.prog 25 #[v, .slice A n cp] w fun e w' => e = .returned (.tuple #[]) ∧ w = w' := by
  have H := hide h
  clear h
  go_enter Try.func25, Try.ntmps25
  go_wp2_with (first
    | (go_at_call 54; refine (none_no _ _ H.out).mono ?_; rintro e w' ⟨rfl, rfl⟩))
  refine bodyPost_ret (results_none rfl _ _ _) rfl ?_
  exact ⟨rfl, rfl⟩
end
end Go.Proofs.Ytiapoalkkhpmlaa

/-
  Plain: a flash that is up, and not armed: what is programmed.
-/
namespace Go.Proofs.Ytiapoalkkhpmlaa
namespace NorS
/-- words and-ed onto a list from i on -/
def andL : List Int → Nat → List Int → List Int
  | l, _, [] => l
  | l, i, x :: r => andL (l.set i (wand (l.getD i 0) x)) (i + 1) r
theorem andL_length (xs : List Int) : ∀ (l : List Int) (i : Nat), (andL l i xs).length = l.length := by
  induction xs with
  | nil => intro l i; rfl
  | cons x r ih => intro l i; rw [andL, ih]; simp
theorem getD_set (l : List Int) (i j : Nat) (x : Int) (hi : i < l.length) : (l.set i x).getD j 0 = if i = j then x else l.getD j 0 := by
  simp only [List.getD_eq_getElem?_getD, List.getElem?_set]
  split
  · rename_i h; subst h; simp
  · rfl
theorem andL_get (xs : List Int) : ∀ (l : List Int) (i j : Nat), i + xs.length ≤ l.length →
    (andL l i xs).getD j 0 = if i ≤ j ∧ j < i + xs.length then wand (l.getD j 0) (xs.getD (j - i) 0) else l.getD j 0 := by
  induction xs with
  | nil => intro l i j h; rw [andL, if_neg (show ¬ (i ≤ j ∧ j < i + ([] : List Int).length) from by simp only [List.length_nil]; omega)]
  | cons x r ih =>
    intro l i j h
    simp only [List.length_cons] at h ⊢
    rw [andL, ih _ _ _ (by simp; omega), getD_set _ _ _ _ (by omega)]
    by_cases e : i = j
    · subst e
      rw [if_neg (by omega), if_pos rfl, if_pos (by omega), Nat.sub_self]; try rfl
    · rw [if_neg e]
      by_cases h1 : i + 1 ≤ j ∧ j < i + 1 + r.length
      · rw [if_pos h1, if_pos (by omega)]
        congr 1
        rw [show j - i = (j - (i + 1)) + 1 from by omega]
        simp
      · rw [if_neg h1, if_neg (by omega)]
theorem ext_getD {a b : List Int} (hl : a.length = b.length) (h : ∀ j, j < a.length → a.getD j 0 = b.getD j 0) : a = b := by
  apply List.ext_getElem hl
  intro j h1 h2
  have := h j h1
  simpa [h1, h2] using this
theorem andL_thrice (l xs ys : List Int) (i : Nat) (hx : i + xs.length ≤ l.length) (hy : i + ys.length ≤ l.length) :
    andL (andL (andL l i xs) i ys) i xs = andL (andL l i ys) i xs := by
  apply ext_getD (by simp only [andL_length])
  intro j _
  rw [andL_get _ _ _ _ (by simpa only [andL_length] using hx), andL_get _ _ _ _ (by simpa only [andL_length] using hy), andL_get _ _ _ _ hx, andL_get _ _ _ _ (by simpa only [andL_length] using hx), andL_get _ _ _ _ hy]
  split
  · split
    · rw [wand_right (wand _ _), wand_idem, wand_right]
    · rw [wand_idem]
  · rfl
/-- up, and not armed -/
structure Up (s : NorS) : Prop where
  d : s.down = false
  a : s.arm = -1
  h : s.half = -1
theorem crash_up (s : NorS) (ks : List Bool) : (s.crash ks).Up := ⟨rfl, rfl, rfl⟩
theorem Up.steps {s : NorS} (h : s.Up) : s.steps = true := by unfold NorS.steps; rw [h.a]; rfl
theorem Up.step {s : NorS} (h : s.Up) : s.step = s := by
  unfold NorS.step
  rw [if_neg (by rw [h.a]; decide)]
  rw [h.a]
  cases s; simp_all
  exact h.a.symm
theorem Up.crash {s : NorS} (h : s.Up) (ks : List Bool) : s.crash ks = s := by
  unfold NorS.crash
  rw [if_neg (by rw [h.h]; decide)]
  have h1 := h.d; have h2 := h.a; have h3 := h.h
  cases s; simp_all
theorem Up.mid {s : NorS} (h : s.Up) (l : List Int) : (s.mid l).Up := ⟨h.d, h.a, h.h⟩
theorem Up.prog (xs : List Int) : ∀ {s : NorS} (_ : s.Up) (i : Nat), s.prog i xs = s.mid (andL s.l i xs) ∧ s.progs xs = true := by
  induction xs with
  | nil => intro s h i; exact ⟨rfl, rfl⟩
  | cons x r ih =>
    intro s h i
    unfold NorS.prog progs
    rw [if_pos h.steps, if_pos h.steps, h.step]
    have h2 := h.mid (s.l.set i (wand (s.wd i) x))
    obtain ⟨e1, _⟩ := ih h2 (i + 1)
    exact ⟨e1, (ih h 0).2⟩
theorem Up.fits {s : NorS} (h : s.Up) {sec k : Int} {m : Int} (h0 : 0 ≤ sec) (h1 : sec < s.n) (h2 : 0 ≤ k) (h3 : m ≤ 64) (h4 : k ≤ 64 - m) : s.up sec k m = 0 := by
  unfold NorS.up there
  rw [if_neg (by rw [h.d]; simp), if_pos]
  simp only [Bool.and_eq_true, decide_eq_true_eq]
  exact ⟨⟨⟨⟨h0, h1⟩, h2⟩, h3⟩, h4⟩
theorem Up.program {s : NorS} (h : s.Up) {sec k : Int} {xs : List Int} (hu : s.up sec k xs.length = 0) : s.program sec k xs = s.mid (andL s.l (at_ sec k) xs) ∧ s.programE sec k xs = 0 := by
  unfold NorS.program programE
  rw [if_pos hu, if_pos hu, (h.prog xs 0).2, (h.prog xs _).1]
  exact ⟨rfl, rfl⟩
theorem step_guard (s : NorS) : s.step.guard = s.guard := by unfold NorS.step; split <;> rfl
theorem prog_fix' (xs : List Int) : ∀ (a : NorS) (i : Nat), (prog a i xs).n = a.n ∧ (prog a i xs).guard = a.guard := by
  induction xs with
  | nil => intro a i; exact ⟨rfl, rfl⟩
  | cons x r ih =>
    intro a i
    unfold NorS.prog
    split
    · obtain ⟨h1, h2⟩ := ih (a.step.put i (wand (a.wd i) x)) (i + 1)
      exact ⟨h1.trans (step_n a), h2.trans (step_guard a)⟩
    · exact ⟨step_n a, step_guard a⟩
end NorS
end Go.Proofs.Ytiapoalkkhpmlaa
