/-
  The flash: how it lies in memory, and the walks of what only reads it, and of a step.
-/
import Derived.Test.YtmeegehmbphooaaNorSpec
namespace Go.Proofs.Ytmeegehmbphooaa
open Go.RowKit

/-- A flash in memory: its struct in block p, its sectors in block q. -/
structure NorAt (w : World) (p q c : Nat) (s : NorS) : Prop where
  blk : Blk w p 96 #[.slice (some ⟨q, 0, none⟩) s.n c, .int .i64 s.guard, .int .i64 s.arm, .bool s.down, .int .i64 s.half]
  row : w.ownsRow 0 97 64 (.slice (some ⟨q, 0, none⟩) s.n c) s.n (ints .u32 s.l)
  ok : s.Ok
/-- No flash. -/
def NoNor (w : World) (v : Value) : Prop := v = .pointer none ∨ ∃ p A c, v = .pointer (some ⟨p, 0, none⟩) ∧ w.cell? ⟨p, 0, none⟩ = some (.slice A 0 c)

namespace NorAt
variable {w w' : World} {p q c : Nat} {s : NorS}
theorem cell (h : NorAt w p q c s) (i : Nat) (hi : i < s.l.length) : w.cell? ⟨q, i, none⟩ = some (.int .u32 (s.wd i)) := by
  have hl := h.ok.len
  rw [h.row.cellAt i (by omega), ints_get hi]; rfl
theorem free (h : NorAt w p q c s) (i : Nat) : w.frozen? ⟨q, i, none⟩ = false := h.row.frozenAt i
theorem ltq (h : NorAt w p q c s) : q < w.heap.size := (h.row.lt q rfl).2
theorem ltp (h : NorAt w p q c s) : p < w.heap.size := h.blk.lt
theorem blkq (h : NorAt w p q c s) : ∃ cs, Blk w q 97 cs := by
  rcases h.row.2 with ⟨e, _⟩ | ⟨g, cap, cur, e, _, hb, _⟩
  · cases e
  · simp only [Value.slice.injEq, Option.some.injEq, Addr.mk.injEq, and_true, true_and] at e
    obtain ⟨rfl, rfl⟩ := e
    exact ⟨cur, hb⟩
theorem ne (h : NorAt w p q c s) : p ≠ q := by
  rintro rfl
  obtain ⟨cs, hb⟩ := h.blkq
  exact absurd (h.blk.inj hb).2 (by decide)
theorem frm {S : Nat → Prop} (h : NorAt w p q c s) (hb : Frm S w w') (hp : ¬ S p) (hq : ¬ S q) : NorAt w' p q c s := by
  refine ⟨h.blk.frm hb hp, ⟨h.row.1, ?_⟩, h.ok⟩
  rcases h.row.2 with h1 | ⟨g, cap, cur, e, h1, h2, h3⟩
  · exact .inl h1
  · simp only [Value.slice.injEq, Option.some.injEq, Addr.mk.injEq, and_true, true_and] at e
    obtain ⟨rfl, rfl⟩ := e
    exact .inr ⟨q, c, cur, rfl, h1, (hb.block q h.ltq hq).trans h2, h3⟩
/-- its struct has turned -/
theorem turn {s' : NorS} (h : NorAt w p q c s) (hb : Blk w' p 96 #[.slice (some ⟨q, 0, none⟩) s'.n c, .int .i64 s'.guard, .int .i64 s'.arm, .bool s'.down, .int .i64 s'.half])
    (hf : Frm (One p) w w') (hn : s'.n = s.n) (hl : s'.l = s.l) (ok : s'.Ok) : NorAt w' p q c s' := by
  refine ⟨hb, ⟨by rw [hn, hl]; exact h.row.1, ?_⟩, ok⟩
  rw [hn, hl]
  rcases h.row.2 with h1 | ⟨g, cap, cur, e, h1, h2, h3⟩
  · exact .inl h1
  · simp only [Value.slice.injEq, Option.some.injEq, Addr.mk.injEq, and_true, true_and] at e
    obtain ⟨rfl, rfl⟩ := e
    exact .inr ⟨q, c, cur, rfl, h1, (hf.block q h.ltq (show ¬ q = p from h.ne.symm)).trans h2, h3⟩
theorem drewN (h : NorAt w p q c s) (n : Nat) : NorAt (w.drewN n) p q c s := ⟨h.blk, h.row, h.ok⟩
theorem drew (h : NorAt w p q c s) : NorAt w.drew p q c s := ⟨h.blk, h.row, h.ok⟩
theorem alloc (h : NorAt w p q c s) (o : Obj) : NorAt (w.alloc o) p q c s := h.frm ((Frm.refl NoB w).alloc o) (fun e => e) (fun e => e)
/-- a word is stored -/
theorem stored (h : NorAt w p q c s) (i : Nat) {x : Int} (hx : 0 ≤ x ∧ x < 4294967296) :
    NorAt (w.setCell ⟨q, i, none⟩ (.int .u32 x)) p q c (s.put i x) := by
  have h1 := (h.row.stored i (.int .u32 x)).1
  refine ⟨h.blk.far (p := ⟨q, i, none⟩) h.ne _, ?_, h.ok.put i hx⟩
  have e : ints .u32 (s.put i x).l = (ints .u32 s.l).set i (.int .u32 x) := by simp [ints, NorS.put, List.map_set]
  rw [e]
  exact h1
theorem frm_stored (_ : NorAt w p q c s) (i : Nat) (u : Value) : Frm (Two p q) w (w.setCell ⟨q, i, none⟩ u) := (Frm.refl _ w).setCell (.inl (.inr rfl)) u
theorem c0 (h : NorAt w p q c s) : w.cell? ⟨p, 0, none⟩ = some (.slice (some ⟨q, 0, none⟩) s.n c) := h.blk.cell 0
theorem c1 (h : NorAt w p q c s) : w.cell? ⟨p, 1, none⟩ = some (.int .i64 s.guard) := h.blk.cell 1
theorem c2 (h : NorAt w p q c s) : w.cell? ⟨p, 2, none⟩ = some (.int .i64 s.arm) := h.blk.cell 2
theorem c3 (h : NorAt w p q c s) : w.cell? ⟨p, 3, none⟩ = some (.bool s.down) := h.blk.cell 3
theorem c4 (h : NorAt w p q c s) : w.cell? ⟨p, 4, none⟩ = some (.int .i64 s.half) := h.blk.cell 4
theorem n0 (h : NorAt w p q c s) : (((s.n : Nat) : Int) == 0) = false := by have := h.ok.n1; rw [beq_eq_false_iff_ne]; omega
end NorAt

theorem none_no (v : Value) (w : World) (h : NoNor w v) : Calls Try.prog 51 #[v] w fun e w' => e = .returned (.bool true) ∧ w = w' := by
  rcases h with rfl | ⟨p, A, c, rfl, hc⟩
  all_goals
    go_enter Try.func51, Try.ntmps51
    go_wp2
    go_ret
    exact ⟨rfl, rfl⟩

section
variable {w : World} {p q c : Nat} {s : NorS}
theorem none_is (h : NorAt w p q c s) : Calls Try.prog 51 #[.pointer (some ⟨p, 0, none⟩)] w fun e w' => e = .returned (.bool false) ∧ w = w' := by
  have h0 := h.c0
  have hn := h.n0
  clear h
  go_enter Try.func51, Try.ntmps51
  go_wp2
  go_ret
  exact ⟨rfl, rfl⟩

set_option maxHeartbeats 400000 in
theorem there_is (sec k m : Int) (h : NorAt w p q c s) (hm : 0 ≤ m) (hm2 : m ≤ 9223372036854775807) :
    Calls Try.prog 56 #[.pointer (some ⟨p, 0, none⟩), .int .i64 sec, .int .i64 k, .int .i64 m] w fun e w' => e = .returned (.bool (s.there sec k m)) ∧ w = w' := by
  have h0 := h.c0
  have hn := h.ok.n2
  have ht : Hid (∀ b, s.there sec k m = b ↔ (decide (0 ≤ sec) && decide (sec < s.n) && decide (0 ≤ k) && decide (m ≤ 64) && decide (k ≤ 64 - m)) = b) := fun b => Iff.rfl
  clear h
  go_enter Try.func56, Try.ntmps56
  go_wp2
  all_goals
    go_ret
    refine ⟨ret_bool (((ht.out _).2 ?_).symm), rfl⟩
    rw [Bool.eq_iff_iff]
    simp
    try omega

set_option maxHeartbeats 400000 in
theorem up_is (sec k m : Int) (h : NorAt w p q c s) (hm : 0 ≤ m) (hm2 : m ≤ 9223372036854775807) :
    Calls Try.prog 70 #[.pointer (some ⟨p, 0, none⟩), .int .i64 sec, .int .i64 k, .int .i64 m] w fun e w' => e = .returned (.int .i64 (s.up sec k m)) ∧ w = w' := by
  have h3 := h.c3
  have ht : Hid (s.up sec k m = if s.down = true then 40 else if s.there sec k m = true then 0 else 2) := rfl
  have H := hide h
  clear h
  go_enter Try.func70, Try.ntmps70
  go_wp2_with (first
    | (go_at_call 51; refine (none_is H.out).mono ?_; rintro e w' ⟨rfl, rfl⟩)
    | (go_at_call 56; refine (there_is _ _ _ H.out hm hm2).mono ?_; rintro e w' ⟨rfl, rfl⟩))
  all_goals
    go_ret
    refine ⟨ret_int ?_, rfl⟩
    rw [ht.out]
    simp_all

theorem up_no (sec k m : Int) (v : Value) (h : NoNor w v) :
    Calls Try.prog 70 #[v, .int .i64 sec, .int .i64 k, .int .i64 m] w fun e w' => e = .returned (.int .i64 1) ∧ w = w' := by
  have H := hide h
  clear h
  go_enter Try.func70, Try.ntmps70
  go_wp2_with (first
    | (go_at_call 51; refine (none_no _ _ H.out).mono ?_; rintro e w' ⟨rfl, rfl⟩))
  go_ret
  exact ⟨rfl, rfl⟩

/-- a step -/
theorem step_is (h : NorAt w p q c s) :
    Calls Try.prog 71 #[.pointer (some ⟨p, 0, none⟩)] w fun e w' => e = .returned (.bool s.steps) ∧ NorAt w' p q c s.step ∧ Frm (Two p q) w w' := by
  have h2 := h.c2
  have h3 := h.c3
  have f2 := h.blk.frozen 2
  have f3 := h.blk.frozen 3
  have ha := h.ok.a0
  have hb := h.ok.a1
  have H := hide h
  clear h
  by_cases h0 : s.arm = 0
  · have e0 : (s.arm == 0) = true := by simp [h0]
    have E : Hid (s.step = { s with down := true, arm := -1 }) := by show _ = _; unfold NorS.step; rw [if_pos h0]
    have Es : Hid (s.steps = false) := by show _ = _; unfold NorS.steps; rw [e0]; rfl
    clear h0
    go_enter Try.func71, Try.ntmps71
    go_wp2
    go_ret
    refine ⟨ret_bool Es.out.symm, ?_, ((Frm.refl _ w).setCell (.inl (.inl rfl)) _).setCell (.inl (.inl rfl)) _⟩
    have o := H.out.ok.step
    rw [E.out] at o ⊢
    exact H.out.turn ((H.out.blk.set_ 3 (.bool true)).set_ 2 (.int .i64 (-1))) (((Frm.refl (One p) w).set1 _ _).set1 _ _) rfl rfl o
  · have e0 : (s.arm == 0) = false := by simp [h0]
    have E : Hid (s.step = { s with arm := max (s.arm - 1) (-1) }) := by show _ = _; unfold NorS.step; rw [if_neg h0]
    have Es : Hid (s.steps = true) := by show _ = _; unfold NorS.steps; rw [e0]; rfl
    clear h0
    go_enter Try.func71, Try.ntmps71
    go_wp2
    all_goals
      go_ret
      refine ⟨ret_bool Es.out.symm, ?_, (Frm.refl _ w).setCell (.inl (.inl rfl)) _⟩
      have o := H.out.ok.step
      rw [E.out] at o ⊢
      have em : max (s.arm - 1) (-1) = (if s.arm - 1 < -1 then -1 else s.arm - 1) := by split <;> omega
      rw [em] at o ⊢
      first | rw [if_pos h] at o ⊢ | rw [if_neg (by omega)] at o ⊢
      exact H.out.turn (H.out.blk.set_ 2 _) ((Frm.refl (One p) w).set1 _ _) rfl rfl o
end
end Go.Proofs.Ytmeegehmbphooaa
