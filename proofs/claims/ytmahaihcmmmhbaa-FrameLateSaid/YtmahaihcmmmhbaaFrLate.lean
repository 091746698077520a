/-
  The law FrameLate: the walk.
-/
import Derived.Test.YtmahaihcmmmhbaaFrAw
import Derived.Test.YtmahaihcmmmhbaaFrLateP
namespace Go.Proofs.Ytmahaihcmmmhbaa
open Go.RowKit
/-- two windows in two blocks -/
structure LtSt (w wr : World) (p q : Nat) (a b : Nat × Nat) : Prop where
  a : Blk wr p 25 #[.int .i64 a.1, .int .u64 a.2]
  b : Blk wr q 25 #[.int .i64 b.1, .int .u64 b.2]
  f : Frm NoB w wr
  lo : w.heap.size ≤ p
  ne : p ≠ q
  lo2 : w.heap.size ≤ q
def LtRel (w : World) (p q : Nat) (f g : Nat → Nat) (n : Nat) (x : Value) (wr : World) : Prop := ∃ j : Nat, j ≤ n ∧ x = .int .i64 j ∧ LtSt w wr p q (wS f j) (wS g j)
def LtRel2 (w : World) (p q : Nat) (a : Nat × Nat) (n : Nat) (x : Value) (wr : World) : Prop := ∃ j : Nat, j ≤ n ∧ x = .int .i64 j ∧ LtSt w wr p q a a
theorem LtSt.seta {w wr w5 : World} {p q : Nat} {a b : Nat × Nat} (h : LtSt w wr p q a b) (hf : Frm NoB wr w5) (x y : Nat) : LtSt w (w5.setRow p #[.int .i64 x, .int .u64 y]) p q (x, y) b :=
  ⟨(h.a.frm hf (fun e => e)).setRow _, (h.b.frm hf (fun e => e)).setRow_far _ (Ne.symm h.ne), (h.f.trans hf).setRow (.inr h.lo) _, h.lo, h.ne, h.lo2⟩
theorem LtSt.setb {w wr w5 : World} {p q : Nat} {a b : Nat × Nat} (h : LtSt w wr p q a b) (hf : Frm NoB wr w5) (x y : Nat) : LtSt w (w5.setRow q #[.int .i64 x, .int .u64 y]) p q a (x, y) :=
  ⟨(h.a.frm hf (fun e => e)).setRow_far _ h.ne, (h.b.frm hf (fun e => e)).setRow _, (h.f.trans hf).setRow (.inr h.lo2) _, h.lo, h.ne, h.lo2⟩
theorem LtSt.frm {w wr w5 : World} {p q : Nat} {a b : Nat × Nat} (h : LtSt w wr p q a b) (hf : Frm NoB wr w5) : LtSt w w5 p q a b :=
  ⟨h.a.frm hf (fun e => e), h.b.frm hf (fun e => e), h.f.trans hf, h.lo, h.ne, h.lo2⟩
theorem blk_range {w : World} {b : Nat} {t : TypeId} {cs : List Value} (h : Blk w b t cs.toArray) : w.rangeAt b 0 cs := fun i v hv => by
  rw [Nat.zero_add, h.cell i]; simpa using hv
theorem win_one (a b : Nat) : (#[.int .i64 a, .int .u64 b] : Array Value).all (·.oneCell') = true := by simp [Value.oneCell']
set_option maxRecDepth 100000 in
set_option maxHeartbeats 4000000 in
theorem frameLate_is (w : World) (A : Option Addr) (c : Nat) (xs : List Int) (hx : By w (.slice A xs.length c) xs) :
    Calls Try.prog 4 #[.slice A xs.length c] w fun e w' => e = .returned (.bool true) ∧ Frm NoB w w' := by
  obtain ⟨n, hn⟩ : ∃ n, min xs.length 64 = n := ⟨_, rfl⟩
  have hst : LtSt w ((w.alloc (.cells #[.int .i64 (0 : Nat), .int .u64 (0 : Nat)] 25)).alloc (.cells #[.int .i64 (0 : Nat), .int .u64 (0 : Nat)] 25)) w.heap.size (w.heap.size + 1) (wS (lateN xs) 0) (wS (fun i => lateN xs (n - 1 - i)) 0) :=
    ⟨(Blk.new w _ _).alloc _, blk_snd _ _ _ _, ((Frm.refl NoB w).alloc _).alloc _, Nat.le_refl _, by omega, by omega⟩
  have HST := hide hst
  have HX := hide hx
  obtain ⟨m, hm⟩ : ∃ m, xs.length = m := ⟨_, rfl⟩
  have HM := hide hm
  have hmb : (m : Int) ≤ 9223372036854775807 := by
    obtain ⟨A', c', e, h1, h2, h3, h4, h5⟩ := hx
    injection e with e1 e2 e3
    omega
  rw [hm] at hn HX ⊢
  have hnm : n ≤ m := by omega
  have hn64 : n ≤ 64 := by omega
  have hmin : min (m : Int) 64 = (n : Int) := by omega
  have HN := hide hn
  have HB := hide (lateN_bd xs)
  have HU := hide hx.u
  clear hst hx hm hn
  go_enter Try.func4, Try.ntmps4
  go_wp2_with fail
  have HCX : Hid (∀ i W, i < m → Frm NoB w W → ∃ b o, A = some ⟨b, o, none⟩ ∧ b < w.heap.size ∧ W.cell? ⟨b, o + i, none⟩ = some (.int .u8 (xs.getD i 0))) := fun i W hi hf => by
    obtain ⟨A', c', e, h1, -⟩ := HX.out
    injection e with e1 e2 e3
    subst e1
    have hl := HM.out
    obtain ⟨b, o, rfl, hc⟩ := h1 (ints_ne (by intro e; rw [e] at hl; simp at hl; omega))
    have h2 := hc i _ (ints_get (by omega))
    have h3 := World.block_lt_of_cell? w _ h2
    exact ⟨b, o, rfl, h3, (hf.cell (p := ⟨b, o + i, none⟩) h3 (fun e => e)).trans h2⟩
  obtain ⟨q, hq⟩ : ∃ q, w.heap.size + 1 = q := ⟨_, rfl⟩
  obtain ⟨p, hp⟩ : ∃ p, w.heap.size = p := ⟨_, rfl⟩
  rw [hq, hp] at HST
  rw [hq, hp]
  have HP := hide hp
  clear hp hq
  obtain ⟨G, hG⟩ : ∃ G, (fun i => lateN xs (n - 1 - i)) = G := ⟨_, rfl⟩
  rw [hG] at HST
  have HG := hide hG
  have HGT : Hid (wS G n = wS (lateN xs) n) := by show _ = _; rw [← hG]; exact wS_turned HB.out n
  have HGi : Hid (∀ i, G i = lateN xs (n - 1 - i)) := fun i => by rw [← hG]
  have HGB : Hid (∀ i, 1 ≤ G i ∧ G i ≤ 64) := fun i => by rw [← hG]; exact HB.out _
  clear hG HG
  go_loopw [14] (fun x wr => LtRel w p q (lateN xs) G n x wr) (fun i _ => n - (intOf i).toNat)
  case atStart => exact ⟨0, by omega, rfl, HST.out⟩
  case round =>
    clear HST
    obtain ⟨j, hj, rfl, hR⟩ := hrel
    have HR := hide hR
    by_cases hlt : j < n
    · obtain ⟨b, o, hAe, hbw, hcb⟩ := HCX.out j wr (by omega) hR.f
      have HCA : Hid (∀ W, Frm NoB w W → W.cell? ⟨b, o + j, none⟩ = some (.int .u8 (xs.getD j 0))) := fun W hf => by
        obtain ⟨b', o', e', -, h'⟩ := HCX.out j W (by omega) hf
        rw [hAe] at e'
        injection e' with e'
        injection e' with e1 e2
        subst e1 e2
        exact h'
      have HCB : Hid (∀ W, Frm NoB w W → W.cell? ⟨b, o + (n - 1 - j), none⟩ = some (.int .u8 (xs.getD (n - 1 - j) 0))) := fun W hf => by
        obtain ⟨b', o', e', -, h'⟩ := HCX.out (n - 1 - j) W (by omega) hf
        rw [hAe] at e'
        injection e' with e'
        injection e' with e1 e2
        subst e1 e2
        exact h'
      subst hAe
      have hlo := hR.lo
      have hlo2 := hR.lo2
      have hne := hR.ne
      have hpl : p < wr.heap.size := hR.a.lt
      have hql : q < wr.heap.size := hR.b.lt
      have ua := HU.out.get j
      have ub := HU.out.get (n - 1 - j)
      have da := HB.out j
      have db := HB.out (n - 1 - j)
      have ha := wS_bd HB.out j
      have hb := wS_bd HGB.out j
      have qa : IntKind.i64.wrap (1 + xs.getD j 0 % 64) = (lateN xs j : Int) := by rw [IntWalk.i64_in _ (by omega)]; unfold lateN; omega
      have qb : IntKind.i64.wrap (1 + xs.getD (n - 1 - j) 0 % 64) = (lateN xs (n - 1 - j) : Int) := by rw [IntWalk.i64_in _ (by omega)]; unfold lateN; omega
      have wa : IntKind.i64.wrap (xs.getD j 0 % 64) = xs.getD j 0 % 64 := IntWalk.i64_in _ (by omega)
      have wb : IntKind.i64.wrap (xs.getD (n - 1 - j) 0 % 64) = xs.getD (n - 1 - j) 0 % 64 := IntWalk.i64_in _ (by omega)
      have ta : Int.tmod (xs.getD j 0) 64 = xs.getD j 0 % 64 := Int.tmod_eq_emod_of_nonneg (by omega)
      have tb : Int.tmod (xs.getD (n - 1 - j) 0) 64 = xs.getD (n - 1 - j) 0 % 64 := Int.tmod_eq_emod_of_nonneg (by omega)
      have hsa : wS (lateN xs) (j + 1) = ((onceN (wS (lateN xs) j).1 (wS (lateN xs) j).2 (lateN xs j)).1, (onceN (wS (lateN xs) j).1 (wS (lateN xs) j).2 (lateN xs j)).2.1) := rfl
      have hsb : wS G (j + 1) = ((onceN (wS G j).1 (wS G j).2 (lateN xs (n - 1 - j))).1, (onceN (wS G j).1 (wS G j).2 (lateN xs (n - 1 - j))).2.1) := by rw [← HGi.out j]; rfl
      have HSA := hide hsa
      have HSB := hide hsb
      have j0 : (0 : Int) ≤ (j : Int) := by omega
      have j1 : (j : Int) < (m : Int) := by omega
      obtain ⟨N1, hN1⟩ : ∃ N1, n - 1 = N1 := ⟨_, rfl⟩
      obtain ⟨K1, hK1⟩ : ∃ K1, N1 - j = K1 := ⟨_, rfl⟩
      have v1 : IntKind.i64.wrap ((n : Int) - 1) = (N1 : Int) := by rw [IntWalk.i64_in _ (by omega)]; omega
      have v2 : IntKind.i64.wrap ((N1 : Int) - (j : Int)) = (K1 : Int) := by rw [IntWalk.i64_in _ (by omega)]; omega
      have k0 : (0 : Int) ≤ (K1 : Int) := by omega
      have k1 : (K1 : Int) < (m : Int) := by omega
      rw [hN1, hK1] at HSB HCB ub db qb wb tb
      clear hsa hsb hN1 hK1 hcb hR
      generalize wS (lateN xs) j = a at *
      generalize wS G j = b2 at *
      generalize lateN xs j = Q1 at *
      generalize lateN xs K1 = Q2 at *
      generalize xs.getD j 0 = x1 at *
      generalize xs.getD K1 0 = x2 at *
      have KA : Hid (∀ W, Calls Try.prog 9 #[.agg #[.int .i64 a.1, .int .u64 a.2], .int .i64 Q1] W (OncePost W a.1 a.2 Q1)) := fun W => once_is W a.1 a.2 Q1 ha.2 (by omega) da.1 (by omega)
      have KB : Hid (∀ W, Calls Try.prog 9 #[.agg #[.int .i64 b2.1, .int .u64 b2.2], .int .i64 Q2] W (OncePost W b2.1 b2.2 Q2)) := fun W => once_is W b2.1 b2.2 Q2 hb.2 (by omega) db.1 (by omega)
      unfold OncePost winV at KA KB
      go_wp2_with fail
      refine region_perm [(0, 1), (1, 0), (2, 0), (3, 0), (4, 1), (5, 0), (6, 0), (7, 0), (8, 2), (9, 0), (10, 0), (11, 0), (12, 3)] 12 (fun W => Frm (One p) wr W) (fun W => Frm NoB wr W) (by kernel_rfl) (by kernel_rfl) rfl (by kernel_rfl) ((Frm.refl _ _).drew) ((Frm.refl _ _).drew) ?_
      refine mixP_takeY1 (.agg #[.int .i64 a.1, .int .u64 a.2]) rfl (yieldsIf_load_mid (by rfl) 25 (.tmp 3) rfl p 0 rfl [.int .i64 a.1, .int .u64 a.2] _ (fun W hS => blk_range (HR.out.frm hS.2).a) Try.underlying25 rfl win_size) ?_
      try simp only [Act.put, List.setIfInBounds_toArray, List.set_cons_zero, List.set_cons_succ]
      refine mixP_take ?_ rfl (by rfl) (fun w0 hS => ?_) ?_
      rotate_left
      · go_simp
        try with_reducible rfl
      try simp only [Act.put, List.setIfInBounds_toArray, List.set_cons_zero, List.set_cons_succ]
      refine mixP_take ?_ rfl (by rfl) (fun w0 hS => ?_) ?_
      rotate_left
      · go_simp
        try with_reducible rfl
      try simp only [Act.put, List.setIfInBounds_toArray, List.set_cons_zero, List.set_cons_succ]
      refine mixP_take ?_ rfl (by rfl) (fun w0 hS => ?_) ?_
      rotate_left
      · go_simp
        try with_reducible rfl
      try simp only [Act.put, List.setIfInBounds_toArray, List.set_cons_zero, List.set_cons_succ]
      refine mixP_take1 ?_ rfl (by rfl) (fun w0 hS => ?_) ?_
      rotate_left
      · have e9 := HCA.out w0 (HR.out.f.trans hS.2)
        go_simp
        try with_reducible rfl
      try simp only [Act.put, List.setIfInBounds_toArray, List.set_cons_zero, List.set_cons_succ]
      refine mixP_take ?_ rfl (by rfl) (fun w0 hS => ?_) ?_
      rotate_left
      · go_simp
        try with_reducible rfl
      try simp only [Act.put, List.setIfInBounds_toArray, List.set_cons_zero, List.set_cons_succ]
      refine mixP_take ?_ rfl (by rfl) (fun w0 hS => ?_) ?_
      rotate_left
      · go_simp
        try with_reducible rfl
      try simp only [Act.put, List.setIfInBounds_toArray, List.set_cons_zero, List.set_cons_succ]
      refine mixP_take ?_ rfl (by rfl) (fun w0 hS => ?_) ?_
      rotate_left
      · go_simp
        try with_reducible rfl
      try simp only [Act.put, List.setIfInBounds_toArray, List.set_cons_zero, List.set_cons_succ]
      refine mixP_alone rfl (by rfl) (fun K hK => ?_)
      go_simp
      go_at_call 9
      refine (KA.out _).mono ?_
      rintro e w5 ⟨rfl, hf5⟩
      have hf6 : Frm NoB wr w5 := (Frm.refl NoB wr).drew.trans hf5
      show K _ w5
      refine hK _ _ (hf6.mono (fun _ _ e => e.elim)) hf6 ?_
      clear hK K
      try simp only [Act.put, List.setIfInBounds_toArray, List.set_cons_zero, List.set_cons_succ]
      refine mixP_take ?_ rfl (by rfl) (fun w0 hS => ?_) ?_
      rotate_left
      · go_simp
        try with_reducible rfl
      try simp only [Act.put, List.setIfInBounds_toArray, List.set_cons_zero, List.set_cons_succ]
      refine mixP_take ?_ rfl (by rfl) (fun w0 hS => ?_) ?_
      rotate_left
      · go_simp
        try with_reducible rfl
      try simp only [Act.put, List.setIfInBounds_toArray, List.set_cons_zero, List.set_cons_succ]
      refine mixP_take ?_ rfl (by rfl) (fun w0 hS => ?_) ?_
      rotate_left
      · go_simp
        try with_reducible rfl
      try simp only [Act.put, List.setIfInBounds_toArray, List.set_cons_zero, List.set_cons_succ]
      refine mixP_store rfl (by rfl) (fun K hK => ?_)
      refine wp_store_row 25 (.tmp 3) (.tmp 27) rfl p #[.int .i64 (onceN a.1 a.2 Q1).1, .int .u64 (onceN a.1 a.2 Q1).2.1] rfl rfl 25 _ ((HR.out.frm hf6).a) win_size rfl (win_one _ _) ?_
      refine hK _ _ ((hf6.mono (fun _ _ e => e.elim) : Frm (One p) wr w5).setRow (.inl rfl) _) ?_
      clear hK K
      try simp only [Act.put, List.setIfInBounds_toArray, List.set_cons_zero, List.set_cons_succ]
      refine mixP_nil ?_
      refine NoPanic.normal ?_
      have HR6 := hide (HR.out.seta hf6 (onceN a.1 a.2 Q1).1 (onceN a.1 a.2 Q1).2.1)
      clear hf5 hf6
      generalize w5.setRow p #[.int .i64 (onceN a.1 a.2 Q1).1, .int .u64 (onceN a.1 a.2 Q1).2.1] = w6 at *
      go_wp2_with fail
      refine region_perm [(0, 1), (1, 0), (2, 0), (3, 0), (4, 0), (5, 0), (6, 0), (7, 1), (8, 0), (9, 0), (10, 0), (11, 2), (12, 0), (13, 0), (14, 0), (15, 3)] 15 (fun W => Frm (One q) w6 W) (fun W => Frm NoB w6 W) (by kernel_rfl) (by kernel_rfl) rfl (by kernel_rfl) ((Frm.refl _ _).drew) ((Frm.refl _ _).drew) ?_
      refine mixP_takeY1 (.agg #[.int .i64 b2.1, .int .u64 b2.2]) rfl (yieldsIf_load_mid (by rfl) 25 (.tmp 4) rfl q 0 rfl [.int .i64 b2.1, .int .u64 b2.2] _ (fun W hS => blk_range (HR6.out.frm hS.2).b) Try.underlying25 rfl win_size) ?_
      try simp only [Act.put, List.setIfInBounds_toArray, List.set_cons_zero, List.set_cons_succ]
      refine mixP_take ?_ rfl (by rfl) (fun w0 hS => ?_) ?_
      rotate_left
      · go_simp
        try with_reducible rfl
      try simp only [Act.put, List.setIfInBounds_toArray, List.set_cons_zero, List.set_cons_succ]
      refine mixP_take ?_ rfl (by rfl) (fun w0 hS => ?_) ?_
      rotate_left
      · go_simp
        try with_reducible rfl
      try simp only [Act.put, List.setIfInBounds_toArray, List.set_cons_zero, List.set_cons_succ]
      refine mixP_take ?_ rfl (by rfl) (fun w0 hS => ?_) ?_
      rotate_left
      · go_simp
        try with_reducible rfl
      try simp only [Act.put, List.setIfInBounds_toArray, List.set_cons_zero, List.set_cons_succ]
      refine mixP_take ?_ rfl (by rfl) (fun w0 hS => ?_) ?_
      rotate_left
      · go_simp
        try with_reducible rfl
      try simp only [Act.put, List.setIfInBounds_toArray, List.set_cons_zero, List.set_cons_succ]
      refine mixP_take ?_ rfl (by rfl) (fun w0 hS => ?_) ?_
      rotate_left
      · go_simp
        try with_reducible rfl
      try simp only [Act.put, List.setIfInBounds_toArray, List.set_cons_zero, List.set_cons_succ]
      refine mixP_take ?_ rfl (by rfl) (fun w0 hS => ?_) ?_
      rotate_left
      · go_simp
        try with_reducible rfl
      try simp only [Act.put, List.setIfInBounds_toArray, List.set_cons_zero, List.set_cons_succ]
      refine mixP_take1 ?_ rfl (by rfl) (fun w0 hS => ?_) ?_
      rotate_left
      · have e9 := HCB.out w0 (HR6.out.f.trans hS.2)
        go_simp
        try with_reducible rfl
      try simp only [Act.put, List.setIfInBounds_toArray, List.set_cons_zero, List.set_cons_succ]
      refine mixP_take ?_ rfl (by rfl) (fun w0 hS => ?_) ?_
      rotate_left
      · go_simp
        try with_reducible rfl
      try simp only [Act.put, List.setIfInBounds_toArray, List.set_cons_zero, List.set_cons_succ]
      refine mixP_take ?_ rfl (by rfl) (fun w0 hS => ?_) ?_
      rotate_left
      · go_simp
        try with_reducible rfl
      try simp only [Act.put, List.setIfInBounds_toArray, List.set_cons_zero, List.set_cons_succ]
      refine mixP_take ?_ rfl (by rfl) (fun w0 hS => ?_) ?_
      rotate_left
      · go_simp
        try with_reducible rfl
      try simp only [Act.put, List.setIfInBounds_toArray, List.set_cons_zero, List.set_cons_succ]
      refine mixP_alone rfl (by rfl) (fun K hK => ?_)
      go_simp
      go_at_call 9
      refine (KB.out _).mono ?_
      rintro e w7 ⟨rfl, hf5⟩
      have hf6 : Frm NoB w6 w7 := (Frm.refl NoB w6).drew.trans hf5
      show K _ w7
      refine hK _ _ (hf6.mono (fun _ _ e => e.elim)) hf6 ?_
      clear hK K
      try simp only [Act.put, List.setIfInBounds_toArray, List.set_cons_zero, List.set_cons_succ]
      refine mixP_take ?_ rfl (by rfl) (fun w0 hS => ?_) ?_
      rotate_left
      · go_simp
        try with_reducible rfl
      try simp only [Act.put, List.setIfInBounds_toArray, List.set_cons_zero, List.set_cons_succ]
      refine mixP_take ?_ rfl (by rfl) (fun w0 hS => ?_) ?_
      rotate_left
      · go_simp
        try with_reducible rfl
      try simp only [Act.put, List.setIfInBounds_toArray, List.set_cons_zero, List.set_cons_succ]
      refine mixP_take ?_ rfl (by rfl) (fun w0 hS => ?_) ?_
      rotate_left
      · go_simp
        try with_reducible rfl
      try simp only [Act.put, List.setIfInBounds_toArray, List.set_cons_zero, List.set_cons_succ]
      refine mixP_store rfl (by rfl) (fun K hK => ?_)
      refine wp_store_row 25 (.tmp 4) (.tmp 42) rfl q #[.int .i64 (onceN b2.1 b2.2 Q2).1, .int .u64 (onceN b2.1 b2.2 Q2).2.1] rfl rfl 25 _ ((HR6.out.frm hf6).b) win_size rfl (win_one _ _) ?_
      refine hK _ _ ((hf6.mono (fun _ _ e => e.elim) : Frm (One q) w6 w7).setRow (.inl rfl) _) ?_
      clear hK K
      try simp only [Act.put, List.setIfInBounds_toArray, List.set_cons_zero, List.set_cons_succ]
      refine mixP_nil ?_
      refine NoPanic.normal ?_
      have HR7 := hide (HR6.out.setb hf6 (onceN b2.1 b2.2 Q2).1 (onceN b2.1 b2.2 Q2).2.1)
      clear hf5 hf6
      generalize w7.setRow q #[.int .i64 (onceN b2.1 b2.2 Q2).1, .int .u64 (onceN b2.1 b2.2 Q2).2.1] = w8 at *
      go_wp2_with fail
      go_roundw
      case rel => exact ⟨j + 1, by omega, by go_num, by rw [HSA.out, HSB.out]; exact HR7.out⟩
      case measure => simp [intOf]; omega
    · have dj : decide ((j : Int) < (n : Int)) = false := decide_eq_false (by omega)
      have e : j = n := by omega
      have hst : LtSt w wr p q (wS (lateN xs) n) (wS (lateN xs) n) := by
        rw [e, HGT.out] at hR
        exact hR
      have HST := hide hst
      have ha := wS_bd HB.out n
      have HTK := hide (fun i (hi : i < n) => wS_taken HB.out hi)
      clear hR HR hst e
      generalize wS (lateN xs) n = a at *
      go_wp2_with fail
      obtain ⟨wq, rfl⟩ : ∃ wq : World, wq = wr := ⟨_, rfl⟩
      go_loopw [46] (fun x wr => LtRel2 w p q a n x wr) (fun i _ => n - (intOf i).toNat)
      case atStart => exact ⟨0, by omega, rfl, HST.out⟩
      case round =>
        clear HST
        obtain ⟨i, hi, rfl, hR⟩ := hrel
        have HR := hide hR
        by_cases hlt : i < n
        · obtain ⟨b, o, hAe, hbw, hcb⟩ := HCX.out i wr (by omega) hR.f
          have HCA : Hid (∀ W, Frm NoB w W → W.cell? ⟨b, o + i, none⟩ = some (.int .u8 (xs.getD i 0))) := fun W hf => by
            obtain ⟨b', o', e', -, h'⟩ := HCX.out i W (by omega) hf
            rw [hAe] at e'
            injection e' with e'
            injection e' with e1 e2
            subst e1 e2
            exact h'
          subst hAe
          have hpl : p < wr.heap.size := hR.a.lt
          have hql : q < wr.heap.size := hR.b.lt
          have ua := HU.out.get i
          have da := HB.out i
          have qa : IntKind.i64.wrap (1 + xs.getD i 0 % 64) = (lateN xs i : Int) := by rw [IntWalk.i64_in _ (by omega)]; unfold lateN; omega
          have wa : IntKind.i64.wrap (xs.getD i 0 % 64) = xs.getD i 0 % 64 := IntWalk.i64_in _ (by omega)
          have ta : Int.tmod (xs.getD i 0) 64 = xs.getD i 0 % 64 := Int.tmod_eq_emod_of_nonneg (by omega)
          have i0 : (0 : Int) ≤ (i : Int) := by omega
          have i1 : (i : Int) < (m : Int) := by omega
          have htk := HTK.out i hlt
          have KA : Hid (∀ W, Calls Try.prog 9 #[.agg #[.int .i64 a.1, .int .u64 a.2], .int .i64 (lateN xs i)] W (OncePost W a.1 a.2 (lateN xs i))) := fun W => once_is W a.1 a.2 (lateN xs i) ha.2 (by omega) da.1 (by omega)
          unfold OncePost winV at KA
          rw [htk] at KA
          clear htk hcb hR
          generalize lateN xs i = Q1 at *
          generalize xs.getD i 0 = x1 at *
          go_wp2_with fail
          refine region_block [(0, 0), (1, 0), (2, 0), (3, 0), (4, 0), (5, 0), (6, 0), (7, 0), (8, 2), (9, 0), (10, 0), (11, 0)] [(13, 3), (14, 0)] 13 12 8 (fun W => W.alloc (.cells #[.int .i64 0, .int .u64 0] 25)) (fun W => Frm NoB wr W) rfl (fun _ => rfl) (fun a w K h => ?_) (fun W h => h.alloc _) (by kernel_rfl) (by kernel_rfl) rfl (by kernel_rfl) ((Frm.refl _ _).drew) ?_
          · go_simp
            exact h
          refine mxX_take (.agg #[.int .i64 a.1, .int .u64 a.2]) rfl (yieldsIf_load_mid (by rfl) 25 (.tmp 3) rfl p 0 rfl [.int .i64 a.1, .int .u64 a.2] _ (fun W hS => blk_range (HR.out.frm hS).a) Try.underlying25 rfl win_size) ?_
          try simp only [Act.put, List.setIfInBounds_toArray, List.set_cons_zero, List.set_cons_succ]
          refine mxX_take ?_ rfl (.inl ⟨by rfl, fun w0 hS => ?_⟩) ?_
          rotate_left
          · go_simp
            try with_reducible rfl
          try simp only [Act.put, List.setIfInBounds_toArray, List.set_cons_zero, List.set_cons_succ]
          refine mxX_take ?_ rfl (.inl ⟨by rfl, fun w0 hS => ?_⟩) ?_
          rotate_left
          · go_simp
            try with_reducible rfl
          try simp only [Act.put, List.setIfInBounds_toArray, List.set_cons_zero, List.set_cons_succ]
          refine mxX_take ?_ rfl (.inl ⟨by rfl, fun w0 hS => ?_⟩) ?_
          rotate_left
          · go_simp
            try with_reducible rfl
          try simp only [Act.put, List.setIfInBounds_toArray, List.set_cons_zero, List.set_cons_succ]
          refine mxX_take ?_ rfl (.inl ⟨by rfl, fun w0 hS => ?_⟩) ?_
          rotate_left
          · have e9 := HCA.out w0 (HR.out.f.trans hS)
            go_simp
            try with_reducible rfl
          try simp only [Act.put, List.setIfInBounds_toArray, List.set_cons_zero, List.set_cons_succ]
          refine mxX_take ?_ rfl (.inl ⟨by rfl, fun w0 hS => ?_⟩) ?_
          rotate_left
          · go_simp
            try with_reducible rfl
          try simp only [Act.put, List.setIfInBounds_toArray, List.set_cons_zero, List.set_cons_succ]
          refine mxX_take ?_ rfl (.inl ⟨by rfl, fun w0 hS => ?_⟩) ?_
          rotate_left
          · go_simp
            try with_reducible rfl
          try simp only [Act.put, List.setIfInBounds_toArray, List.set_cons_zero, List.set_cons_succ]
          refine mxX_take ?_ rfl (.inl ⟨by rfl, fun w0 hS => ?_⟩) ?_
          rotate_left
          · go_simp
            try with_reducible rfl
          try simp only [Act.put, List.setIfInBounds_toArray, List.set_cons_zero, List.set_cons_succ]
          refine mxX_alone rfl (fun _ => rfl) (fun b2 a2 w2 hN K hK => ?_)
          obtain ⟨X, rfl, hA2, hF2, -⟩ := nxt_slot hN rfl (AX.start wr _ _ _ _) ((Frm.refl NoB wr).drew)
          try simp only [Act.put, List.setIfInBounds_toArray, List.set_cons_zero, List.set_cons_succ]
          clear hN
          go_simp
          go_at_call 9
          refine (KA.out _).mono ?_
          rintro e w3 ⟨rfl, hf3⟩
          have hA3 := hA2.frm hf3
          have hF3 := hF2.trans hf3
          show K _ w3
          refine hK _ _ hF3 ?_
          clear hK K hA2 hF2 hf3
          try simp only [Act.put, List.setIfInBounds_toArray, List.set_cons_zero, List.set_cons_succ]
          refine mxX_take ?_ rfl (.inl ⟨by rfl, fun w0 hS => ?_⟩) ?_
          rotate_left
          · go_simp
            try with_reducible rfl
          try simp only [Act.put, List.setIfInBounds_toArray, List.set_cons_zero, List.set_cons_succ]
          refine mxX_take ?_ rfl (.inl ⟨by rfl, fun w0 hS => ?_⟩) ?_
          rotate_left
          · go_simp
            try with_reducible rfl
          try simp only [Act.put, List.setIfInBounds_toArray, List.set_cons_zero, List.set_cons_succ]
          refine mxX_take ?_ rfl (.inl ⟨by rfl, fun w0 hS => ?_⟩) ?_
          rotate_left
          · go_simp
            try with_reducible rfl
          try simp only [Act.put, List.setIfInBounds_toArray, List.set_cons_zero, List.set_cons_succ]
          refine mxX_nil (fun a10 w10 hN => ?_)
          obtain ⟨X10, rfl, hA10, hF10, -⟩ := nxt_slot hN rfl hA3 hF3
          obtain ⟨r, rfl, hr, hrl⟩ := hA10 rfl
          try simp only [Act.put, List.setIfInBounds_toArray, List.set_cons_zero, List.set_cons_succ]
          refine mixP_store rfl (by rfl) (fun K hK => ?_)
          refine wp_store_row 25 (.tmp 8) (.tmp 59) rfl r #[.int .i64 (onceN a.1 a.2 Q1).1, .int .u64 (onceN a.1 a.2 Q1).2.1] rfl rfl 25 _ hr win_size rfl (win_one _ _) ?_
          refine hK _ _ (hF10.setRow (.inr hrl) _) ?_
          clear hK K
          try simp only [Act.put, List.setIfInBounds_toArray, List.set_cons_zero, List.set_cons_succ]
          refine mixP_take ?_ rfl (by rfl) (fun w0 hS => ?_) ?_
          rotate_left
          · go_simp
            try with_reducible rfl
          try simp only [Act.put, List.setIfInBounds_toArray, List.set_cons_zero, List.set_cons_succ]
          refine mixP_nil ?_
          refine NoPanic.normal ?_
          have HR8 := hide (HR.out.frm (hF10.setRow (.inr hrl) #[.int .i64 (onceN a.1 a.2 Q1).1, .int .u64 (onceN a.1 a.2 Q1).2.1]))
          clear hF10 hrl hr hA10 hN hA3 hF3
          generalize w10.setRow r #[.int .i64 (onceN a.1 a.2 Q1).1, .int .u64 (onceN a.1 a.2 Q1).2.1] = w11 at *
          go_wp2_with fail
          go_roundw
          case rel => exact ⟨i + 1, by omega, by go_num, HR8.out⟩
          case measure => simp [intOf]; omega
        · have di : decide ((i : Int) < (n : Int)) = false := decide_eq_false (by omega)
          have c0 := hR.a.cell 0
          have c1 := hR.a.cell 1
          have c2 := hR.b.cell 0
          have c3 := hR.b.cell 1
          have HF := hide hR.f
          clear hR HR
          go_wp2_with fail
          refine (awake_is _).mono ?_
          rintro e w9 ⟨rfl, hf9⟩
          go_wp2
          go_ret
          exact ⟨rfl, HF.out.trans hf9⟩
end Go.Proofs.Ytmahaihcmmmhbaa
