/-
  Texts of this claim, joined: Dp17, Dp18, Dp19, RefP, Args, RefC.
-/
import Derived.Test.YtplngfphklpicaaPDrivePlaysx0
import Derived.Laws.ResultCell
import Derived.Test.YtplngfphklpicaaDpJ2
-- one function of what print.sh printed for DrivePlays (printcut.py)
namespace Go.Proofs.Ytplngfphklpicaa.PDrivePlays
open Go.RowKit Go.Proofs.YtplngfphklpicaaW.PrintWords Go.Proofs.YtplngfphklpicaaW.PrintLast Go.Proofs.YtplngfphklpicaaW.PrintMore
attribute [local go_sem] max2_int min2_int max_two min_two max_three min_three max_four min_four   -- for this text's walks alone
set_option linter.unusedVariables false
set_option linter.unusedSimpArgs false

/-! ### blockhouseref04_Nor_Crash: function 35 -/
mutual
def blockhouseref04_Nor_Crash.l0 : Nat → List Bool → Int → List Int → Int → Int → Bool → Int → Option (List Int × Int × Int × Bool × Int)
  | 0, _, _, _, _, _, _, _ => none
  | k + 1, x1, x5, x212000, x212001, x212002, x212003, x212004 => if x5 < 64 then (blockhouseref04_Nor_Crash.j1 k x1 x5 (decide (x212004 ≥ 0)) x212000 x212001 x212002 x212003 x212004) else (blockhouseref04_Nor_Crash.j1 k x1 x5 false x212000 x212001 x212002 x212003 x212004)
def blockhouseref04_Nor_Crash.j1 : Nat → List Bool → Int → Bool → List Int → Int → Int → Bool → Int → Option (List Int × Int × Int × Bool × Int)
  | 0, _, _, _, _, _, _, _, _ => none
  | k + 1, x1, x5, x14, x212000, x212001, x212002, x212003, x212004 => if x14 = true then (if x5 < (x1.length : Int) then (if 0 ≤ x5 then (if rdOf false x1 x5 = true then (if 0 ≤ (wrap64 ((wrap64 (x212004 * 64)) + x5)) then (if (wrap64 ((wrap64 (x212004 * 64)) + x5)) < (x212000.length : Int) then (blockhouseref04_Nor_Crash.l0 k x1 (wrap64 (x5 + 1)) (x212000.set ((wrap64 ((wrap64 (x212004 * 64)) + x5)) : Int).toNat 4294967295) x212001 x212002 x212003 x212004) else (none)) else (none)) else (blockhouseref04_Nor_Crash.l0 k x1 (wrap64 (x5 + 1)) x212000 x212001 x212002 x212003 x212004)) else (none)) else (blockhouseref04_Nor_Crash.l0 k x1 (wrap64 (x5 + 1)) x212000 x212001 x212002 x212003 x212004)) else (some (x212000, x212001, (-1), false, (-1)))
end
def blockhouseref04_Nor_Crash.f (k : Nat) (l0_0 : List Int) (a0_1 : Int) (a0_2 : Int) (a0_3 : Bool) (a0_4 : Int) (l1 : List Bool) : Option (List Int × Int × Int × Bool × Int) := (blockhouseref04_Nor_own.f l0_0 a0_1 a0_2 a0_3 a0_4).bind fun bt213 => (blockhouseref04_Nor_Crash.l0 k l1 0 bt213.1 bt213.2.1 bt213.2.2.1 bt213.2.2.2.1 bt213.2.2.2.2)
theorem blockhouseref04_Nor_Crash.mono_l : ∀ k, (∀ y0 y1 y2 y3 y4 y5 y6, LeO (blockhouseref04_Nor_Crash.l0 k y0 y1 y2 y3 y4 y5 y6) (blockhouseref04_Nor_Crash.l0 (k + 1) y0 y1 y2 y3 y4 y5 y6)) ∧ (∀ y0 y1 y2 y3 y4 y5 y6 y7, LeO (blockhouseref04_Nor_Crash.j1 k y0 y1 y2 y3 y4 y5 y6 y7) (blockhouseref04_Nor_Crash.j1 (k + 1) y0 y1 y2 y3 y4 y5 y6 y7))
  | 0 => ⟨fun _ _ _ _ _ _ _ r h => by simp [blockhouseref04_Nor_Crash.l0] at h, fun _ _ _ _ _ _ _ _ r h => by simp [blockhouseref04_Nor_Crash.j1] at h⟩
  | k + 1 => by
    obtain ⟨ih0, ih1⟩ := blockhouseref04_Nor_Crash.mono_l k
    refine ⟨?_, ?_⟩
    · intro y0 y1 y2 y3 y4 y5 y6
      unfold blockhouseref04_Nor_Crash.l0
      repeat' first
      | (with_reducible exact ih0 _ _ _ _ _ _ _)
      | (with_reducible exact ih1 _ _ _ _ _ _ _ _)
      | (with_reducible exact LeO.refl _)
      | (with_reducible exact LeO.none _)
      | (with_reducible refine LeO.ite ?_ ?_)
      | (with_reducible refine LeO.bind ?_ (fun _ => ?_))
      | exact ih0 _ _ _ _ _ _ _
      | exact ih1 _ _ _ _ _ _ _ _
      | exact LeO.none _
      | refine LeO.ite ?_ ?_
      | refine LeO.bind ?_ (fun _ => ?_)
    · intro y0 y1 y2 y3 y4 y5 y6 y7
      unfold blockhouseref04_Nor_Crash.j1
      repeat' first
      | (with_reducible exact ih0 _ _ _ _ _ _ _)
      | (with_reducible exact ih1 _ _ _ _ _ _ _ _)
      | (with_reducible exact LeO.refl _)
      | (with_reducible exact LeO.none _)
      | (with_reducible refine LeO.ite ?_ ?_)
      | (with_reducible refine LeO.bind ?_ (fun _ => ?_))
      | exact ih0 _ _ _ _ _ _ _
      | exact ih1 _ _ _ _ _ _ _ _
      | exact LeO.none _
      | refine LeO.ite ?_ ?_
      | refine LeO.bind ?_ (fun _ => ?_)
theorem blockhouseref04_Nor_Crash.mono : ∀ a0 a1 a2 a3 a4 a5 k, LeO (blockhouseref04_Nor_Crash.f k a0 a1 a2 a3 a4 a5) (blockhouseref04_Nor_Crash.f (k + 1) a0 a1 a2 a3 a4 a5) := by
  intro a0 a1 a2 a3 a4 a5 k
  obtain ⟨ih0, ih1⟩ := blockhouseref04_Nor_Crash.mono_l k
  unfold blockhouseref04_Nor_Crash.f
  repeat' first
      | (with_reducible exact ih0 _ _ _ _ _ _ _)
      | (with_reducible exact ih1 _ _ _ _ _ _ _ _)
      | (with_reducible exact LeO.refl _)
      | (with_reducible exact LeO.none _)
      | (with_reducible refine LeO.ite ?_ ?_)
      | (with_reducible refine LeO.bind ?_ (fun _ => ?_))
      | exact ih0 _ _ _ _ _ _ _
      | exact ih1 _ _ _ _ _ _ _ _
      | exact LeO.none _
      | refine LeO.ite ?_ ?_
      | refine LeO.bind ?_ (fun _ => ?_)
set_option maxHeartbeats 8000000 in
set_option maxRecDepth 100000 in
theorem blockhouseref04_Nor_Crash.calls (k : Nat) (A0_0 : Option Addr) (c0_0 : Nat) (l0_0 : List Int) (a0_1 : Int) (a0_2 : Int) (a0_3 : Bool) (a0_4 : Int) (A1 : Option Addr) (c1 : Nat) (l1 : List Bool) (r1 : List Int) (r2 : Int) (r3 : Int) (r4 : Bool) (r5 : Int) (w : World) (hr0_0 : Kd.C (Kd.int .u32) w A0_0 l0_0.length l0_0) (hc0_0 : l0_0.length ≤ c0_0) (hr1 : Kd.C Kd.bool w A1 l1.length l1) (hc1 : l1.length ≤ c1) (h : blockhouseref04_Nor_Crash.f k l0_0 a0_1 a0_2 a0_3 a0_4 l1 = some (r1, r2, r3, r4, r5)) :
    Calls Try.prog 35 #[.agg #[.slice A0_0 l0_0.length c0_0, .int .i64 a0_1, .int .i64 a0_2, .bool a0_3, .int .i64 a0_4], .slice A1 l1.length c1] w fun e w' => ∃ v0_ : Value, e = .returned (.agg #[v0_, .int .i64 r2, .int .i64 r3, .bool r4, .int .i64 r5]) ∧ Kd.R (Kd.int .u32) 48 w' w.heap.size (fun _ => True) v0_ r1 ∧ Below w.heap.size w w' := by
  have hu65 := Try.underlying65
  have HR0_0 := Aside0.mk hr0_0
  have HC0_0 := Aside0.mk hc0_0
  clear hr0_0 hc0_0
  have HR1 := Aside0.mk hr1
  have HC1 := Aside0.mk hc1
  clear hr1 hc1
  have HB := Aside0.mk (Below.refl w.heap.size w)
  have H : ((blockhouseref04_Nor_own.f l0_0 a0_1 a0_2 a0_3 a0_4).bind fun bt213 => (blockhouseref04_Nor_Crash.l0 k l1 0 bt213.1 bt213.2.1 bt213.2.2.1 bt213.2.2.2.1 bt213.2.2.2.2)) = some (r1, r2, r3, r4, r5) := h
  clear h
  replace H := Option.bind_eq_some_iff.mp H
  obtain ⟨⟨t213, t216, t217, t218, t219⟩, A30, H⟩ := H
  replace H : (blockhouseref04_Nor_Crash.l0 k l1 0 t213 t216 t217 t218 t219) = some (r1, r2, r3, r4, r5) := H
  have A3 := Aside0.mk A30
  clear A30
  have H' := Aside0.mk H
  clear H
  go_enter Try.func35, Try.ntmps35
  go_wp2_with (first | ((with_reducible refine gate_dst (N := 2) rfl ?_); refine box_event ?hg (N := 2) ?hd (cs := #[.slice A0_0 l0_0.length c0_0, .int .i64 a0_1, .int .i64 a0_2, .bool a0_3, .int .i64 a0_4]) (t := 65) ?hr ?_; (case hd => rfl); (case hg => rfl); (case hr => first | (go_simp; done) | (go_simp; rfl)); intro gb211 hg w4 hbox hb; have n0_ := Aside0.mk (below_step (by repeat (first | (with_reducible first | exact HB.out | apply below_alloc | apply pw_below_drewN | apply below_drew1) | exact HB.out)) hb); have n1_ := Aside0.mk (hbox); have n2_ := Aside0.mk ((by rw [hg]; exact (below_size (by repeat (first | (with_reducible first | exact HB.out | apply below_alloc | apply pw_below_drewN | apply below_drew1) | exact HB.out))) : w.heap.size ≤ gb211)); have n3_ := Aside0.mk ((by rw [hg]; exact (below_size (by repeat (first | (with_reducible first | exact HB.out | apply below_alloc | apply pw_below_drewN | apply below_drew1) | exact HB.out))) : w.heap.size ≤ gb211)); clear HB; have HB := n0_; have BK211 := n1_; have GW211 := n2_; have GE211 := n3_; clear n0_ n1_ n2_ n3_; clear hb hbox hg) | ((with_reducible refine gate_dst (N := 4) rfl ?_); refine box_event ?hg (N := 4) ?hd (cs := #[.slice none 0 0, .int .i64 0, .int .i64 0, .bool false, .int .i64 0]) (t := 65) ?hr ?_; (case hd => rfl); (case hg => rfl); (case hr => first | (go_simp; done) | (go_simp; rfl)); intro gb212 hg w5 hbox hb; have n0_ := Aside0.mk (blk_below (g := gb211) (o := .cells #[.slice A0_0 l0_0.length c0_0, .int .i64 a0_1, .int .i64 a0_2, .bool a0_3, .int .i64 a0_4] 65 (0, 0)) (by (with_reducible repeat (first | refine blk_drewN ?_ _ | refine blk_drew ?_ | refine blk_alloc ?_ _)); exact BK211.out) hb); have n1_ := Aside0.mk (below_step (by repeat (first | (with_reducible first | exact HB.out | apply below_alloc | apply pw_below_drewN | apply below_drew1 | refine below_set ?_ GE211.out) | exact HB.out)) hb); have n2_ := Aside0.mk (hbox); have n3_ := Aside0.mk ((by rw [hg]; exact (below_size (by repeat (first | (with_reducible first | exact HB.out | apply below_alloc | apply pw_below_drewN | apply below_drew1 | refine below_set ?_ GE211.out) | exact HB.out))) : w.heap.size ≤ gb212)); have n4_ := Aside0.mk ((by rw [hg]; exact (below_size (by repeat (first | (with_reducible first | exact HB.out | apply below_alloc | apply pw_below_drewN | apply below_drew1 | refine below_set ?_ GE211.out) | exact HB.out))) : w.heap.size ≤ gb212)); have n5_ := Aside0.mk ((by rw [hg]; exact Nat.ne_of_lt (blk_lt (g := gb211) (o := .cells #[.slice A0_0 l0_0.length c0_0, .int .i64 a0_1, .int .i64 a0_2, .bool a0_3, .int .i64 a0_4] 65 (0, 0)) (by (with_reducible repeat (first | refine blk_drewN ?_ _ | refine blk_drew ?_ | refine blk_alloc ?_ _)); exact BK211.out)) : gb211 ≠ gb212)); have n6_ := Aside0.mk ((by rw [hg]; exact Nat.ne_of_gt (blk_lt (g := gb211) (o := .cells #[.slice A0_0 l0_0.length c0_0, .int .i64 a0_1, .int .i64 a0_2, .bool a0_3, .int .i64 a0_4] 65 (0, 0)) (by (with_reducible repeat (first | refine blk_drewN ?_ _ | refine blk_drew ?_ | refine blk_alloc ?_ _)); exact BK211.out)) : gb212 ≠ gb211)); clear BK211; clear HB; have BK211 := n0_; have HB := n1_; have BK212 := n2_; have GW212 := n3_; have GE212 := n4_; have NB211_212 := n5_; have NB212_211 := n6_; clear n0_ n1_ n2_ n3_ n4_ n5_ n6_; clear hb hbox hg; have hnb6 := NB211_212.out; have hnc6 := NB212_211.out; have hcz7_0 : w5.cell? ⟨gb211, 0, none⟩ = some (.slice A0_0 l0_0.length c0_0) := (blk_cell BK211.out 0).trans rfl; have hcz7_1 : w5.cell? ⟨gb211, 1, none⟩ = some (.int .i64 a0_1) := (blk_cell BK211.out 1).trans rfl; have hcz7_2 : w5.cell? ⟨gb211, 2, none⟩ = some (.int .i64 a0_2) := (blk_cell BK211.out 2).trans rfl; have hcz7_3 : w5.cell? ⟨gb211, 3, none⟩ = some (.bool a0_3) := (blk_cell BK211.out 3).trans rfl; have hcz7_4 : w5.cell? ⟨gb211, 4, none⟩ = some (.int .i64 a0_4) := (blk_cell BK211.out 4).trans rfl; have hfz7_0 := blk_frozen BK211.out 0; have hfz7_1 := blk_frozen BK211.out 1; have hfz7_2 := blk_frozen BK211.out 2; have hfz7_3 := blk_frozen BK211.out 3; have hfz7_4 := blk_frozen BK211.out 4) | ((with_reducible refine gate_callee (f := 57) rfl ?_); refine goesL_ (some 7) rfl rfl Try.func57 (by kernel_rfl) rfl #[.agg #[.slice A0_0 l0_0.length c0_0, .int .i64 a0_1, .int .i64 a0_2, .bool a0_3, .int .i64 a0_4]] rfl (by (try simp only [List.map_toArray, List.map_cons, List.map_nil]); first | done | rfl | (simp only [List.length_drop, List.length_take]; rfl)) ?_; (with_reducible refine (blockhouseref04_Nor_own.calls _ _ l0_0 a0_1 a0_2 a0_3 a0_4 t213 t216 t217 t218 t219 _ ?side1 ?side2 A3.out).mono ?_); (case side1 => repeat (first | exact (Kd.C_below HR0_0.out HB.out) | (with_reducible refine Kd.C_alloc ?_ _) | (with_reducible refine Kd.C_drewN ?_ _) | (with_reducible refine Kd.C_drew ?_))); (case side2 => exact HC0_0.out); rintro e w8 ⟨v214, rfl, ho0, hb⟩; refine ⟨_, rfl, ?_⟩; have n0_ := Aside0.mk (Kd.R_lower ho0 (below_size (by repeat (first | (with_reducible first | exact HB.out | apply below_alloc | apply pw_below_drewN | apply below_drew1 | refine below_set ?_ GE211.out | refine below_set ?_ GE212.out) | exact HB.out)))); have n1_ := Aside0.mk (blk_below (g := gb211) (o := .cells #[.slice A0_0 l0_0.length c0_0, .int .i64 a0_1, .int .i64 a0_2, .bool a0_3, .int .i64 a0_4] 65 (0, 0)) (by (with_reducible repeat (first | refine blk_drewN ?_ _ | refine blk_drew ?_ | refine blk_alloc ?_ _)); exact BK211.out) hb); have n2_ := Aside0.mk (blk_below (g := gb212) (o := .cells #[.slice none 0 0, .int .i64 0, .int .i64 0, .bool false, .int .i64 0] 65 (0, 0)) (by (with_reducible repeat (first | refine blk_drewN ?_ _ | refine blk_drew ?_ | refine blk_alloc ?_ _)); exact BK212.out) hb); have n3_ := Aside0.mk (below_step (by repeat (first | (with_reducible first | exact HB.out | apply below_alloc | apply pw_below_drewN | apply below_drew1 | refine below_set ?_ GE211.out | refine below_set ?_ GE212.out) | exact HB.out)) hb); clear BK211; clear BK212; clear HB; have HO215 := n0_; have BK211 := n1_; have BK212 := n2_; have HB := n3_; clear n0_ n1_ n2_ n3_; (try clear hb); (try clear hb2); (try clear hk); (try clear hi); (try clear ho0); obtain ⟨Ao9, co9, eo9⟩ := Kd.R_slice HO215.out; subst eo9; have hcz10_0 : w8.cell? ⟨gb211, 0, none⟩ = some (.slice A0_0 l0_0.length c0_0) := (blk_cell BK211.out 0).trans rfl; have hcz10_1 : w8.cell? ⟨gb211, 1, none⟩ = some (.int .i64 a0_1) := (blk_cell BK211.out 1).trans rfl; have hcz10_2 : w8.cell? ⟨gb211, 2, none⟩ = some (.int .i64 a0_2) := (blk_cell BK211.out 2).trans rfl; have hcz10_3 : w8.cell? ⟨gb211, 3, none⟩ = some (.bool a0_3) := (blk_cell BK211.out 3).trans rfl; have hcz10_4 : w8.cell? ⟨gb211, 4, none⟩ = some (.int .i64 a0_4) := (blk_cell BK211.out 4).trans rfl; have hfz10_0 := blk_frozen BK211.out 0; have hfz10_1 := blk_frozen BK211.out 1; have hfz10_2 := blk_frozen BK211.out 2; have hfz10_3 := blk_frozen BK211.out 3; have hfz10_4 := blk_frozen BK211.out 4))
  go_loopg [5] k (fun kq v5 w' => ∃ (x5_1 : Int) (x212000_1 : List Int) (u212000 : Value), v5 = .int .i64 x5_1 ∧ Aside0 (blockhouseref04_Nor_Crash.l0 kq l1 x5_1 x212000_1 t216 t217 t218 t219 = some (r1, r2, r3, r4, r5)) ∧ Aside0 (kq ≤ k) ∧ Aside0 (Kd.R (Kd.int .u32) 48 w' w.heap.size (fun _ => True) u212000 x212000_1) ∧ Aside0 (w'.heap[gb211]? = some (.cells #[u212000, .int .i64 t216, .int .i64 t217, .bool t218, .int .i64 t219] 65 (0, 0))) ∧ Aside0 (w'.heap[gb212]? = some (.cells #[(.slice none 0 0), .int .i64 0, .int .i64 0, .bool false, .int .i64 0] 65 (0, 0))) ∧ Aside0 (Below w.heap.size w w'))
  case atStart => exact ⟨(0), (t213), (.slice Ao9 t213.length co9), (by first | rfl | (simp; done) | (simp [*]; done)), H', ⟨Nat.le_refl _⟩, ⟨by (with_reducible repeat (first | apply Kd.R_alloc | apply Kd.R_drewN | apply Kd.R_drew)); exact Kd.R_mono (Kd.R_far (p := ⟨gb211, 4, none⟩) (Kd.R_far (p := ⟨gb211, 3, none⟩) (Kd.R_far (p := ⟨gb211, 2, none⟩) (Kd.R_far (p := ⟨gb211, 1, none⟩) (Kd.R_far (p := ⟨gb211, 0, none⟩) (Kd.R_types HO215.out BK211.out (by decide)) (fun _ hk => hk.2) (.slice Ao9 t213.length co9)) (fun _ hk => hk.2) (.int .i64 t216)) (fun _ hk => hk.2) (.int .i64 t217)) (fun _ hk => hk.2) (.bool t218)) (fun _ hk => hk.2) (.int .i64 t219)) (fun _ hk => trivial)⟩, ⟨by (with_reducible repeat (first | refine blk_drewN ?_ _ | refine blk_drew ?_ | refine blk_alloc ?_ _)); refine blk_put (cs := #[.slice Ao9 t213.length co9, .int .i64 t216, .int .i64 t217, .bool t218, .int .i64 a0_4]) ?_ 4 _ rfl; (with_reducible repeat (first | refine blk_drewN ?_ _ | refine blk_drew ?_ | refine blk_alloc ?_ _)); refine blk_put (cs := #[.slice Ao9 t213.length co9, .int .i64 t216, .int .i64 t217, .bool a0_3, .int .i64 a0_4]) ?_ 3 _ rfl; (with_reducible repeat (first | refine blk_drewN ?_ _ | refine blk_drew ?_ | refine blk_alloc ?_ _)); refine blk_put (cs := #[.slice Ao9 t213.length co9, .int .i64 t216, .int .i64 a0_2, .bool a0_3, .int .i64 a0_4]) ?_ 2 _ rfl; (with_reducible repeat (first | refine blk_drewN ?_ _ | refine blk_drew ?_ | refine blk_alloc ?_ _)); refine blk_put (cs := #[.slice Ao9 t213.length co9, .int .i64 a0_1, .int .i64 a0_2, .bool a0_3, .int .i64 a0_4]) ?_ 1 _ rfl; (with_reducible repeat (first | refine blk_drewN ?_ _ | refine blk_drew ?_ | refine blk_alloc ?_ _)); refine blk_put (cs := #[.slice A0_0 l0_0.length c0_0, .int .i64 a0_1, .int .i64 a0_2, .bool a0_3, .int .i64 a0_4]) ?_ 0 _ rfl; (with_reducible repeat (first | refine blk_drewN ?_ _ | refine blk_drew ?_ | refine blk_alloc ?_ _)); exact BK211.out⟩, ⟨by (with_reducible repeat (first | refine blk_drewN ?_ _ | refine blk_drew ?_ | refine blk_alloc ?_ _)); refine blk_far ?_ NB212_211.out _; (with_reducible repeat (first | refine blk_drewN ?_ _ | refine blk_drew ?_ | refine blk_alloc ?_ _)); refine blk_far ?_ NB212_211.out _; (with_reducible repeat (first | refine blk_drewN ?_ _ | refine blk_drew ?_ | refine blk_alloc ?_ _)); refine blk_far ?_ NB212_211.out _; (with_reducible repeat (first | refine blk_drewN ?_ _ | refine blk_drew ?_ | refine blk_alloc ?_ _)); refine blk_far ?_ NB212_211.out _; (with_reducible repeat (first | refine blk_drewN ?_ _ | refine blk_drew ?_ | refine blk_alloc ?_ _)); refine blk_far ?_ NB212_211.out _; (with_reducible repeat (first | refine blk_drewN ?_ _ | refine blk_drew ?_ | refine blk_alloc ?_ _)); exact BK212.out⟩, ⟨by repeat (first | (with_reducible first | exact HB.out | apply below_alloc | apply pw_below_drewN | apply below_drew1 | refine below_set ?_ GE211.out | refine below_set ?_ GE212.out) | exact HB.out)⟩⟩
  case round =>
    clear H'
    try clear c1
    try clear p2
    try clear c3
    try clear c5
    try clear c6
    try clear hcz10_0
    try clear hcz10_1
    try clear hcz10_2
    try clear hcz10_3
    try clear hcz10_4
    try clear hcz7_0
    try clear hcz7_1
    try clear hcz7_2
    try clear hcz7_3
    try clear hcz7_4
    try clear hfz10_0
    try clear hfz10_1
    try clear hfz10_2
    try clear hfz10_3
    try clear hfz10_4
    try clear hfz7_0
    try clear hfz7_1
    try clear hfz7_2
    try clear hfz7_3
    try clear hfz7_4
    obtain ⟨x5_1, x212000_1, u212000, rfl, HA, HK1, HO_212000, BK211, BK212, HB⟩ := hrel
    cases gk with
    | zero => exact absurd HA.out (by simp [blockhouseref04_Nor_Crash.l0])
    | succ k1 =>
      have H := HA.out
      clear HA
      simp only [blockhouseref04_Nor_Crash.l0] at H
      have HC11 := Aside0.mk H
      clear H
      go_upto_region 3 with (fail)
      go_cut [14] (fun v14 wc => ∃ (kq : Nat) (x14_10 : Bool), v14 = .bool x14_10 ∧ Aside0 (blockhouseref04_Nor_Crash.j1 kq l1 x5_1 x14_10 x212000_1 t216 t217 t218 t219 = some (r1, r2, r3, r4, r5)) ∧ Aside0 (kq ≤ k1) ∧ Aside0 (Kd.R (Kd.int .u32) 48 wc w.heap.size (fun _ => True) u212000 x212000_1) ∧ Aside0 (wc.heap[gb211]? = some (.cells #[u212000, .int .i64 t216, .int .i64 t217, .bool t218, .int .i64 t219] 65 (0, 0))) ∧ Aside0 (wc.heap[gb212]? = some (.cells #[(.slice none 0 0), .int .i64 0, .int .i64 0, .bool false, .int .i64 0] 65 (0, 0))) ∧ Aside0 (Below w.heap.size w wc))
      case first =>
        have H := HC11.out
        clear HC11
        by_cases c12 : x5_1 < 64
        · rw [if_pos c12] at H
          have c12b0 : decide (x5_1 < 64) = true := decide_eq_true c12
          clear c12
          (first | rw [c12b0] | (simp only [i64_w, i32_w]; rw [c12b0]) | skip)
          have H' := Aside0.mk H
          clear H
          have hnb13 := NB211_212.out
          have hnc13 := NB212_211.out
          have hcz14_0 : wr.cell? ⟨gb211, 0, none⟩ = some (u212000) := (blk_cell BK211.out 0).trans rfl
          have hcz14_1 : wr.cell? ⟨gb211, 1, none⟩ = some (.int .i64 t216) := (blk_cell BK211.out 1).trans rfl
          have hcz14_2 : wr.cell? ⟨gb211, 2, none⟩ = some (.int .i64 t217) := (blk_cell BK211.out 2).trans rfl
          have hcz14_3 : wr.cell? ⟨gb211, 3, none⟩ = some (.bool t218) := (blk_cell BK211.out 3).trans rfl
          have hcz14_4 : wr.cell? ⟨gb211, 4, none⟩ = some (.int .i64 t219) := (blk_cell BK211.out 4).trans rfl
          have hfz14_0 := blk_frozen BK211.out 0
          have hfz14_1 := blk_frozen BK211.out 1
          have hfz14_2 := blk_frozen BK211.out 2
          have hfz14_3 := blk_frozen BK211.out 3
          have hfz14_4 := blk_frozen BK211.out 4
          go_wp2
          go_meet
          case rel => exact ⟨_, (decide (t219 ≥ 0)), (by first | rfl | (simp; done) | (simp [*]; done)), H', ⟨by have := HK1.out; first | omega | exact Nat.le_refl _⟩, ⟨by (with_reducible repeat (first | apply Kd.R_alloc | apply Kd.R_drewN | apply Kd.R_drew)); exact HO_212000.out⟩, ⟨by (with_reducible repeat (first | refine blk_drewN ?_ _ | refine blk_drew ?_ | refine blk_alloc ?_ _)); exact BK211.out⟩, ⟨by (with_reducible repeat (first | refine blk_drewN ?_ _ | refine blk_drew ?_ | refine blk_alloc ?_ _)); exact BK212.out⟩, ⟨by repeat (first | (with_reducible first | exact HB.out | apply below_alloc | apply pw_below_drewN | apply below_drew1 | refine below_set ?_ GE211.out | refine below_set ?_ GE212.out) | exact HB.out)⟩⟩
        · rw [if_neg c12] at H
          have c12b0 : decide (x5_1 < 64) = false := decide_eq_false c12
          clear c12
          (first | rw [c12b0] | (simp only [i64_w, i32_w]; rw [c12b0]) | skip)
          have H' := Aside0.mk H
          clear H
          go_wp2
          go_meet
          case rel => exact ⟨_, (false), (by first | rfl | (simp; done) | (simp [*]; done)), H', ⟨by have := HK1.out; first | omega | exact Nat.le_refl _⟩, ⟨by (with_reducible repeat (first | apply Kd.R_alloc | apply Kd.R_drewN | apply Kd.R_drew)); exact HO_212000.out⟩, ⟨by (with_reducible repeat (first | refine blk_drewN ?_ _ | refine blk_drew ?_ | refine blk_alloc ?_ _)); exact BK211.out⟩, ⟨by (with_reducible repeat (first | refine blk_drewN ?_ _ | refine blk_drew ?_ | refine blk_alloc ?_ _)); exact BK212.out⟩, ⟨by repeat (first | (with_reducible first | exact HB.out | apply below_alloc | apply pw_below_drewN | apply below_drew1 | refine below_set ?_ GE211.out | refine below_set ?_ GE212.out) | exact HB.out)⟩⟩
      case rest =>
        clear HC11
        try clear c1
        try clear p2
        try clear c3
        try clear c5
        try clear c6
        try clear c12
        try clear c12b0
        try clear c13
        try clear hcz10_0
        try clear hcz10_1
        try clear hcz10_2
        try clear hcz10_3
        try clear hcz10_4
        try clear hcz14_0
        try clear hcz14_1
        try clear hcz14_2
        try clear hcz14_3
        try clear hcz14_4
        try clear hcz7_0
        try clear hcz7_1
        try clear hcz7_2
        try clear hcz7_3
        try clear hcz7_4
        try clear hfz10_0
        try clear hfz10_1
        try clear hfz10_2
        try clear hfz10_3
        try clear hfz10_4
        try clear hfz14_0
        try clear hfz14_1
        try clear hfz14_2
        try clear hfz14_3
        try clear hfz14_4
        try clear hfz7_0
        try clear hfz7_1
        try clear hfz7_2
        try clear hfz7_3
        try clear hfz7_4
        try clear p2
        obtain ⟨kq, x14_10, rfl, HA, HJ10, HO_212000, BK211, BK212, HB⟩ := hcut
        cases kq with
        | zero => exact absurd HA.out (by simp [blockhouseref04_Nor_Crash.j1])
        | succ kj10 =>
          have H := HA.out
          clear HA
          simp only [blockhouseref04_Nor_Crash.j1] at H
          by_cases c15 : x14_10 = true
          · subst c15
            have H1 : (if x5_1 < (l1.length : Int) then (if 0 ≤ x5_1 then (if rdOf false l1 x5_1 = true then (if 0 ≤ (wrap64 ((wrap64 (t219 * 64)) + x5_1)) then (if (wrap64 ((wrap64 (t219 * 64)) + x5_1)) < (x212000_1.length : Int) then (blockhouseref04_Nor_Crash.l0 kj10 l1 (wrap64 (x5_1 + 1)) (x212000_1.set ((wrap64 ((wrap64 (t219 * 64)) + x5_1)) : Int).toNat 4294967295) t216 t217 t218 t219) else (none)) else (none)) else (blockhouseref04_Nor_Crash.l0 kj10 l1 (wrap64 (x5_1 + 1)) x212000_1 t216 t217 t218 t219)) else (none)) else (blockhouseref04_Nor_Crash.l0 kj10 l1 (wrap64 (x5_1 + 1)) x212000_1 t216 t217 t218 t219)) = some (r1, r2, r3, r4, r5) := by rw [if_pos rfl] at H; exact H
            clear H
            have H := H1
            clear H1
            by_cases c16 : x5_1 < (l1.length : Int)
            · rw [if_pos c16] at H
              have c16b0 : decide (x5_1 < (l1.length : Int)) = true := decide_eq_true c16
              clear c16
              by_cases c17 : 0 ≤ x5_1
              · rw [if_pos c17] at H
                have c17b0 : decide (0 ≤ x5_1) = true := decide_eq_true c17
                clear c17
                obtain ⟨bq18, hbq18⟩ : ∃ b_ : Bool, b_ = (rdOf false l1 x5_1) := ⟨_, rfl⟩
                replace H : (if bq18 = true then (if 0 ≤ (wrap64 ((wrap64 (t219 * 64)) + x5_1)) then (if (wrap64 ((wrap64 (t219 * 64)) + x5_1)) < (x212000_1.length : Int) then (blockhouseref04_Nor_Crash.l0 kj10 l1 (wrap64 (x5_1 + 1)) (x212000_1.set ((wrap64 ((wrap64 (t219 * 64)) + x5_1)) : Int).toNat 4294967295) t216 t217 t218 t219) else (none)) else (none)) else (blockhouseref04_Nor_Crash.l0 kj10 l1 (wrap64 (x5_1 + 1)) x212000_1 t216 t217 t218 t219)) = some (r1, r2, r3, r4, r5) := by rw [← hbq18] at H; exact H
                have Nbq18 := Aside0.mk hbq18
                clear hbq18
                by_cases c19 : bq18 = true
                · subst c19
                  have H1 : (if 0 ≤ (wrap64 ((wrap64 (t219 * 64)) + x5_1)) then (if (wrap64 ((wrap64 (t219 * 64)) + x5_1)) < (x212000_1.length : Int) then (blockhouseref04_Nor_Crash.l0 kj10 l1 (wrap64 (x5_1 + 1)) (x212000_1.set ((wrap64 ((wrap64 (t219 * 64)) + x5_1)) : Int).toNat 4294967295) t216 t217 t218 t219) else (none)) else (none)) = some (r1, r2, r3, r4, r5) := by rw [if_pos rfl] at H; exact H
                  clear H
                  have H := H1
                  clear H1
                  obtain ⟨ji20, hji20⟩ : ∃ j_ : Int, (wrap64 ((wrap64 (t219 * 64)) + x5_1)) = j_ := ⟨_, rfl⟩
                  replace H : (if 0 ≤ (ji20) then (if (ji20) < (x212000_1.length : Int) then (blockhouseref04_Nor_Crash.l0 kj10 l1 (wrap64 (x5_1 + 1)) (x212000_1.set ((ji20) : Int).toNat 4294967295) t216 t217 t218 t219) else (none)) else (none)) = some (r1, r2, r3, r4, r5) := by first | (rw [hji20] at H; exact H) | (simp only [hji20] at H ⊢; exact H)
                  have hji20w : (IntKind.i64.wrap ((wrap64 (t219 * 64)) + x5_1)) = ji20 := (i64_w _).trans hji20
                  by_cases c21 : 0 ≤ (ji20)
                  · rw [if_pos c21] at H
                    have c21b0 : decide (0 ≤ (ji20)) = true := decide_eq_true c21
                    clear c21
                    by_cases c22 : (ji20) < (x212000_1.length : Int)
                    · rw [if_pos c22] at H
                      have c22b0 : decide ((ji20) < (x212000_1.length : Int)) = true := decide_eq_true c22
                      clear c22
                      obtain ⟨y221, hy221⟩ : ∃ y_ : List Int, y_ = (x212000_1.set ((ji20) : Int).toNat 4294967295) := ⟨_, rfl⟩
                      replace H : (blockhouseref04_Nor_Crash.l0 kj10 l1 (wrap64 (x5_1 + 1)) y221 t216 t217 t218 t219) = some (r1, r2, r3, r4, r5) := by first | (rw [hy221]; with_reducible exact H) | (have H2_ := (Option.bind_some _ _).symm.trans H; rw [hy221]; with_reducible exact H2_) | (have H2_ := (Option.bind_some _ _).symm.trans H; with_reducible exact H2_) | with_reducible exact H | (rw [hy221]; exact H) | exact H
                      have Ny221 := Aside0.mk hy221
                      clear hy221
                      have H' := Aside0.mk H
                      clear H
                      have p220 : 0 ≤ (x5_1 : Int) := of_decide_eq_true (by first | (with_reducible assumption) | assumption)
                      have q220 : x5_1 < (l1.length : Int) := of_decide_eq_true (by first | (with_reducible assumption) | assumption)
                      obtain ⟨ad220, e220, hx220_0⟩ := Kd.at_bool HR1.out x5_1 p220 q220
                      (try rw [← Nbq18.out] at hx220_0)
                      cases e220
                      replace hx220_0 := (HB.out.cell (World.block_lt_of_cell? w _ hx220_0)).trans hx220_0
                      replace p220 := eq_true p220
                      replace q220 := eq_true q220
                      have hnb24 := NB211_212.out
                      have hnc24 := NB212_211.out
                      have hcz25_0 : wc.cell? ⟨gb211, 0, none⟩ = some (u212000) := (blk_cell BK211.out 0).trans rfl
                      have hcz25_1 : wc.cell? ⟨gb211, 1, none⟩ = some (.int .i64 t216) := (blk_cell BK211.out 1).trans rfl
                      have hcz25_2 : wc.cell? ⟨gb211, 2, none⟩ = some (.int .i64 t217) := (blk_cell BK211.out 2).trans rfl
                      have hcz25_3 : wc.cell? ⟨gb211, 3, none⟩ = some (.bool t218) := (blk_cell BK211.out 3).trans rfl
                      have hcz25_4 : wc.cell? ⟨gb211, 4, none⟩ = some (.int .i64 t219) := (blk_cell BK211.out 4).trans rfl
                      have hfz25_0 := blk_frozen BK211.out 0
                      have hfz25_1 := blk_frozen BK211.out 1
                      have hfz25_2 := blk_frozen BK211.out 2
                      have hfz25_3 := blk_frozen BK211.out 3
                      have hfz25_4 := blk_frozen BK211.out 4
                      have p23 : 0 ≤ ((ji20) : Int) := of_decide_eq_true (by first | (with_reducible assumption) | assumption)
                      have q23 : ((ji20) : Int) < ((x212000_1.length : Int) : Int) := of_decide_eq_true (by first | (with_reducible assumption) | assumption)
                      obtain ⟨go23, co23, eo23, gb23, gl23, cl23, HG23⟩ := Kd.R_form HO_212000.out (by omega)
                      (first | cases eo23 | (injection eo23 with ea_ en_ ec_; (first | subst ea_ | (injection ea_ with ea_; subst ea_)); subst ec_; clear en_))
                      have GB23 := Aside0.mk gb23
                      have GG23 := Aside0.mk HG23
                      clear gb23 gl23 HG23
                      obtain ⟨hx23_0, hf23_0⟩ := Kd.R_celln 0 HO_212000.out ((ji20) : Int) p23 q23
                      replace p23 := eq_true p23
                      replace q23 := eq_true q23
                      have HP26 := Kd.R_putg HO_212000.out ((ji20) : Int) 4294967295
                      go_wp2_with (first | ((with_reducible refine gate_store (t := 48) (p := 34) rfl ?_); refine store_event (t := 48) (p := 34) (v := ?vo_w27) (w1 := (wc.setCell ⟨go23, ((ji20) : Int).toNat, none⟩ (.int .u32 4294967295))) ?hg ?ho ?hn ?hr ?_; (case ho => rfl); (case hg => rfl); (case hn => rfl); (case hr => first | (go_simp; done) | (go_simp; rfl)); intro w27 hw; have hg : wc.grownBy w27 (some go23) := (by rw [hw]; exact HP26.2); have hp_ : Kd.R (Kd.int .u32) 48 w27 w.heap.size (fun _ => True) (.slice (some ⟨go23, 0, none⟩) x212000_1.length co23) y221 := (by rw [hw, Ny221.out]; exact HP26.1); clear HP26; have n0_ := Aside0.mk (hp_); have n1_ := Aside0.mk (blk_grown (g := gb211) (o := .cells #[.slice (some ⟨go23, 0, none⟩) x212000_1.length co23, .int .i64 t216, .int .i64 t217, .bool t218, .int .i64 t219] 65 (0, 0)) (by (with_reducible repeat (first | refine blk_drewN ?_ _ | refine blk_drew ?_ | refine blk_alloc ?_ _)); exact BK211.out) hg (Kd.R_ne HO_212000.out BK211.out (by decide))); have n2_ := Aside0.mk (blk_grown (g := gb212) (o := .cells #[.slice none 0 0, .int .i64 0, .int .i64 0, .bool false, .int .i64 0] 65 (0, 0)) (by (with_reducible repeat (first | refine blk_drewN ?_ _ | refine blk_drew ?_ | refine blk_alloc ?_ _)); exact BK212.out) hg (Kd.R_ne HO_212000.out BK212.out (by decide))); have n3_ := Aside0.mk ((by rw [hw]; exact below_set (HB.out) GB23.out : Below w.heap.size w w27)); clear HO_212000; clear BK211; clear BK212; clear HB; have HO_212000 := n0_; have BK211 := n1_; have BK212 := n2_; have HB := n3_; clear n0_ n1_ n2_ n3_; clear hg hw hp_))
                      go_roundg kj10
                      case measure => have := HK1.out; have := HJ10.out; omega
                      case rel => exact ⟨(wrap64 (x5_1 + 1)), (y221), (.slice (some ⟨go23, 0, none⟩) x212000_1.length co23), (by first | rfl | (simp; done) | (simp [*]; done)), H', ⟨by have := HK1.out; have := HJ10.out; omega⟩, ⟨by (with_reducible repeat (first | apply Kd.R_alloc | apply Kd.R_drewN | apply Kd.R_drew)); exact HO_212000.out⟩, ⟨by (with_reducible repeat (first | refine blk_drewN ?_ _ | refine blk_drew ?_ | refine blk_alloc ?_ _)); exact BK211.out⟩, ⟨by (with_reducible repeat (first | refine blk_drewN ?_ _ | refine blk_drew ?_ | refine blk_alloc ?_ _)); exact BK212.out⟩, ⟨by repeat (first | (with_reducible first | exact HB.out | apply below_alloc | apply pw_below_drewN | apply below_drew1 | refine below_set ?_ GE211.out | refine below_set ?_ GE212.out) | exact HB.out)⟩⟩
                    · rw [if_neg c22] at H
                      exact absurd H (by simp)
                  · rw [if_neg c21] at H
                    exact absurd H (by simp)
                · replace c19 := Bool.eq_false_iff.mpr c19
                  subst c19
                  have H1 : (blockhouseref04_Nor_Crash.l0 kj10 l1 (wrap64 (x5_1 + 1)) x212000_1 t216 t217 t218 t219) = some (r1, r2, r3, r4, r5) := by rw [if_neg (show ¬ (false = true) by decide)] at H; exact H
                  clear H
                  have H := H1
                  clear H1
                  have H' := Aside0.mk H
                  clear H
                  have p220 : 0 ≤ (x5_1 : Int) := of_decide_eq_true (by first | (with_reducible assumption) | assumption)
                  have q220 : x5_1 < (l1.length : Int) := of_decide_eq_true (by first | (with_reducible assumption) | assumption)
                  obtain ⟨ad220, e220, hx220_0⟩ := Kd.at_bool HR1.out x5_1 p220 q220
                  (try rw [← Nbq18.out] at hx220_0)
                  cases e220
                  replace hx220_0 := (HB.out.cell (World.block_lt_of_cell? w _ hx220_0)).trans hx220_0
                  replace p220 := eq_true p220
                  replace q220 := eq_true q220
                  go_wp2
                  go_roundg kj10
                  case measure => have := HK1.out; have := HJ10.out; omega
                  case rel => exact ⟨(wrap64 (x5_1 + 1)), (x212000_1), (u212000), (by first | rfl | (simp; done) | (simp [*]; done)), H', ⟨by have := HK1.out; have := HJ10.out; omega⟩, ⟨by (with_reducible repeat (first | apply Kd.R_alloc | apply Kd.R_drewN | apply Kd.R_drew)); exact HO_212000.out⟩, ⟨by (with_reducible repeat (first | refine blk_drewN ?_ _ | refine blk_drew ?_ | refine blk_alloc ?_ _)); exact BK211.out⟩, ⟨by (with_reducible repeat (first | refine blk_drewN ?_ _ | refine blk_drew ?_ | refine blk_alloc ?_ _)); exact BK212.out⟩, ⟨by repeat (first | (with_reducible first | exact HB.out | apply below_alloc | apply pw_below_drewN | apply below_drew1 | refine below_set ?_ GE211.out | refine below_set ?_ GE212.out) | exact HB.out)⟩⟩
              · rw [if_neg c17] at H
                exact absurd H (by simp)
            · rw [if_neg c16] at H
              have c16b0 : decide (x5_1 < (l1.length : Int)) = false := decide_eq_false c16
              clear c16
              have H' := Aside0.mk H
              clear H
              go_wp2
              go_roundg kj10
              case measure => have := HK1.out; have := HJ10.out; omega
              case rel => exact ⟨(wrap64 (x5_1 + 1)), (x212000_1), (u212000), (by first | rfl | (simp; done) | (simp [*]; done)), H', ⟨by have := HK1.out; have := HJ10.out; omega⟩, ⟨by (with_reducible repeat (first | apply Kd.R_alloc | apply Kd.R_drewN | apply Kd.R_drew)); exact HO_212000.out⟩, ⟨by (with_reducible repeat (first | refine blk_drewN ?_ _ | refine blk_drew ?_ | refine blk_alloc ?_ _)); exact BK211.out⟩, ⟨by (with_reducible repeat (first | refine blk_drewN ?_ _ | refine blk_drew ?_ | refine blk_alloc ?_ _)); exact BK212.out⟩, ⟨by repeat (first | (with_reducible first | exact HB.out | apply below_alloc | apply pw_below_drewN | apply below_drew1 | refine below_set ?_ GE211.out | refine below_set ?_ GE212.out) | exact HB.out)⟩⟩
          · replace c15 := Bool.eq_false_iff.mpr c15
            subst c15
            have H1 : (some (x212000_1, t216, (-1), false, (-1))) = some (r1, r2, r3, r4, r5) := by rw [if_neg (show ¬ (false = true) by decide)] at H; exact H
            clear H
            have H := H1
            clear H1
            simp only [Option.some.injEq, Prod.mk.injEq] at H
            obtain ⟨rfl, rfl, rfl, rfl, rfl⟩ := H
            have hnb28 := NB211_212.out
            have hnc28 := NB212_211.out
            have hcz29_0 : wc.cell? ⟨gb211, 0, none⟩ = some (u212000) := (blk_cell BK211.out 0).trans rfl
            have hcz29_1 : wc.cell? ⟨gb211, 1, none⟩ = some (.int .i64 t216) := (blk_cell BK211.out 1).trans rfl
            have hcz29_2 : wc.cell? ⟨gb211, 2, none⟩ = some (.int .i64 t217) := (blk_cell BK211.out 2).trans rfl
            have hcz29_3 : wc.cell? ⟨gb211, 3, none⟩ = some (.bool t218) := (blk_cell BK211.out 3).trans rfl
            have hcz29_4 : wc.cell? ⟨gb211, 4, none⟩ = some (.int .i64 t219) := (blk_cell BK211.out 4).trans rfl
            have hfz29_0 := blk_frozen BK211.out 0
            have hfz29_1 := blk_frozen BK211.out 1
            have hfz29_2 := blk_frozen BK211.out 2
            have hfz29_3 := blk_frozen BK211.out 3
            have hfz29_4 := blk_frozen BK211.out 4
            obtain ⟨Ao30, co30, eo30⟩ := Kd.R_slice HO_212000.out
            subst eo30
            have hcz31_0 : wc.cell? ⟨gb212, 0, none⟩ = some (.slice none 0 0) := (blk_cell BK212.out 0).trans rfl
            have hcz31_1 : wc.cell? ⟨gb212, 1, none⟩ = some (.int .i64 0) := (blk_cell BK212.out 1).trans rfl
            have hcz31_2 : wc.cell? ⟨gb212, 2, none⟩ = some (.int .i64 0) := (blk_cell BK212.out 2).trans rfl
            have hcz31_3 : wc.cell? ⟨gb212, 3, none⟩ = some (.bool false) := (blk_cell BK212.out 3).trans rfl
            have hcz31_4 : wc.cell? ⟨gb212, 4, none⟩ = some (.int .i64 0) := (blk_cell BK212.out 4).trans rfl
            have hfz31_0 := blk_frozen BK212.out 0
            have hfz31_1 := blk_frozen BK212.out 1
            have hfz31_2 := blk_frozen BK212.out 2
            have hfz31_3 := blk_frozen BK212.out 3
            have hfz31_4 := blk_frozen BK212.out 4
            go_wp2
            refine bodyPost_ret (results_cell_row rfl _ _ gb212 65 #[.slice Ao30 x212000_1.length co30, .int .i64 t216, .int .i64 (-1), .bool false, .int .i64 (-1)] (0, 0) _ rfl (by (with_reducible repeat (first | refine blk_drewN ?_ _ | refine blk_drew ?_ | refine blk_alloc ?_ _)); refine blk_put (cs := #[.slice Ao30 x212000_1.length co30, .int .i64 t216, .int .i64 (-1), .bool false, .int .i64 0]) ?_ 4 _ rfl; (with_reducible repeat (first | refine blk_drewN ?_ _ | refine blk_drew ?_ | refine blk_alloc ?_ _)); refine blk_put (cs := #[.slice Ao30 x212000_1.length co30, .int .i64 t216, .int .i64 (-1), .bool false, .int .i64 0]) ?_ 3 _ rfl; (with_reducible repeat (first | refine blk_drewN ?_ _ | refine blk_drew ?_ | refine blk_alloc ?_ _)); refine blk_put (cs := #[.slice Ao30 x212000_1.length co30, .int .i64 t216, .int .i64 0, .bool false, .int .i64 0]) ?_ 2 _ rfl; (with_reducible repeat (first | refine blk_drewN ?_ _ | refine blk_drew ?_ | refine blk_alloc ?_ _)); refine blk_put (cs := #[.slice Ao30 x212000_1.length co30, .int .i64 0, .int .i64 0, .bool false, .int .i64 0]) ?_ 1 _ rfl; (with_reducible repeat (first | refine blk_drewN ?_ _ | refine blk_drew ?_ | refine blk_alloc ?_ _)); refine blk_put (cs := #[.slice none 0 0, .int .i64 0, .int .i64 0, .bool false, .int .i64 0]) ?_ 0 _ rfl; (with_reducible repeat (first | refine blk_drewN ?_ _ | refine blk_drew ?_ | refine blk_alloc ?_ _)); refine blk_far ?_ NB212_211.out _; (with_reducible repeat (first | refine blk_drewN ?_ _ | refine blk_drew ?_ | refine blk_alloc ?_ _)); refine blk_far ?_ NB212_211.out _; (with_reducible repeat (first | refine blk_drewN ?_ _ | refine blk_drew ?_ | refine blk_alloc ?_ _)); refine blk_far ?_ NB212_211.out _; (with_reducible repeat (first | refine blk_drewN ?_ _ | refine blk_drew ?_ | refine blk_alloc ?_ _)); exact BK212.out) Try.underlying65 rfl (by kernel_rfl)) rfl ?_
            exact ⟨_, by first | rfl | (simp [errW_none, errW_some] <;> rfl) | (simp [*, errW_none, errW_some] <;> rfl), by (with_reducible repeat (first | apply Kd.R_alloc | apply Kd.R_drewN | apply Kd.R_drew)); exact Kd.R_mono (Kd.R_far (p := ⟨gb212, 4, none⟩) (Kd.R_far (p := ⟨gb212, 3, none⟩) (Kd.R_far (p := ⟨gb212, 2, none⟩) (Kd.R_far (p := ⟨gb212, 1, none⟩) (Kd.R_far (p := ⟨gb212, 0, none⟩) (Kd.R_far (p := ⟨gb211, 2, none⟩) (Kd.R_far (p := ⟨gb211, 3, none⟩) (Kd.R_far (p := ⟨gb211, 4, none⟩) (Kd.R_types (Kd.R_types HO_212000.out BK211.out (by decide)) BK212.out (by decide)) (fun _ hk => hk.1.2) (.int .i64 (-1))) (fun _ hk => hk.1.2) (.bool false)) (fun _ hk => hk.1.2) (.int .i64 (-1))) (fun _ hk => hk.2) (.slice Ao30 x212000_1.length co30)) (fun _ hk => hk.2) (.int .i64 t216)) (fun _ hk => hk.2) (.int .i64 (-1))) (fun _ hk => hk.2) (.bool false)) (fun _ hk => hk.2) (.int .i64 (-1))) (fun _ hk => trivial), by repeat (first | (with_reducible first | exact HB.out | apply below_alloc | apply pw_below_drewN | apply below_drew1 | refine below_set ?_ GE211.out | refine below_set ?_ GE212.out) | exact HB.out)⟩

-- NOT PRINTED: function 36 (nor_Nor_Rewrite)

end Go.Proofs.Ytplngfphklpicaa.PDrivePlays

-- one function of what print.sh printed for DrivePlays (printcut.py)
namespace Go.Proofs.Ytplngfphklpicaa.PDrivePlays
open Go.RowKit Go.Proofs.YtplngfphklpicaaW.PrintWords Go.Proofs.YtplngfphklpicaaW.PrintLast Go.Proofs.YtplngfphklpicaaW.PrintMore
attribute [local go_sem] max2_int min2_int max_two min_two max_three min_three max_four min_four   -- for this text's walks alone
set_option linter.unusedVariables false
set_option linter.unusedSimpArgs false

/-! ### blockhouseref04_Nor_Rewrite: function 37 -/
mutual
def blockhouseref04_Nor_Rewrite.j0 : Nat → Int → Int → List Int → Bool → List Int → Int → Int → Bool → Int → Option (List Int × Int × Int × Bool × Int × Int)
  | 0, _, _, _, _, _, _, _, _, _ => none
  | k + 1, x1, x2, x3, x20, x223000, x223001, x223002, x223003, x223004 => if x20 = true then (some (x223000, x223001, x223002, x223003, x223004, 2)) else (if x1 < x223001 then (some (x223000, x223001, x223002, x223003, x223004, 41)) else ((blockhouseref04_Nor_own.f x223000 x223001 x223002 x223003 x223004).bind fun bt225 => (blockhouseref04_Nor_Rewrite.l0 k x1 x2 x3 0 bt225.1 bt225.2.1 bt225.2.2.1 bt225.2.2.2.1 bt225.2.2.2.2)))
def blockhouseref04_Nor_Rewrite.l0 : Nat → Int → Int → List Int → Int → List Int → Int → Int → Bool → Int → Option (List Int × Int × Int × Bool × Int × Int)
  | 0, _, _, _, _, _, _, _, _, _ => none
  | k + 1, x1, x2, x3, x10, x223000, x223001, x223002, x223003, x223004 => if x10 < (x3.length : Int) then (if 0 ≤ x10 then (if 0 ≤ (wrap64 ((wrap64 ((wrap64 (x1 * 64)) + x2)) + x10)) then (if (wrap64 ((wrap64 ((wrap64 (x1 * 64)) + x2)) + x10)) < (x223000.length : Int) then (blockhouseref04_Nor_Rewrite.l0 k x1 x2 x3 (wrap64 (x10 + 1)) (x223000.set ((wrap64 ((wrap64 ((wrap64 (x1 * 64)) + x2)) + x10)) : Int).toNat (rd x3 x10)) x223001 x223002 x223003 x223004) else (none)) else (none)) else (none)) else (some (x223000, x223001, x223002, x223003, x223004, 0))
end
def blockhouseref04_Nor_Rewrite.f (k : Nat) (l0_0 : List Int) (a0_1 : Int) (a0_2 : Int) (a0_3 : Bool) (a0_4 : Int) (a1 : Int) (a2 : Int) (l3 : List Int) : Option (List Int × Int × Int × Bool × Int × Int) := if a2 > 64 then (blockhouseref04_Nor_Rewrite.j0 k a1 a2 l3 true l0_0 a0_1 a0_2 a0_3 a0_4) else ((blockhouseref04_Nor_right.f l0_0 a0_1 a0_2 a0_3 a0_4 a1 a2 l3).bind fun t224 => (blockhouseref04_Nor_Rewrite.j0 k a1 a2 l3 (!t224) l0_0 a0_1 a0_2 a0_3 a0_4))
theorem blockhouseref04_Nor_Rewrite.mono_l : ∀ k, (∀ y0 y1 y2 y3 y4 y5 y6 y7 y8, LeO (blockhouseref04_Nor_Rewrite.j0 k y0 y1 y2 y3 y4 y5 y6 y7 y8) (blockhouseref04_Nor_Rewrite.j0 (k + 1) y0 y1 y2 y3 y4 y5 y6 y7 y8)) ∧ (∀ y0 y1 y2 y3 y4 y5 y6 y7 y8, LeO (blockhouseref04_Nor_Rewrite.l0 k y0 y1 y2 y3 y4 y5 y6 y7 y8) (blockhouseref04_Nor_Rewrite.l0 (k + 1) y0 y1 y2 y3 y4 y5 y6 y7 y8))
  | 0 => ⟨fun _ _ _ _ _ _ _ _ _ r h => by simp [blockhouseref04_Nor_Rewrite.j0] at h, fun _ _ _ _ _ _ _ _ _ r h => by simp [blockhouseref04_Nor_Rewrite.l0] at h⟩
  | k + 1 => by
    obtain ⟨ih0, ih1⟩ := blockhouseref04_Nor_Rewrite.mono_l k
    refine ⟨?_, ?_⟩
    · intro y0 y1 y2 y3 y4 y5 y6 y7 y8
      unfold blockhouseref04_Nor_Rewrite.j0
      repeat' first
      | (with_reducible exact ih0 _ _ _ _ _ _ _ _ _)
      | (with_reducible exact ih1 _ _ _ _ _ _ _ _ _)
      | (with_reducible exact LeO.refl _)
      | (with_reducible exact LeO.none _)
      | (with_reducible refine LeO.ite ?_ ?_)
      | (with_reducible refine LeO.bind ?_ (fun _ => ?_))
      | exact ih0 _ _ _ _ _ _ _ _ _
      | exact ih1 _ _ _ _ _ _ _ _ _
      | exact LeO.none _
      | refine LeO.ite ?_ ?_
      | refine LeO.bind ?_ (fun _ => ?_)
    · intro y0 y1 y2 y3 y4 y5 y6 y7 y8
      unfold blockhouseref04_Nor_Rewrite.l0
      repeat' first
      | (with_reducible exact ih0 _ _ _ _ _ _ _ _ _)
      | (with_reducible exact ih1 _ _ _ _ _ _ _ _ _)
      | (with_reducible exact LeO.refl _)
      | (with_reducible exact LeO.none _)
      | (with_reducible refine LeO.ite ?_ ?_)
      | (with_reducible refine LeO.bind ?_ (fun _ => ?_))
      | exact ih0 _ _ _ _ _ _ _ _ _
      | exact ih1 _ _ _ _ _ _ _ _ _
      | exact LeO.none _
      | refine LeO.ite ?_ ?_
      | refine LeO.bind ?_ (fun _ => ?_)
theorem blockhouseref04_Nor_Rewrite.mono : ∀ a0 a1 a2 a3 a4 a5 a6 a7 k, LeO (blockhouseref04_Nor_Rewrite.f k a0 a1 a2 a3 a4 a5 a6 a7) (blockhouseref04_Nor_Rewrite.f (k + 1) a0 a1 a2 a3 a4 a5 a6 a7) := by
  intro a0 a1 a2 a3 a4 a5 a6 a7 k
  obtain ⟨ih0, ih1⟩ := blockhouseref04_Nor_Rewrite.mono_l k
  unfold blockhouseref04_Nor_Rewrite.f
  repeat' first
      | (with_reducible exact ih0 _ _ _ _ _ _ _ _ _)
      | (with_reducible exact ih1 _ _ _ _ _ _ _ _ _)
      | (with_reducible exact LeO.refl _)
      | (with_reducible exact LeO.none _)
      | (with_reducible refine LeO.ite ?_ ?_)
      | (with_reducible refine LeO.bind ?_ (fun _ => ?_))
      | exact ih0 _ _ _ _ _ _ _ _ _
      | exact ih1 _ _ _ _ _ _ _ _ _
      | exact LeO.none _
      | refine LeO.ite ?_ ?_
      | refine LeO.bind ?_ (fun _ => ?_)
def blockhouseref04_Nor_Rewrite.T9 : Bool × List (List Nat × List Nat) := (true, [([], []), ([0], [0]), ([], []), ([2], [2]), ([], []), ([3, 4], [3, 4]), ([], []), ([5, 6], [5, 6]), ([], []), ([], []), ([8, 9], [8, 9]), ([10], [10]), ([1, 7, 0, 1, 2, 3, 4, 5, 6, 7, 8, 9, 10, 11], [1, 7]), ([12, 11, 0, 1, 2, 3, 4, 5, 6, 7, 8, 9, 10, 11], [11, 12])])
def blockhouseref04_Nor_Rewrite.B9 : List Nat := [0, 1, 0, 4, 0, 28, 0, 124, 0, 0, 768, 1792, 4095, 8191]
theorem blockhouseref04_Nor_Rewrite.tab9 : rtab .any (opsOf Try.f37 9) = blockhouseref04_Nor_Rewrite.T9 := by kernel_rfl
theorem blockhouseref04_Nor_Rewrite.bits9 : waitsOk blockhouseref04_Nor_Rewrite.T9.2 blockhouseref04_Nor_Rewrite.B9 = true := by kernel_rfl
set_option maxHeartbeats 8000000 in
set_option maxRecDepth 100000 in
theorem blockhouseref04_Nor_Rewrite.calls (k : Nat) (P0_0_ : Nat → Prop) (u9000_ : Value) (l0_0 : List Int) (a0_1 : Int) (a0_2 : Int) (a0_3 : Bool) (a0_4 : Int) (a1 : Int) (a2 : Int) (A3 : Option Addr) (c3 : Nat) (l3 : List Int) (r1 : List Int) (r2 : Int) (r3 : Int) (r4 : Bool) (r5 : Int) (r6 : Int) (w0 w : World) (hB : Below w0.heap.size w0 w) (ho0_0 : Kd.R (Kd.int .u32) 48 w w0.heap.size P0_0_ u9000_ l0_0) (hr3 : ∀ W_, Kept w W_ (fun k_ => P0_0_ k_) → Kd.C (Kd.int .u32) W_ A3 l3.length l3) (hc3 : l3.length ≤ c3) (h : blockhouseref04_Nor_Rewrite.f k l0_0 a0_1 a0_2 a0_3 a0_4 a1 a2 l3 = some (r1, r2, r3, r4, r5, r6)) :
    Calls Try.prog 37 #[.agg #[u9000_, .int .i64 a0_1, .int .i64 a0_2, .bool a0_3, .int .i64 a0_4], .int .i64 a1, .int .i64 a2, .slice A3 l3.length c3] w fun e w' => ∃ v0_ : Value, e = .returned (.tuple #[.agg #[v0_, .int .i64 r2, .int .i64 r3, .bool r4, .int .i64 r5], .int .i64 r6]) ∧ Kd.R (Kd.int .u32) 48 w' w0.heap.size (fun k_ => (P0_0_ k_ ∨ w.heap.size ≤ k_)) v0_ r1 ∧ Below w0.heap.size w0 w' ∧ Kept w w' (fun k_ => P0_0_ k_) := by
  have hu65 := Try.underlying65
  have HO0_0 := Aside0.mk (show Kd.R (Kd.int .u32) 48 w w0.heap.size (fun k_ => (P0_0_ k_ ∨ w.heap.size ≤ k_)) u9000_ l0_0 from Kd.R_mono ho0_0 (fun k_ hk => (.inl hk)))
  have HR3 := Aside0.mk hr3
  have HC3 := Aside0.mk hc3
  clear hr3 hc3
  have HK := Aside0.mk (Kept.refl w (fun k_ => P0_0_ k_))
  have HW0 := Aside0.mk hB.size
  have HB := Aside0.mk hB
  clear hB
  have H : (if a2 > 64 then (blockhouseref04_Nor_Rewrite.j0 k a1 a2 l3 true l0_0 a0_1 a0_2 a0_3 a0_4) else ((blockhouseref04_Nor_right.f l0_0 a0_1 a0_2 a0_3 a0_4 a1 a2 l3).bind fun t224 => (blockhouseref04_Nor_Rewrite.j0 k a1 a2 l3 (!t224) l0_0 a0_1 a0_2 a0_3 a0_4))) = some (r1, r2, r3, r4, r5, r6) := h
  clear h
  have HC5 := Aside0.mk H
  clear H
  obtain ⟨Ao6, co6, eo6⟩ := Kd.R_slice HO0_0.out
  subst eo6
  go_enter Try.func37, Try.ntmps37
  go_upto_region 1 with (first | ((with_reducible refine gate_dst (N := 4) rfl ?_); refine box_event ?hg (N := 4) ?hd (cs := #[.slice Ao6 l0_0.length co6, .int .i64 a0_1, .int .i64 a0_2, .bool a0_3, .int .i64 a0_4]) (t := 65) ?hr ?_; (case hd => rfl); (case hg => rfl); (case hr => first | (go_simp; done) | (go_simp; rfl)); intro gb222 hg w7 hbox hb; have n0_ := Aside0.mk (Kd.R_below (by (with_reducible repeat (first | apply Kd.R_alloc | apply Kd.R_drewN | apply Kd.R_drew)); exact HO0_0.out) hb); have n1_ := Aside0.mk (Kept.below (S := (fun k_ => P0_0_ k_)) (by repeat (first | (with_reducible first | exact HK.out | apply Kept.alloc | apply Kept.drewN | apply Kept.drew) | exact HK.out)) hb); have n2_ := Aside0.mk (below_step (by repeat (first | (with_reducible first | exact HB.out | apply below_alloc | apply pw_below_drewN | apply below_drew1) | exact HB.out)) hb); have n3_ := Aside0.mk (hbox); have n4_ := Aside0.mk ((by rw [hg]; exact (by first | exact HK.out.1 | exact (show Kept w _ (fun k_ => P0_0_ k_) from by repeat (first | (with_reducible first | exact HK.out | apply Kept.alloc | apply Kept.drewN | apply Kept.drew) | exact HK.out)).1) : w.heap.size ≤ gb222)); have n5_ := Aside0.mk ((by rw [hg]; exact (below_size (by repeat (first | (with_reducible first | exact HB.out | apply below_alloc | apply pw_below_drewN | apply below_drew1) | exact HB.out))) : w0.heap.size ≤ gb222)); clear HO0_0; clear HK; clear HB; have HO0_0 := n0_; have HK := n1_; have HB := n2_; have BK222 := n3_; have GW222 := n4_; have GE222 := n5_; clear n0_ n1_ n2_ n3_ n4_ n5_; clear hb hbox hg) | ((with_reducible refine gate_dst (N := 8) rfl ?_); refine box_event ?hg (N := 8) ?hd (cs := #[.slice none 0 0, .int .i64 0, .int .i64 0, .bool false, .int .i64 0]) (t := 65) ?hr ?_; (case hd => rfl); (case hg => rfl); (case hr => first | (go_simp; done) | (go_simp; rfl)); intro gb223 hg w8 hbox hb; have n0_ := Aside0.mk (Kd.R_below (by (with_reducible repeat (first | apply Kd.R_alloc | apply Kd.R_drewN | apply Kd.R_drew)); exact HO0_0.out) hb); have n1_ := Aside0.mk (blk_below (g := gb222) (o := .cells #[.slice Ao6 l0_0.length co6, .int .i64 a0_1, .int .i64 a0_2, .bool a0_3, .int .i64 a0_4] 65 (0, 0)) (by (with_reducible repeat (first | refine blk_drewN ?_ _ | refine blk_drew ?_ | refine blk_alloc ?_ _)); exact BK222.out) hb); have n2_ := Aside0.mk (Kept.below (S := (fun k_ => P0_0_ k_)) (by repeat (first | (with_reducible first | exact HK.out | apply Kept.alloc | apply Kept.drewN | apply Kept.drew | refine Kept.setCell ?_ (.inr GW222.out) _) | exact HK.out)) hb); have n3_ := Aside0.mk (below_step (by repeat (first | (with_reducible first | exact HB.out | apply below_alloc | apply pw_below_drewN | apply below_drew1 | refine below_set ?_ GE222.out) | exact HB.out)) hb); have n4_ := Aside0.mk (hbox); have n5_ := Aside0.mk ((by rw [hg]; exact (by first | exact HK.out.1 | exact (show Kept w _ (fun k_ => P0_0_ k_) from by repeat (first | (with_reducible first | exact HK.out | apply Kept.alloc | apply Kept.drewN | apply Kept.drew | refine Kept.setCell ?_ (.inr GW222.out) _) | exact HK.out)).1) : w.heap.size ≤ gb223)); have n6_ := Aside0.mk ((by rw [hg]; exact (below_size (by repeat (first | (with_reducible first | exact HB.out | apply below_alloc | apply pw_below_drewN | apply below_drew1 | refine below_set ?_ GE222.out) | exact HB.out))) : w0.heap.size ≤ gb223)); have n7_ := Aside0.mk ((by rw [hg]; exact Nat.ne_of_lt (blk_lt (g := gb222) (o := .cells #[.slice Ao6 l0_0.length co6, .int .i64 a0_1, .int .i64 a0_2, .bool a0_3, .int .i64 a0_4] 65 (0, 0)) (by (with_reducible repeat (first | refine blk_drewN ?_ _ | refine blk_drew ?_ | refine blk_alloc ?_ _)); exact BK222.out)) : gb222 ≠ gb223)); have n8_ := Aside0.mk ((by rw [hg]; exact Nat.ne_of_gt (blk_lt (g := gb222) (o := .cells #[.slice Ao6 l0_0.length co6, .int .i64 a0_1, .int .i64 a0_2, .bool a0_3, .int .i64 a0_4] 65 (0, 0)) (by (with_reducible repeat (first | refine blk_drewN ?_ _ | refine blk_drew ?_ | refine blk_alloc ?_ _)); exact BK222.out)) : gb223 ≠ gb222)); clear HO0_0; clear BK222; clear HK; clear HB; have HO0_0 := n0_; have BK222 := n1_; have HK := n2_; have HB := n3_; have BK223 := n4_; have GW223 := n5_; have GE223 := n6_; have NB222_223 := n7_; have NB223_222 := n8_; clear n0_ n1_ n2_ n3_ n4_ n5_ n6_ n7_ n8_; clear hb hbox hg))
  (try simp only [Act.put, List.setIfInBounds_toArray, List.set_cons_zero, List.set_cons_succ])
  go_cut [20] (fun v20 wc => ∃ (kq : Nat) (x20_4 : Bool), v20 = .bool x20_4 ∧ Aside0 (blockhouseref04_Nor_Rewrite.j0 kq a1 a2 l3 x20_4 l0_0 a0_1 a0_2 a0_3 a0_4 = some (r1, r2, r3, r4, r5, r6)) ∧ Aside0 (kq ≤ k) ∧ Aside0 (Kd.R (Kd.int .u32) 48 wc w0.heap.size (fun k_ => (P0_0_ k_ ∨ w.heap.size ≤ k_)) (.slice Ao6 l0_0.length co6) l0_0) ∧ Aside0 (wc.heap[gb222]? = some (.cells #[(.slice Ao6 l0_0.length co6), .int .i64 a0_1, .int .i64 a0_2, .bool a0_3, .int .i64 a0_4] 65 (0, 0))) ∧ Aside0 (wc.heap[gb223]? = some (.cells #[(.slice none 0 0), .int .i64 0, .int .i64 0, .bool false, .int .i64 0] 65 (0, 0))) ∧ Aside0 (Kept w wc (fun k_ => P0_0_ k_)) ∧ Aside0 (Below w0.heap.size w0 wc))
  case first =>
    have H := HC5.out
    clear HC5
    by_cases c9 : a2 > 64
    · rw [if_pos c9] at H
      have c9b0 : decide (64 < a2) = true := decide_eq_true c9
      clear c9
      (first | rw [c9b0] | (simp only [i64_w, i32_w]; rw [c9b0]) | skip)
      have H' := Aside0.mk H
      clear H
      go_wp2
      go_meet
      case rel => exact ⟨_, (true), (by first | rfl | (simp; done) | (simp [*]; done)), H', ⟨by first | omega | exact Nat.le_refl _⟩, ⟨by (with_reducible repeat (first | apply Kd.R_alloc | apply Kd.R_drewN | apply Kd.R_drew)); exact HO0_0.out⟩, ⟨by (with_reducible repeat (first | refine blk_drewN ?_ _ | refine blk_drew ?_ | refine blk_alloc ?_ _)); exact BK222.out⟩, ⟨by (with_reducible repeat (first | refine blk_drewN ?_ _ | refine blk_drew ?_ | refine blk_alloc ?_ _)); exact BK223.out⟩, ⟨by repeat (first | (with_reducible first | exact HK.out | apply Kept.alloc | apply Kept.drewN | apply Kept.drew | refine Kept.setCell ?_ (.inr GW222.out) _ | refine Kept.setCell ?_ (.inr GW223.out) _) | exact HK.out)⟩, ⟨by repeat (first | (with_reducible first | exact HB.out | apply below_alloc | apply pw_below_drewN | apply below_drew1 | refine below_set ?_ GE222.out | refine below_set ?_ GE223.out) | exact HB.out)⟩⟩
    · rw [if_neg c9] at H
      have c9b0 : decide (64 < a2) = false := decide_eq_false c9
      clear c9
      (first | rw [c9b0] | (simp only [i64_w, i32_w]; rw [c9b0]) | skip)
      replace H := Option.bind_eq_some_iff.mp H
      obtain ⟨t224, A100, H⟩ := H
      replace H : (blockhouseref04_Nor_Rewrite.j0 k a1 a2 l3 (!t224) l0_0 a0_1 a0_2 a0_3 a0_4) = some (r1, r2, r3, r4, r5, r6) := H
      have A10 := Aside0.mk A100
      clear A100
      have H' := Aside0.mk H
      clear H
      have hnb11 := NB222_223.out
      have hnc11 := NB223_222.out
      have hcz12_0 : w8.cell? ⟨gb222, 0, none⟩ = some (.slice Ao6 l0_0.length co6) := (blk_cell BK222.out 0).trans rfl
      have hcz12_1 : w8.cell? ⟨gb222, 1, none⟩ = some (.int .i64 a0_1) := (blk_cell BK222.out 1).trans rfl
      have hcz12_2 : w8.cell? ⟨gb222, 2, none⟩ = some (.int .i64 a0_2) := (blk_cell BK222.out 2).trans rfl
      have hcz12_3 : w8.cell? ⟨gb222, 3, none⟩ = some (.bool a0_3) := (blk_cell BK222.out 3).trans rfl
      have hcz12_4 : w8.cell? ⟨gb222, 4, none⟩ = some (.int .i64 a0_4) := (blk_cell BK222.out 4).trans rfl
      have hfz12_0 := blk_frozen BK222.out 0
      have hfz12_1 := blk_frozen BK222.out 1
      have hfz12_2 := blk_frozen BK222.out 2
      have hfz12_3 := blk_frozen BK222.out 3
      have hfz12_4 := blk_frozen BK222.out 4
      go_wp2_with (first | (go_at_call 59; (with_reducible refine (blockhouseref04_Nor_right.calls _ _ l0_0 a0_1 a0_2 a0_3 a0_4 a1 a2 _ _ l3 t224 _ ?side1 ?side2 ?side3 ?side4 A10.out).mono ?_); (case side1 => repeat (first | exact (Kd.R_reads' HO0_0.out).2.2 | (with_reducible refine Kd.C_alloc ?_ _) | (with_reducible refine Kd.C_drewN ?_ _) | (with_reducible refine Kd.C_drew ?_))); (case side2 => exact (Kd.R_reads' HO0_0.out).2.1); (case side3 => exact Kd.C_kept_now HR3.out (by repeat (first | (with_reducible first | exact HK.out | apply Kept.alloc | apply Kept.drewN | apply Kept.drew | refine Kept.setCell ?_ (.inr GW222.out) _ | refine Kept.setCell ?_ (.inr GW223.out) _) | exact HK.out))); (case side4 => exact HC3.out); rintro e w13 ⟨rfl, hb⟩; have n0_ := Aside0.mk (Kd.R_below (by (with_reducible repeat (first | apply Kd.R_alloc | apply Kd.R_drewN | apply Kd.R_drew)); exact HO0_0.out) hb); have n1_ := Aside0.mk (blk_below (g := gb222) (o := .cells #[.slice Ao6 l0_0.length co6, .int .i64 a0_1, .int .i64 a0_2, .bool a0_3, .int .i64 a0_4] 65 (0, 0)) (by (with_reducible repeat (first | refine blk_drewN ?_ _ | refine blk_drew ?_ | refine blk_alloc ?_ _)); exact BK222.out) hb); have n2_ := Aside0.mk (blk_below (g := gb223) (o := .cells #[.slice none 0 0, .int .i64 0, .int .i64 0, .bool false, .int .i64 0] 65 (0, 0)) (by (with_reducible repeat (first | refine blk_drewN ?_ _ | refine blk_drew ?_ | refine blk_alloc ?_ _)); exact BK223.out) hb); have n3_ := Aside0.mk (Kept.below (S := (fun k_ => P0_0_ k_)) (by repeat (first | (with_reducible first | exact HK.out | apply Kept.alloc | apply Kept.drewN | apply Kept.drew | refine Kept.setCell ?_ (.inr GW222.out) _ | refine Kept.setCell ?_ (.inr GW223.out) _) | exact HK.out)) hb); have n4_ := Aside0.mk (below_step (by repeat (first | (with_reducible first | exact HB.out | apply below_alloc | apply pw_below_drewN | apply below_drew1 | refine below_set ?_ GE222.out | refine below_set ?_ GE223.out) | exact HB.out)) hb); clear HO0_0; clear BK222; clear BK223; clear HK; clear HB; have HO0_0 := n0_; have BK222 := n1_; have BK223 := n2_; have HK := n3_; have HB := n4_; clear n0_ n1_ n2_ n3_ n4_; (try clear hb); (try clear hb2); (try clear hk); (try clear hi)))
      go_meet
      case rel => exact ⟨_, (!t224), (by first | rfl | (simp; done) | (simp [*]; done)), H', ⟨by first | omega | exact Nat.le_refl _⟩, ⟨by (with_reducible repeat (first | apply Kd.R_alloc | apply Kd.R_drewN | apply Kd.R_drew)); exact HO0_0.out⟩, ⟨by (with_reducible repeat (first | refine blk_drewN ?_ _ | refine blk_drew ?_ | refine blk_alloc ?_ _)); exact BK222.out⟩, ⟨by (with_reducible repeat (first | refine blk_drewN ?_ _ | refine blk_drew ?_ | refine blk_alloc ?_ _)); exact BK223.out⟩, ⟨by repeat (first | (with_reducible first | exact HK.out | apply Kept.alloc | apply Kept.drewN | apply Kept.drew | refine Kept.setCell ?_ (.inr GW222.out) _ | refine Kept.setCell ?_ (.inr GW223.out) _) | exact HK.out)⟩, ⟨by repeat (first | (with_reducible first | exact HB.out | apply below_alloc | apply pw_below_drewN | apply below_drew1 | refine below_set ?_ GE222.out | refine below_set ?_ GE223.out) | exact HB.out)⟩⟩
  case rest =>
    clear HC5
    try clear c1
    try clear p2
    try clear c3
    try clear c9
    try clear c9b0
    try clear c11
    try clear hcz12_0
    try clear hcz12_1
    try clear hcz12_2
    try clear hcz12_3
    try clear hcz12_4
    try clear hfz12_0
    try clear hfz12_1
    try clear hfz12_2
    try clear hfz12_3
    try clear hfz12_4
    obtain ⟨kq, x20_4, rfl, HA, HJ4, HO_223000, BK222, BK223, HK, HB⟩ := hcut
    cases kq with
    | zero => exact absurd HA.out (by simp [blockhouseref04_Nor_Rewrite.j0])
    | succ kj4 =>
      have H := HA.out
      clear HA
      simp only [blockhouseref04_Nor_Rewrite.j0] at H
      by_cases c14 : x20_4 = true
      · subst c14
        have H1 : (some (l0_0, a0_1, a0_2, a0_3, a0_4, 2)) = some (r1, r2, r3, r4, r5, r6) := by rw [if_pos rfl] at H; exact H
        clear H
        have H := H1
        clear H1
        simp only [Option.some.injEq, Prod.mk.injEq] at H
        obtain ⟨rfl, rfl, rfl, rfl, rfl, rfl⟩ := H
        have hnb15 := NB222_223.out
        have hnc15 := NB223_222.out
        have hcz16_0 : wc.cell? ⟨gb222, 0, none⟩ = some (.slice Ao6 l0_0.length co6) := (blk_cell BK222.out 0).trans rfl
        have hcz16_1 : wc.cell? ⟨gb222, 1, none⟩ = some (.int .i64 a0_1) := (blk_cell BK222.out 1).trans rfl
        have hcz16_2 : wc.cell? ⟨gb222, 2, none⟩ = some (.int .i64 a0_2) := (blk_cell BK222.out 2).trans rfl
        have hcz16_3 : wc.cell? ⟨gb222, 3, none⟩ = some (.bool a0_3) := (blk_cell BK222.out 3).trans rfl
        have hcz16_4 : wc.cell? ⟨gb222, 4, none⟩ = some (.int .i64 a0_4) := (blk_cell BK222.out 4).trans rfl
        have hfz16_0 := blk_frozen BK222.out 0
        have hfz16_1 := blk_frozen BK222.out 1
        have hfz16_2 := blk_frozen BK222.out 2
        have hfz16_3 := blk_frozen BK222.out 3
        have hfz16_4 := blk_frozen BK222.out 4
        have hcz17_0 : wc.cell? ⟨gb223, 0, none⟩ = some (.slice none 0 0) := (blk_cell BK223.out 0).trans rfl
        have hcz17_1 : wc.cell? ⟨gb223, 1, none⟩ = some (.int .i64 0) := (blk_cell BK223.out 1).trans rfl
        have hcz17_2 : wc.cell? ⟨gb223, 2, none⟩ = some (.int .i64 0) := (blk_cell BK223.out 2).trans rfl
        have hcz17_3 : wc.cell? ⟨gb223, 3, none⟩ = some (.bool false) := (blk_cell BK223.out 3).trans rfl
        have hcz17_4 : wc.cell? ⟨gb223, 4, none⟩ = some (.int .i64 0) := (blk_cell BK223.out 4).trans rfl
        have hfz17_0 := blk_frozen BK223.out 0
        have hfz17_1 := blk_frozen BK223.out 1
        have hfz17_2 := blk_frozen BK223.out 2
        have hfz17_3 := blk_frozen BK223.out 3
        have hfz17_4 := blk_frozen BK223.out 4
        go_wp2
        refine bodyPost_ret (results_ct rfl _ _ gb223 65 #[.slice Ao6 l0_0.length co6, .int .i64 a0_1, .int .i64 a0_2, .bool a0_3, .int .i64 a0_4] (0, 0) _ rfl (by (with_reducible repeat (first | refine blk_drewN ?_ _ | refine blk_drew ?_ | refine blk_alloc ?_ _)); refine blk_put (cs := #[.slice Ao6 l0_0.length co6, .int .i64 a0_1, .int .i64 a0_2, .bool a0_3, .int .i64 0]) ?_ 4 _ rfl; (with_reducible repeat (first | refine blk_drewN ?_ _ | refine blk_drew ?_ | refine blk_alloc ?_ _)); refine blk_put (cs := #[.slice Ao6 l0_0.length co6, .int .i64 a0_1, .int .i64 a0_2, .bool false, .int .i64 0]) ?_ 3 _ rfl; (with_reducible repeat (first | refine blk_drewN ?_ _ | refine blk_drew ?_ | refine blk_alloc ?_ _)); refine blk_put (cs := #[.slice Ao6 l0_0.length co6, .int .i64 a0_1, .int .i64 0, .bool false, .int .i64 0]) ?_ 2 _ rfl; (with_reducible repeat (first | refine blk_drewN ?_ _ | refine blk_drew ?_ | refine blk_alloc ?_ _)); refine blk_put (cs := #[.slice Ao6 l0_0.length co6, .int .i64 0, .int .i64 0, .bool false, .int .i64 0]) ?_ 1 _ rfl; (with_reducible repeat (first | refine blk_drewN ?_ _ | refine blk_drew ?_ | refine blk_alloc ?_ _)); refine blk_put (cs := #[.slice none 0 0, .int .i64 0, .int .i64 0, .bool false, .int .i64 0]) ?_ 0 _ rfl; (with_reducible repeat (first | refine blk_drewN ?_ _ | refine blk_drew ?_ | refine blk_alloc ?_ _)); exact BK223.out) Try.underlying65 rfl (by kernel_rfl)) rfl ?_
        exact ⟨_, by first | rfl | (simp [errW_none, errW_some] <;> rfl) | (simp [*, errW_none, errW_some] <;> rfl), by (with_reducible repeat (first | apply Kd.R_alloc | apply Kd.R_drewN | apply Kd.R_drew)); exact Kd.R_mono (Kd.R_far (p := ⟨gb223, 4, none⟩) (Kd.R_far (p := ⟨gb223, 3, none⟩) (Kd.R_far (p := ⟨gb223, 2, none⟩) (Kd.R_far (p := ⟨gb223, 1, none⟩) (Kd.R_far (p := ⟨gb223, 0, none⟩) (Kd.R_types HO_223000.out BK223.out (by decide)) (fun _ hk => hk.2) (.slice Ao6 l0_0.length co6)) (fun _ hk => hk.2) (.int .i64 a0_1)) (fun _ hk => hk.2) (.int .i64 a0_2)) (fun _ hk => hk.2) (.bool a0_3)) (fun _ hk => hk.2) (.int .i64 a0_4)) (fun _ hk => hk.1), by repeat (first | (with_reducible first | exact HB.out | apply below_alloc | apply pw_below_drewN | apply below_drew1 | refine below_set ?_ GE222.out | refine below_set ?_ GE223.out) | exact HB.out), by repeat (first | (with_reducible first | exact HK.out | apply Kept.alloc | apply Kept.drewN | apply Kept.drew | refine Kept.setCell ?_ (.inr GW222.out) _ | refine Kept.setCell ?_ (.inr GW223.out) _) | exact HK.out)⟩
      · replace c14 := Bool.eq_false_iff.mpr c14
        subst c14
        have H1 : (if a1 < a0_1 then (some (l0_0, a0_1, a0_2, a0_3, a0_4, 41)) else ((blockhouseref04_Nor_own.f l0_0 a0_1 a0_2 a0_3 a0_4).bind fun bt225 => (blockhouseref04_Nor_Rewrite.l0 kj4 a1 a2 l3 0 bt225.1 bt225.2.1 bt225.2.2.1 bt225.2.2.2.1 bt225.2.2.2.2))) = some (r1, r2, r3, r4, r5, r6) := by rw [if_neg (show ¬ (false = true) by decide)] at H; exact H
        clear H
        have H := H1
        clear H1
        by_cases c18 : a1 < a0_1
        · rw [if_pos c18] at H
          have c18b0 : decide (a1 < a0_1) = true := decide_eq_true c18
          clear c18
          simp only [Option.some.injEq, Prod.mk.injEq] at H
          obtain ⟨rfl, rfl, rfl, rfl, rfl, rfl⟩ := H
          have hnb19 := NB222_223.out
          have hnc19 := NB223_222.out
          have hcz20_0 : wc.cell? ⟨gb222, 0, none⟩ = some (.slice Ao6 l0_0.length co6) := (blk_cell BK222.out 0).trans rfl
          have hcz20_1 : wc.cell? ⟨gb222, 1, none⟩ = some (.int .i64 a0_1) := (blk_cell BK222.out 1).trans rfl
          have hcz20_2 : wc.cell? ⟨gb222, 2, none⟩ = some (.int .i64 a0_2) := (blk_cell BK222.out 2).trans rfl
          have hcz20_3 : wc.cell? ⟨gb222, 3, none⟩ = some (.bool a0_3) := (blk_cell BK222.out 3).trans rfl
          have hcz20_4 : wc.cell? ⟨gb222, 4, none⟩ = some (.int .i64 a0_4) := (blk_cell BK222.out 4).trans rfl
          have hfz20_0 := blk_frozen BK222.out 0
          have hfz20_1 := blk_frozen BK222.out 1
          have hfz20_2 := blk_frozen BK222.out 2
          have hfz20_3 := blk_frozen BK222.out 3
          have hfz20_4 := blk_frozen BK222.out 4
          have hcz21_0 : wc.cell? ⟨gb223, 0, none⟩ = some (.slice none 0 0) := (blk_cell BK223.out 0).trans rfl
          have hcz21_1 : wc.cell? ⟨gb223, 1, none⟩ = some (.int .i64 0) := (blk_cell BK223.out 1).trans rfl
          have hcz21_2 : wc.cell? ⟨gb223, 2, none⟩ = some (.int .i64 0) := (blk_cell BK223.out 2).trans rfl
          have hcz21_3 : wc.cell? ⟨gb223, 3, none⟩ = some (.bool false) := (blk_cell BK223.out 3).trans rfl
          have hcz21_4 : wc.cell? ⟨gb223, 4, none⟩ = some (.int .i64 0) := (blk_cell BK223.out 4).trans rfl
          have hfz21_0 := blk_frozen BK223.out 0
          have hfz21_1 := blk_frozen BK223.out 1
          have hfz21_2 := blk_frozen BK223.out 2
          have hfz21_3 := blk_frozen BK223.out 3
          have hfz21_4 := blk_frozen BK223.out 4
          go_wp2
          refine bodyPost_ret (results_ct rfl _ _ gb223 65 #[.slice Ao6 l0_0.length co6, .int .i64 a0_1, .int .i64 a0_2, .bool a0_3, .int .i64 a0_4] (0, 0) _ rfl (by (with_reducible repeat (first | refine blk_drewN ?_ _ | refine blk_drew ?_ | refine blk_alloc ?_ _)); refine blk_put (cs := #[.slice Ao6 l0_0.length co6, .int .i64 a0_1, .int .i64 a0_2, .bool a0_3, .int .i64 0]) ?_ 4 _ rfl; (with_reducible repeat (first | refine blk_drewN ?_ _ | refine blk_drew ?_ | refine blk_alloc ?_ _)); refine blk_put (cs := #[.slice Ao6 l0_0.length co6, .int .i64 a0_1, .int .i64 a0_2, .bool false, .int .i64 0]) ?_ 3 _ rfl; (with_reducible repeat (first | refine blk_drewN ?_ _ | refine blk_drew ?_ | refine blk_alloc ?_ _)); refine blk_put (cs := #[.slice Ao6 l0_0.length co6, .int .i64 a0_1, .int .i64 0, .bool false, .int .i64 0]) ?_ 2 _ rfl; (with_reducible repeat (first | refine blk_drewN ?_ _ | refine blk_drew ?_ | refine blk_alloc ?_ _)); refine blk_put (cs := #[.slice Ao6 l0_0.length co6, .int .i64 0, .int .i64 0, .bool false, .int .i64 0]) ?_ 1 _ rfl; (with_reducible repeat (first | refine blk_drewN ?_ _ | refine blk_drew ?_ | refine blk_alloc ?_ _)); refine blk_put (cs := #[.slice none 0 0, .int .i64 0, .int .i64 0, .bool false, .int .i64 0]) ?_ 0 _ rfl; (with_reducible repeat (first | refine blk_drewN ?_ _ | refine blk_drew ?_ | refine blk_alloc ?_ _)); exact BK223.out) Try.underlying65 rfl (by kernel_rfl)) rfl ?_
          exact ⟨_, by first | rfl | (simp [errW_none, errW_some] <;> rfl) | (simp [*, errW_none, errW_some] <;> rfl), by (with_reducible repeat (first | apply Kd.R_alloc | apply Kd.R_drewN | apply Kd.R_drew)); exact Kd.R_mono (Kd.R_far (p := ⟨gb223, 4, none⟩) (Kd.R_far (p := ⟨gb223, 3, none⟩) (Kd.R_far (p := ⟨gb223, 2, none⟩) (Kd.R_far (p := ⟨gb223, 1, none⟩) (Kd.R_far (p := ⟨gb223, 0, none⟩) (Kd.R_types HO_223000.out BK223.out (by decide)) (fun _ hk => hk.2) (.slice Ao6 l0_0.length co6)) (fun _ hk => hk.2) (.int .i64 a0_1)) (fun _ hk => hk.2) (.int .i64 a0_2)) (fun _ hk => hk.2) (.bool a0_3)) (fun _ hk => hk.2) (.int .i64 a0_4)) (fun _ hk => hk.1), by repeat (first | (with_reducible first | exact HB.out | apply below_alloc | apply pw_below_drewN | apply below_drew1 | refine below_set ?_ GE222.out | refine below_set ?_ GE223.out) | exact HB.out), by repeat (first | (with_reducible first | exact HK.out | apply Kept.alloc | apply Kept.drewN | apply Kept.drew | refine Kept.setCell ?_ (.inr GW222.out) _ | refine Kept.setCell ?_ (.inr GW223.out) _) | exact HK.out)⟩
        · rw [if_neg c18] at H
          have c18b0 : decide (a1 < a0_1) = false := decide_eq_false c18
          clear c18
          replace H := Option.bind_eq_some_iff.mp H
          obtain ⟨⟨t225, t228, t229, t230, t231⟩, A220, H⟩ := H
          replace H : (blockhouseref04_Nor_Rewrite.l0 kj4 a1 a2 l3 0 t225 t228 t229 t230 t231) = some (r1, r2, r3, r4, r5, r6) := H
          have A22 := Aside0.mk A220
          clear A220
          have H' := Aside0.mk H
          clear H
          have hnb23 := NB222_223.out
          have hnc23 := NB223_222.out
          have hcz24_0 : wc.cell? ⟨gb222, 0, none⟩ = some (.slice Ao6 l0_0.length co6) := (blk_cell BK222.out 0).trans rfl
          have hcz24_1 : wc.cell? ⟨gb222, 1, none⟩ = some (.int .i64 a0_1) := (blk_cell BK222.out 1).trans rfl
          have hcz24_2 : wc.cell? ⟨gb222, 2, none⟩ = some (.int .i64 a0_2) := (blk_cell BK222.out 2).trans rfl
          have hcz24_3 : wc.cell? ⟨gb222, 3, none⟩ = some (.bool a0_3) := (blk_cell BK222.out 3).trans rfl
          have hcz24_4 : wc.cell? ⟨gb222, 4, none⟩ = some (.int .i64 a0_4) := (blk_cell BK222.out 4).trans rfl
          have hfz24_0 := blk_frozen BK222.out 0
          have hfz24_1 := blk_frozen BK222.out 1
          have hfz24_2 := blk_frozen BK222.out 2
          have hfz24_3 := blk_frozen BK222.out 3
          have hfz24_4 := blk_frozen BK222.out 4
          go_wp2_with (first | ((with_reducible refine gate_callee (f := 57) rfl ?_); refine goesL_ (some 28) rfl rfl Try.func57 (by kernel_rfl) rfl #[.agg #[.slice Ao6 l0_0.length co6, .int .i64 a0_1, .int .i64 a0_2, .bool a0_3, .int .i64 a0_4]] rfl (by (try simp only [List.map_toArray, List.map_cons, List.map_nil]); first | done | rfl | (simp only [List.length_drop, List.length_take]; rfl)) ?_; (with_reducible refine (blockhouseref04_Nor_own.calls _ _ l0_0 a0_1 a0_2 a0_3 a0_4 t225 t228 t229 t230 t231 _ ?side1 ?side2 A22.out).mono ?_); (case side1 => repeat (first | exact (Kd.R_reads' HO_223000.out).2.2 | (with_reducible refine Kd.C_alloc ?_ _) | (with_reducible refine Kd.C_drewN ?_ _) | (with_reducible refine Kd.C_drew ?_))); (case side2 => exact (Kd.R_reads' HO_223000.out).2.1); rintro e w25 ⟨v226, rfl, ho0, hb⟩; refine ⟨_, rfl, ?_⟩; have n0_ := Aside0.mk (Kd.R_elder' (by (with_reducible repeat (first | apply Kd.R_alloc | apply Kd.R_drewN | apply Kd.R_drew)); exact HO_223000.out) (Kd.R_base ho0) hb); have n1_ := Aside0.mk (Kd.R_lower (Kd.R_new' (Kd.R_newM (M := fun k_ => (P0_0_ k_ ∨ w.heap.size ≤ k_)) ho0 (by first | exact HK.out.1 | exact (show Kept w _ (fun k_ => P0_0_ k_) from by repeat (first | (with_reducible first | exact HK.out | apply Kept.alloc | apply Kept.drewN | apply Kept.drew | refine Kept.setCell ?_ (.inr GW222.out) _ | refine Kept.setCell ?_ (.inr GW223.out) _) | exact HK.out)).1) (fun k_ h_ => .inr h_)) (Kd.R_lt (by (with_reducible repeat (first | apply Kd.R_alloc | apply Kd.R_drewN | apply Kd.R_drew)); exact HO_223000.out))) (below_size (by repeat (first | (with_reducible first | exact HB.out | apply below_alloc | apply pw_below_drewN | apply below_drew1 | refine below_set ?_ GE222.out | refine below_set ?_ GE223.out) | exact HB.out)))); have n2_ := Aside0.mk (blk_below (g := gb222) (o := .cells #[.slice Ao6 l0_0.length co6, .int .i64 a0_1, .int .i64 a0_2, .bool a0_3, .int .i64 a0_4] 65 (0, 0)) (by (with_reducible repeat (first | refine blk_drewN ?_ _ | refine blk_drew ?_ | refine blk_alloc ?_ _)); exact BK222.out) hb); have n3_ := Aside0.mk (blk_below (g := gb223) (o := .cells #[.slice none 0 0, .int .i64 0, .int .i64 0, .bool false, .int .i64 0] 65 (0, 0)) (by (with_reducible repeat (first | refine blk_drewN ?_ _ | refine blk_drew ?_ | refine blk_alloc ?_ _)); exact BK223.out) hb); have n4_ := Aside0.mk (Kept.below (S := (fun k_ => P0_0_ k_)) (by repeat (first | (with_reducible first | exact HK.out | apply Kept.alloc | apply Kept.drewN | apply Kept.drew | refine Kept.setCell ?_ (.inr GW222.out) _ | refine Kept.setCell ?_ (.inr GW223.out) _) | exact HK.out)) hb); have n5_ := Aside0.mk (below_step (by repeat (first | (with_reducible first | exact HB.out | apply below_alloc | apply pw_below_drewN | apply below_drew1 | refine below_set ?_ GE222.out | refine below_set ?_ GE223.out) | exact HB.out)) hb); clear HO_223000; clear BK222; clear BK223; clear HK; clear HB; have HO_223000 := n0_; have HO227 := n1_; have BK222 := n2_; have BK223 := n3_; have HK := n4_; have HB := n5_; clear n0_ n1_ n2_ n3_ n4_ n5_; (try clear hb); (try clear hb2); (try clear hk); (try clear hi); (try clear ho0); obtain ⟨Ao26, co26, eo26⟩ := Kd.R_slice HO227.out; subst eo26; have hcz27_0 : w25.cell? ⟨gb222, 0, none⟩ = some (.slice Ao6 l0_0.length co6) := (blk_cell BK222.out 0).trans rfl; have hcz27_1 : w25.cell? ⟨gb222, 1, none⟩ = some (.int .i64 a0_1) := (blk_cell BK222.out 1).trans rfl; have hcz27_2 : w25.cell? ⟨gb222, 2, none⟩ = some (.int .i64 a0_2) := (blk_cell BK222.out 2).trans rfl; have hcz27_3 : w25.cell? ⟨gb222, 3, none⟩ = some (.bool a0_3) := (blk_cell BK222.out 3).trans rfl; have hcz27_4 : w25.cell? ⟨gb222, 4, none⟩ = some (.int .i64 a0_4) := (blk_cell BK222.out 4).trans rfl; have hfz27_0 := blk_frozen BK222.out 0; have hfz27_1 := blk_frozen BK222.out 1; have hfz27_2 := blk_frozen BK222.out 2; have hfz27_3 := blk_frozen BK222.out 3; have hfz27_4 := blk_frozen BK222.out 4))
          go_loopg [10] kj4 (fun kq v10 w' => ∃ (x10_2 : Int) (x223000_2 : List Int) (u223000 : Value), v10 = .int .i64 x10_2 ∧ Aside0 (blockhouseref04_Nor_Rewrite.l0 kq a1 a2 l3 x10_2 x223000_2 t228 t229 t230 t231 = some (r1, r2, r3, r4, r5, r6)) ∧ Aside0 (kq ≤ kj4) ∧ Aside0 (Kd.R (Kd.int .u32) 48 w' w0.heap.size (fun k_ => (P0_0_ k_ ∨ w.heap.size ≤ k_)) u223000 x223000_2) ∧ Aside0 (w'.heap[gb222]? = some (.cells #[u223000, .int .i64 t228, .int .i64 t229, .bool t230, .int .i64 t231] 65 (0, 0))) ∧ Aside0 (w'.heap[gb223]? = some (.cells #[(.slice none 0 0), .int .i64 0, .int .i64 0, .bool false, .int .i64 0] 65 (0, 0))) ∧ Aside0 (Kept w w' (fun k_ => P0_0_ k_)) ∧ Aside0 (Below w0.heap.size w0 w'))
          case atStart => exact ⟨(0), (t225), (.slice Ao26 t225.length co26), (by first | rfl | (simp; done) | (simp [*]; done)), H', ⟨Nat.le_refl _⟩, ⟨by (with_reducible repeat (first | apply Kd.R_alloc | apply Kd.R_drewN | apply Kd.R_drew)); exact Kd.R_mono (Kd.R_far (p := ⟨gb222, 4, none⟩) (Kd.R_far (p := ⟨gb222, 3, none⟩) (Kd.R_far (p := ⟨gb222, 2, none⟩) (Kd.R_far (p := ⟨gb222, 1, none⟩) (Kd.R_far (p := ⟨gb222, 0, none⟩) (Kd.R_types HO227.out BK222.out (by decide)) (fun _ hk => hk.2) (.slice Ao26 t225.length co26)) (fun _ hk => hk.2) (.int .i64 t228)) (fun _ hk => hk.2) (.int .i64 t229)) (fun _ hk => hk.2) (.bool t230)) (fun _ hk => hk.2) (.int .i64 t231)) (fun _ hk => hk.1.1.1)⟩, ⟨by (with_reducible repeat (first | refine blk_drewN ?_ _ | refine blk_drew ?_ | refine blk_alloc ?_ _)); refine blk_put (cs := #[.slice Ao26 t225.length co26, .int .i64 t228, .int .i64 t229, .bool t230, .int .i64 a0_4]) ?_ 4 _ rfl; (with_reducible repeat (first | refine blk_drewN ?_ _ | refine blk_drew ?_ | refine blk_alloc ?_ _)); refine blk_put (cs := #[.slice Ao26 t225.length co26, .int .i64 t228, .int .i64 t229, .bool a0_3, .int .i64 a0_4]) ?_ 3 _ rfl; (with_reducible repeat (first | refine blk_drewN ?_ _ | refine blk_drew ?_ | refine blk_alloc ?_ _)); refine blk_put (cs := #[.slice Ao26 t225.length co26, .int .i64 t228, .int .i64 a0_2, .bool a0_3, .int .i64 a0_4]) ?_ 2 _ rfl; (with_reducible repeat (first | refine blk_drewN ?_ _ | refine blk_drew ?_ | refine blk_alloc ?_ _)); refine blk_put (cs := #[.slice Ao26 t225.length co26, .int .i64 a0_1, .int .i64 a0_2, .bool a0_3, .int .i64 a0_4]) ?_ 1 _ rfl; (with_reducible repeat (first | refine blk_drewN ?_ _ | refine blk_drew ?_ | refine blk_alloc ?_ _)); refine blk_put (cs := #[.slice Ao6 l0_0.length co6, .int .i64 a0_1, .int .i64 a0_2, .bool a0_3, .int .i64 a0_4]) ?_ 0 _ rfl; (with_reducible repeat (first | refine blk_drewN ?_ _ | refine blk_drew ?_ | refine blk_alloc ?_ _)); exact BK222.out⟩, ⟨by (with_reducible repeat (first | refine blk_drewN ?_ _ | refine blk_drew ?_ | refine blk_alloc ?_ _)); refine blk_far ?_ NB223_222.out _; (with_reducible repeat (first | refine blk_drewN ?_ _ | refine blk_drew ?_ | refine blk_alloc ?_ _)); refine blk_far ?_ NB223_222.out _; (with_reducible repeat (first | refine blk_drewN ?_ _ | refine blk_drew ?_ | refine blk_alloc ?_ _)); refine blk_far ?_ NB223_222.out _; (with_reducible repeat (first | refine blk_drewN ?_ _ | refine blk_drew ?_ | refine blk_alloc ?_ _)); refine blk_far ?_ NB223_222.out _; (with_reducible repeat (first | refine blk_drewN ?_ _ | refine blk_drew ?_ | refine blk_alloc ?_ _)); refine blk_far ?_ NB223_222.out _; (with_reducible repeat (first | refine blk_drewN ?_ _ | refine blk_drew ?_ | refine blk_alloc ?_ _)); exact BK223.out⟩, ⟨by repeat (first | (with_reducible first | exact HK.out | apply Kept.alloc | apply Kept.drewN | apply Kept.drew | refine Kept.setCell ?_ (.inr GW222.out) _ | refine Kept.setCell ?_ (.inr GW223.out) _) | exact HK.out)⟩, ⟨by repeat (first | (with_reducible first | exact HB.out | apply below_alloc | apply pw_below_drewN | apply below_drew1 | refine below_set ?_ GE222.out | refine below_set ?_ GE223.out) | exact HB.out)⟩⟩
          case round =>
            clear H'
            try clear c1
            try clear c2
            try clear p2
            try clear c3
            try clear c5
            try clear c9
            try clear c9b0
            try clear c11
            try clear c14
            try clear c15
            try clear c18
            try clear c18b0
            try clear c19
            try clear c23
            try clear hcz12_0
            try clear hcz12_1
            try clear hcz12_2
            try clear hcz12_3
            try clear hcz12_4
            try clear hcz16_0
            try clear hcz16_1
            try clear hcz16_2
            try clear hcz16_3
            try clear hcz16_4
            try clear hcz17_0
            try clear hcz17_1
            try clear hcz17_2
            try clear hcz17_3
            try clear hcz17_4
            try clear hcz20_0
            try clear hcz20_1
            try clear hcz20_2
            try clear hcz20_3
            try clear hcz20_4
            try clear hcz21_0
            try clear hcz21_1
            try clear hcz21_2
            try clear hcz21_3
            try clear hcz21_4
            try clear hcz24_0
            try clear hcz24_1
            try clear hcz24_2
            try clear hcz24_3
            try clear hcz24_4
            try clear hcz27_0
            try clear hcz27_1
            try clear hcz27_2
            try clear hcz27_3
            try clear hcz27_4
            try clear hfz12_0
            try clear hfz12_1
            try clear hfz12_2
            try clear hfz12_3
            try clear hfz12_4
            try clear hfz16_0
            try clear hfz16_1
            try clear hfz16_2
            try clear hfz16_3
            try clear hfz16_4
            try clear hfz17_0
            try clear hfz17_1
            try clear hfz17_2
            try clear hfz17_3
            try clear hfz17_4
            try clear hfz20_0
            try clear hfz20_1
            try clear hfz20_2
            try clear hfz20_3
            try clear hfz20_4
            try clear hfz21_0
            try clear hfz21_1
            try clear hfz21_2
            try clear hfz21_3
            try clear hfz21_4
            try clear hfz24_0
            try clear hfz24_1
            try clear hfz24_2
            try clear hfz24_3
            try clear hfz24_4
            try clear hfz27_0
            try clear hfz27_1
            try clear hfz27_2
            try clear hfz27_3
            try clear hfz27_4
            try clear p2
            obtain ⟨x10_2, x223000_2, u223000, rfl, HA, HK2, HO_223000, BK222, BK223, HK, HB⟩ := hrel
            cases gk with
            | zero => exact absurd HA.out (by simp [blockhouseref04_Nor_Rewrite.l0])
            | succ k2 =>
              have H := HA.out
              clear HA
              simp only [blockhouseref04_Nor_Rewrite.l0] at H
              by_cases c28 : x10_2 < (l3.length : Int)
              · rw [if_pos c28] at H
                have c28b0 : decide (x10_2 < (l3.length : Int)) = true := decide_eq_true c28
                clear c28
                by_cases c29 : 0 ≤ x10_2
                · rw [if_pos c29] at H
                  have c29b0 : decide (0 ≤ x10_2) = true := decide_eq_true c29
                  clear c29
                  obtain ⟨ji30, hji30⟩ : ∃ j_ : Int, (wrap64 ((wrap64 ((wrap64 (a1 * 64)) + a2)) + x10_2)) = j_ := ⟨_, rfl⟩
                  replace H : (if 0 ≤ (ji30) then (if (ji30) < (x223000_2.length : Int) then (blockhouseref04_Nor_Rewrite.l0 k2 a1 a2 l3 (wrap64 (x10_2 + 1)) (x223000_2.set ((ji30) : Int).toNat (rd l3 x10_2)) t228 t229 t230 t231) else (none)) else (none)) = some (r1, r2, r3, r4, r5, r6) := by first | (rw [hji30] at H; exact H) | (simp only [hji30] at H ⊢; exact H)
                  have hji30w : (IntKind.i64.wrap ((wrap64 ((wrap64 (a1 * 64)) + a2)) + x10_2)) = ji30 := (i64_w _).trans hji30
                  by_cases c31 : 0 ≤ (ji30)
                  · rw [if_pos c31] at H
                    have c31b0 : decide (0 ≤ (ji30)) = true := decide_eq_true c31
                    clear c31
                    by_cases c32 : (ji30) < (x223000_2.length : Int)
                    · rw [if_pos c32] at H
                      have c32b0 : decide ((ji30) < (x223000_2.length : Int)) = true := decide_eq_true c32
                      clear c32
                      obtain ⟨y233, hy233⟩ : ∃ y_ : List Int, y_ = (x223000_2.set ((ji30) : Int).toNat (rd l3 x10_2)) := ⟨_, rfl⟩
                      replace H : (blockhouseref04_Nor_Rewrite.l0 k2 a1 a2 l3 (wrap64 (x10_2 + 1)) y233 t228 t229 t230 t231) = some (r1, r2, r3, r4, r5, r6) := by first | (rw [hy233]; with_reducible exact H) | (have H2_ := (Option.bind_some _ _).symm.trans H; rw [hy233]; with_reducible exact H2_) | (have H2_ := (Option.bind_some _ _).symm.trans H; with_reducible exact H2_) | with_reducible exact H | (rw [hy233]; exact H) | exact H
                      have Ny233 := Aside0.mk hy233
                      clear hy233
                      have H' := Aside0.mk H
                      clear H
                      try go_wp2
                      have n0_ := Aside0.mk (Kd.R_drew HO_223000.out)
                      have n1_ := Aside0.mk (blk_drew BK222.out)
                      have n2_ := Aside0.mk (blk_drew BK223.out)
                      have n3_ := Aside0.mk (Kept.drew HK.out)
                      have n4_ := Aside0.mk (below_drew1 HB.out)
                      clear HO_223000
                      clear BK222
                      clear BK223
                      clear HK
                      clear HB
                      have HO_223000 := n0_
                      have BK222 := n1_
                      have BK223 := n2_
                      have HK := n3_
                      have HB := n4_
                      clear n0_ n1_ n2_ n3_ n4_
                      have p232 : 0 ≤ (x10_2 : Int) := of_decide_eq_true (by first | (with_reducible assumption) | assumption)
                      have q232 : x10_2 < (l3.length : Int) := of_decide_eq_true (by first | (with_reducible assumption) | assumption)
                      obtain ⟨ad232, e232, hx232_0⟩ := Kd.at_int (Kd.C_kept_now HR3.out HK.out) x10_2 p232 q232
                      have hw232_0 := hx232_0
                      cases e232
                      replace p232 := eq_true p232
                      replace q232 := eq_true q232
                      have p33 : 0 ≤ ((ji30) : Int) := of_decide_eq_true (by first | (with_reducible assumption) | assumption)
                      have q33 : ((ji30) : Int) < ((x223000_2.length : Int) : Int) := of_decide_eq_true (by first | (with_reducible assumption) | assumption)
                      obtain ⟨go33, co33, eo33, gb33, gl33, cl33, HG33⟩ := Kd.R_form HO_223000.out (by omega)
                      (first | cases eo33 | (injection eo33 with ea_ en_ ec_; (first | subst ea_ | (injection ea_ with ea_; subst ea_)); subst ec_; clear en_))
                      have GB33 := Aside0.mk gb33
                      have GG33 := Aside0.mk HG33
                      clear gb33 gl33 HG33
                      have HMgo33 := Aside0.mk (show (P0_0_ go33 ∨ w.heap.size ≤ go33) from (HO_223000.out.1 _ rfl))
                      obtain ⟨hx33_0, hf33_0⟩ := Kd.R_celln 0 HO_223000.out ((ji30) : Int) p33 q33
                      replace p33 := eq_true p33
                      replace q33 := eq_true q33
                      have HP35 := Kd.R_putn HO_223000.out ((ji30) : Int) (rd l3 x10_2)
                      rw [← Ny233.out] at HP35
                      have HQ35 := Aside0.mk HP35
                      clear HP35
                      refine start_ (n := 14) (S := fun w' => w'.cell? ⟨gb222, 0, none⟩ = some (.slice (some ⟨go33, 0, none⟩) x223000_2.length co33) ∧ w'.cell? ⟨gb222, 1, none⟩ = some (.int .i64 t228) ∧ w'.cell? ⟨gb222, 2, none⟩ = some (.int .i64 t229) ∧ w'.cell? ⟨gb222, 3, none⟩ = some (.bool t230) ∧ w'.cell? ⟨gb222, 4, none⟩ = some (.int .i64 t231) ∧ w'.cell? (ad232.add (x10_2).toNat) = some (.int .u32 (rd l3 x10_2))) (ds := [13]) #[false, false, false, false, false, false, false, false, false, false, false, false, false, false] (by kernel_rfl) rfl rfl ⟨(blk_cell BK222.out 0).trans rfl, (blk_cell BK222.out 1).trans rfl, (blk_cell BK222.out 2).trans rfl, (blk_cell BK222.out 3).trans rfl, (blk_cell BK222.out 4).trans rfl, (Kd.foot_int (HR3.out _ (by repeat (first | exact HK.out | apply Kept.alloc | apply Kept.drewN | apply Kept.drew | refine Kept.setCell ?_ HMgo33.out _))) x10_2 (of_eq_true p232) (of_eq_true q232))⟩ (fun hHeld => ?_); refine with_tabW blockhouseref04_Nor_Rewrite.tab9 blockhouseref04_Nor_Rewrite.bits9 (fun HT_ HW_ => ?_)
                      generalize wr.drew = w34 at HO_223000 BK222 BK223 HK HB GG33 HQ35 hf33_0 hx232_0 hx33_0 hHeld ⊢
                      refine pure_ (i := 0) (N := some 35) (v := ?_) (a' := ?_) #[true, false, false, false, false, false, false, false, false, false, false, false, false, false] rfl rfl (any_of HT_.out (by kernel_rfl)) (fun _ _ _ h => h) (Or.inl ⟨by rfl, ?_⟩) ?_ ?_
                      rotate_left
                      · intro w'
                        go_simp
                        with_reducible rfl
                      rotate_left
                      · simp only [Act.put, List.setIfInBounds_toArray, List.set_cons_zero, List.set_cons_succ, i64_w, i32_w]
                        rfl
                      refine pure_ (i := 2) (N := some 37) (v := ?_) (a' := ?_) #[true, false, true, false, false, false, false, false, false, false, false, false, false, false] rfl rfl (any_of HT_.out (by kernel_rfl)) (fun _ _ _ h => h) (Or.inl ⟨by rfl, ?_⟩) ?_ ?_
                      rotate_left
                      · intro w'
                        go_simp
                        with_reducible rfl
                      rotate_left
                      · simp only [Act.put, List.setIfInBounds_toArray, List.set_cons_zero, List.set_cons_succ, i64_w, i32_w]
                        rfl
                      refine pure_ (i := 3) (N := some 38) (v := ?_) (a' := ?_) #[true, false, true, true, false, false, false, false, false, false, false, false, false, false] rfl rfl (any_of HT_.out (by kernel_rfl)) (fun _ _ _ h => h) (Or.inl ⟨by rfl, ?_⟩) ?_ ?_
                      rotate_left
                      · intro w'
                        go_simp
                        with_reducible rfl
                      rotate_left
                      · simp only [Act.put, List.setIfInBounds_toArray, List.set_cons_zero, List.set_cons_succ, i64_w, i32_w]
                        rfl
                      refine pure_ (i := 4) (N := some 39) (v := ?_) (a' := ?_) #[true, false, true, true, true, false, false, false, false, false, false, false, false, false] rfl rfl (any_of HT_.out (by kernel_rfl)) (fun _ _ _ h => h) (Or.inl ⟨by rfl, ?_⟩) ?_ ?_
                      rotate_left
                      · intro w'
                        go_simp
                        with_reducible rfl
                      rotate_left
                      · simp only [Act.put, List.setIfInBounds_toArray, List.set_cons_zero, List.set_cons_succ, i64_w, i32_w]
                        rfl
                      refine pure_ (i := 5) (N := some 40) (v := ?_) (a' := ?_) #[true, false, true, true, true, true, false, false, false, false, false, false, false, false] rfl rfl (any_of HT_.out (by kernel_rfl)) (fun _ _ _ h => h) (Or.inl ⟨by rfl, ?_⟩) ?_ ?_
                      rotate_left
                      · intro w'
                        go_simp
                        with_reducible rfl
                      rotate_left
                      · simp only [Act.put, List.setIfInBounds_toArray, List.set_cons_zero, List.set_cons_succ, i64_w, i32_w]
                        rfl
                      refine pure_ (i := 6) (N := some 41) (v := ?_) (a' := ?_) #[true, false, true, true, true, true, true, false, false, false, false, false, false, false] rfl rfl (any_of HT_.out (by kernel_rfl)) (fun _ _ _ h => h) (Or.inl ⟨by rfl, ?_⟩) ?_ ?_
                      rotate_left
                      · intro w'
                        go_simp
                        with_reducible rfl
                      rotate_left
                      · simp only [Act.put, List.setIfInBounds_toArray, List.set_cons_zero, List.set_cons_succ, i64_w, i32_w]
                        rfl
                      refine pure_ (i := 7) (N := some 42) (v := ?_) (a' := ?_) #[true, false, true, true, true, true, true, true, false, false, false, false, false, false] rfl rfl (any_of HT_.out (by kernel_rfl)) (fun _ _ _ h => h) (Or.inl ⟨by rfl, ?_⟩) ?_ ?_
                      rotate_left
                      · intro w'
                        go_simp
                        with_reducible rfl
                      rotate_left
                      · simp only [Act.put, List.setIfInBounds_toArray, List.set_cons_zero, List.set_cons_succ, i64_w, i32_w]
                        rfl
                      refine pure_ (i := 8) (N := some 43) (v := ?_) (a' := ?_) #[true, false, true, true, true, true, true, true, true, false, false, false, false, false] rfl rfl (any_of HT_.out (by kernel_rfl)) (fun _ _ _ h => h) (Or.inl ⟨by rfl, ?_⟩) ?_ ?_
                      rotate_left
                      · intro w'
                        go_simp
                        with_reducible rfl
                      rotate_left
                      · simp only [Act.put, List.setIfInBounds_toArray, List.set_cons_zero, List.set_cons_succ, i64_w, i32_w]
                        rfl
                      refine pure_ (i := 9) (N := some 44) (v := ?_) (a' := ?_) #[true, false, true, true, true, true, true, true, true, true, false, false, false, false] rfl rfl (any_of HT_.out (by kernel_rfl)) (fun _ _ _ h => h) (Or.inl ⟨by rfl, ?_⟩) ?_ ?_
                      rotate_left
                      · intro w'
                        go_simp
                        with_reducible rfl
                      rotate_left
                      · simp only [Act.put, List.setIfInBounds_toArray, List.set_cons_zero, List.set_cons_succ, i64_w, i32_w]
                        rfl
                      refine pure_ (i := 10) (N := some 45) (v := ?_) (a' := ?_) #[true, false, true, true, true, true, true, true, true, true, true, false, false, false] rfl rfl (any_of HT_.out (by kernel_rfl)) (fun _ _ _ h => h) (Or.inl ⟨by rfl, ?_⟩) ?_ ?_
                      rotate_left
                      · intro w'
                        go_simp
                        with_reducible rfl
                      rotate_left
                      · simp only [Act.put, List.setIfInBounds_toArray, List.set_cons_zero, List.set_cons_succ, i64_w, i32_w]
                        rfl
                      refine take_ (i := 1) (N := some 36) (v := ?_) (a' := ?_) #[true, true, true, true, true, true, true, true, true, true, true, false, false, false] rfl rfl (take_ofW HT_.out HW_.out (by kernel_rfl)) (fun _ _ _ h => h) (Or.inl ⟨by rfl, ?_⟩) hHeld ?_ ?_
                      rotate_left
                      · rintro w' ⟨s0, s1, s2, s3, s4, s5⟩
                        go_simp
                        with_reducible rfl
                      rotate_left
                      · simp only [Act.put, List.setIfInBounds_toArray, List.set_cons_zero, List.set_cons_succ, i64_w, i32_w]
                        rfl
                      refine take_ (i := 11) (N := some 46) (v := ?_) (a' := ?_) #[true, true, true, true, true, true, true, true, true, true, true, true, false, false] rfl rfl (take_ofW HT_.out HW_.out (by kernel_rfl)) (fun _ _ _ h => h) (Or.inl ⟨by rfl, ?_⟩) hHeld ?_ ?_
                      rotate_left
                      · rintro w' ⟨s0, s1, s2, s3, s4, s5⟩
                        go_simp
                        with_reducible rfl
                      rotate_left
                      · simp only [Act.put, List.setIfInBounds_toArray, List.set_cons_zero, List.set_cons_succ, i64_w, i32_w]
                        rfl
                      refine pure_ (i := 12) (N := some 47) (v := ?_) (a' := ?_) #[true, true, true, true, true, true, true, true, true, true, true, true, true, false] rfl rfl (any_of HT_.out (by kernel_rfl)) (fun _ _ _ h => h) (Or.inl ⟨by rfl, ?_⟩) ?_ ?_
                      rotate_left
                      · intro w'
                        go_simp
                        with_reducible rfl
                      rotate_left
                      · simp only [Act.put, List.setIfInBounds_toArray, List.set_cons_zero, List.set_cons_succ, i64_w, i32_w]
                        rfl
                      refine last_ (i := 13) (N := none) #[true, true, true, true, true, true, true, true, true, true, true, true, true, true] rfl rfl (one_of HT_.out (by kernel_rfl)) (by decide) (fun K hK => ?_)
                      refine skip_ (w1 := ?_) (by rfl) rfl ?_ ?_
                      rotate_left
                      · go_simp
                        rfl
                      refine hK.out _ _ ?_
                      clear hK K
                      refine done_ (done_of HT_.out (by kernel_rfl)) ?_
                      try go_wp2
                      go_roundg k2
                      case measure => have := HJ4.out; have := HK2.out; omega
                      case rel => exact ⟨(wrap64 (x10_2 + 1)), (y233), (.slice (some ⟨go33, 0, none⟩) x223000_2.length co33), (by first | rfl | (simp; done) | (simp [*]; done)), H', ⟨by have := HJ4.out; have := HK2.out; omega⟩, ⟨by (with_reducible repeat (first | apply Kd.R_alloc | apply Kd.R_drewN | apply Kd.R_drew)); exact HQ35.out⟩, ⟨by (with_reducible repeat (first | refine blk_drewN ?_ _ | refine blk_drew ?_ | refine blk_alloc ?_ _)); refine blk_far ?_ (by have h_ := Kd.R_ne HO_223000.out BK222.out (by decide); intro e_; exact h_ (by rw [e_]; rfl)) _; (with_reducible repeat (first | refine blk_drewN ?_ _ | refine blk_drew ?_ | refine blk_alloc ?_ _)); exact BK222.out⟩, ⟨by (with_reducible repeat (first | refine blk_drewN ?_ _ | refine blk_drew ?_ | refine blk_alloc ?_ _)); refine blk_far ?_ (by have h_ := Kd.R_ne HO_223000.out BK223.out (by decide); intro e_; exact h_ (by rw [e_]; rfl)) _; (with_reducible repeat (first | refine blk_drewN ?_ _ | refine blk_drew ?_ | refine blk_alloc ?_ _)); exact BK223.out⟩, ⟨by repeat (first | (with_reducible first | exact HK.out | apply Kept.alloc | apply Kept.drewN | apply Kept.drew | refine Kept.setCell ?_ HMgo33.out _ | refine Kept.setCell ?_ (.inr GW222.out) _ | refine Kept.setCell ?_ (.inr GW223.out) _) | exact HK.out)⟩, ⟨by repeat (first | (with_reducible first | exact HB.out | apply below_alloc | apply pw_below_drewN | apply below_drew1 | refine below_set ?_ GB33.out | refine below_set ?_ GE222.out | refine below_set ?_ GE223.out) | exact HB.out)⟩⟩
                    · rw [if_neg c32] at H
                      exact absurd H (by simp)
                  · rw [if_neg c31] at H
                    exact absurd H (by simp)
                · rw [if_neg c29] at H
                  exact absurd H (by simp)
              · rw [if_neg c28] at H
                have c28b0 : decide (x10_2 < (l3.length : Int)) = false := decide_eq_false c28
                clear c28
                simp only [Option.some.injEq, Prod.mk.injEq] at H
                obtain ⟨rfl, rfl, rfl, rfl, rfl, rfl⟩ := H
                have hnb36 := NB222_223.out
                have hnc36 := NB223_222.out
                have hcz37_0 : wr.cell? ⟨gb222, 0, none⟩ = some (u223000) := (blk_cell BK222.out 0).trans rfl
                have hcz37_1 : wr.cell? ⟨gb222, 1, none⟩ = some (.int .i64 t228) := (blk_cell BK222.out 1).trans rfl
                have hcz37_2 : wr.cell? ⟨gb222, 2, none⟩ = some (.int .i64 t229) := (blk_cell BK222.out 2).trans rfl
                have hcz37_3 : wr.cell? ⟨gb222, 3, none⟩ = some (.bool t230) := (blk_cell BK222.out 3).trans rfl
                have hcz37_4 : wr.cell? ⟨gb222, 4, none⟩ = some (.int .i64 t231) := (blk_cell BK222.out 4).trans rfl
                have hfz37_0 := blk_frozen BK222.out 0
                have hfz37_1 := blk_frozen BK222.out 1
                have hfz37_2 := blk_frozen BK222.out 2
                have hfz37_3 := blk_frozen BK222.out 3
                have hfz37_4 := blk_frozen BK222.out 4
                obtain ⟨Ao38, co38, eo38⟩ := Kd.R_slice HO_223000.out
                subst eo38
                have hcz39_0 : wr.cell? ⟨gb223, 0, none⟩ = some (.slice none 0 0) := (blk_cell BK223.out 0).trans rfl
                have hcz39_1 : wr.cell? ⟨gb223, 1, none⟩ = some (.int .i64 0) := (blk_cell BK223.out 1).trans rfl
                have hcz39_2 : wr.cell? ⟨gb223, 2, none⟩ = some (.int .i64 0) := (blk_cell BK223.out 2).trans rfl
                have hcz39_3 : wr.cell? ⟨gb223, 3, none⟩ = some (.bool false) := (blk_cell BK223.out 3).trans rfl
                have hcz39_4 : wr.cell? ⟨gb223, 4, none⟩ = some (.int .i64 0) := (blk_cell BK223.out 4).trans rfl
                have hfz39_0 := blk_frozen BK223.out 0
                have hfz39_1 := blk_frozen BK223.out 1
                have hfz39_2 := blk_frozen BK223.out 2
                have hfz39_3 := blk_frozen BK223.out 3
                have hfz39_4 := blk_frozen BK223.out 4
                go_wp2
                refine bodyPost_ret (results_ct rfl _ _ gb223 65 #[.slice Ao38 x223000_2.length co38, .int .i64 t228, .int .i64 t229, .bool t230, .int .i64 t231] (0, 0) _ rfl (by (with_reducible repeat (first | refine blk_drewN ?_ _ | refine blk_drew ?_ | refine blk_alloc ?_ _)); refine blk_put (cs := #[.slice Ao38 x223000_2.length co38, .int .i64 t228, .int .i64 t229, .bool t230, .int .i64 0]) ?_ 4 _ rfl; (with_reducible repeat (first | refine blk_drewN ?_ _ | refine blk_drew ?_ | refine blk_alloc ?_ _)); refine blk_put (cs := #[.slice Ao38 x223000_2.length co38, .int .i64 t228, .int .i64 t229, .bool false, .int .i64 0]) ?_ 3 _ rfl; (with_reducible repeat (first | refine blk_drewN ?_ _ | refine blk_drew ?_ | refine blk_alloc ?_ _)); refine blk_put (cs := #[.slice Ao38 x223000_2.length co38, .int .i64 t228, .int .i64 0, .bool false, .int .i64 0]) ?_ 2 _ rfl; (with_reducible repeat (first | refine blk_drewN ?_ _ | refine blk_drew ?_ | refine blk_alloc ?_ _)); refine blk_put (cs := #[.slice Ao38 x223000_2.length co38, .int .i64 0, .int .i64 0, .bool false, .int .i64 0]) ?_ 1 _ rfl; (with_reducible repeat (first | refine blk_drewN ?_ _ | refine blk_drew ?_ | refine blk_alloc ?_ _)); refine blk_put (cs := #[.slice none 0 0, .int .i64 0, .int .i64 0, .bool false, .int .i64 0]) ?_ 0 _ rfl; (with_reducible repeat (first | refine blk_drewN ?_ _ | refine blk_drew ?_ | refine blk_alloc ?_ _)); exact BK223.out) Try.underlying65 rfl (by kernel_rfl)) rfl ?_
                exact ⟨_, by first | rfl | (simp [errW_none, errW_some] <;> rfl) | (simp [*, errW_none, errW_some] <;> rfl), by (with_reducible repeat (first | apply Kd.R_alloc | apply Kd.R_drewN | apply Kd.R_drew)); exact Kd.R_mono (Kd.R_far (p := ⟨gb223, 4, none⟩) (Kd.R_far (p := ⟨gb223, 3, none⟩) (Kd.R_far (p := ⟨gb223, 2, none⟩) (Kd.R_far (p := ⟨gb223, 1, none⟩) (Kd.R_far (p := ⟨gb223, 0, none⟩) (Kd.R_types HO_223000.out BK223.out (by decide)) (fun _ hk => hk.2) (.slice Ao38 x223000_2.length co38)) (fun _ hk => hk.2) (.int .i64 t228)) (fun _ hk => hk.2) (.int .i64 t229)) (fun _ hk => hk.2) (.bool t230)) (fun _ hk => hk.2) (.int .i64 t231)) (fun _ hk => hk.1), by repeat (first | (with_reducible first | exact HB.out | apply below_alloc | apply pw_below_drewN | apply below_drew1 | refine below_set ?_ GE222.out | refine below_set ?_ GE223.out) | exact HB.out), by repeat (first | (with_reducible first | exact HK.out | apply Kept.alloc | apply Kept.drewN | apply Kept.drew | refine Kept.setCell ?_ (.inr GW222.out) _ | refine Kept.setCell ?_ (.inr GW223.out) _) | exact HK.out)⟩

end Go.Proofs.Ytplngfphklpicaa.PDrivePlays

-- one function of what print.sh printed for DrivePlays (printcut.py)
namespace Go.Proofs.Ytplngfphklpicaa.PDrivePlays
open Go.RowKit Go.Proofs.YtplngfphklpicaaW.PrintWords Go.Proofs.YtplngfphklpicaaW.PrintLast Go.Proofs.YtplngfphklpicaaW.PrintMore
attribute [local go_sem] max2_int min2_int max_two min_two max_three min_three max_four min_four   -- for this text's walks alone
set_option linter.unusedVariables false
set_option linter.unusedSimpArgs false

/-! ### blockhouseref05_Drive_Blank: function 38 -/
def blockhouseref05_Drive_Blank.l0 : Nat → List Int → Int → Int → Option (Bool)
  | 0, _, _, _ => none
  | k + 1, x9, x10, x11 => if x11 < (x9.length : Int) then (if 0 ≤ x11 then (if (rd x9 x11) = 4294967295 then (blockhouseref05_Drive_Blank.l0 k x9 x10 (wrap64 (x11 + 1))) else (some false)) else (none)) else (some (x10 == 0))
def blockhouseref05_Drive_Blank.f (k : Nat) (a0_0 : Int) (a0_1 : Int) (l1_0 : List Int) (a1_1 : Int) (a1_2 : Int) (a1_3 : Bool) (a1_4 : Int) (a2 : Int) (a3 : Int) : Option (Bool) := (blockhouseref05_Drive_Read.f k a0_0 a0_1 l1_0 a1_1 a1_2 a1_3 a1_4 a2 a3).bind fun bt236 => (blockhouseref05_Drive_Blank.l0 k bt236.1 bt236.2 0)
theorem blockhouseref05_Drive_Blank.mono_l : ∀ k, (∀ y0 y1 y2, LeO (blockhouseref05_Drive_Blank.l0 k y0 y1 y2) (blockhouseref05_Drive_Blank.l0 (k + 1) y0 y1 y2))
  | 0 => fun _ _ _ r h => by simp [blockhouseref05_Drive_Blank.l0] at h
  | k + 1 => by
    have ih0 := blockhouseref05_Drive_Blank.mono_l k
    · intro y0 y1 y2
      unfold blockhouseref05_Drive_Blank.l0
      repeat' first
      | (with_reducible exact ih0 _ _ _)
      | (with_reducible exact blockhouseref05_Drive_Read.mono _ _ _ _ _ _ _ _ _ _)
      | (with_reducible exact LeO.refl _)
      | (with_reducible exact LeO.none _)
      | (with_reducible refine LeO.ite ?_ ?_)
      | (with_reducible refine LeO.bind ?_ (fun _ => ?_))
      | exact ih0 _ _ _
      | exact blockhouseref05_Drive_Read.mono _ _ _ _ _ _ _ _ _ _
      | exact LeO.none _
      | refine LeO.ite ?_ ?_
      | refine LeO.bind ?_ (fun _ => ?_)
theorem blockhouseref05_Drive_Blank.mono : ∀ a0 a1 a2 a3 a4 a5 a6 a7 a8 k, LeO (blockhouseref05_Drive_Blank.f k a0 a1 a2 a3 a4 a5 a6 a7 a8) (blockhouseref05_Drive_Blank.f (k + 1) a0 a1 a2 a3 a4 a5 a6 a7 a8) := by
  intro a0 a1 a2 a3 a4 a5 a6 a7 a8 k
  have ih0 := blockhouseref05_Drive_Blank.mono_l k
  unfold blockhouseref05_Drive_Blank.f
  repeat' first
      | (with_reducible exact ih0 _ _ _)
      | (with_reducible exact blockhouseref05_Drive_Read.mono _ _ _ _ _ _ _ _ _ _)
      | (with_reducible exact LeO.refl _)
      | (with_reducible exact LeO.none _)
      | (with_reducible refine LeO.ite ?_ ?_)
      | (with_reducible refine LeO.bind ?_ (fun _ => ?_))
      | exact ih0 _ _ _
      | exact blockhouseref05_Drive_Read.mono _ _ _ _ _ _ _ _ _ _
      | exact LeO.none _
      | refine LeO.ite ?_ ?_
      | refine LeO.bind ?_ (fun _ => ?_)
set_option maxHeartbeats 8000000 in
set_option maxRecDepth 100000 in
theorem blockhouseref05_Drive_Blank.calls (k : Nat) (a0_0 : Int) (a0_1 : Int) (A1_0 : Option Addr) (c1_0 : Nat) (l1_0 : List Int) (a1_1 : Int) (a1_2 : Int) (a1_3 : Bool) (a1_4 : Int) (a2 : Int) (a3 : Int) (r : Bool) (w : World) (hr1_0 : Kd.C (Kd.int .u32) w A1_0 l1_0.length l1_0) (hc1_0 : l1_0.length ≤ c1_0) (h : blockhouseref05_Drive_Blank.f k a0_0 a0_1 l1_0 a1_1 a1_2 a1_3 a1_4 a2 a3 = some r) :
    Calls Try.prog 38 #[.agg #[.int .i64 a0_0, .int .i64 a0_1], .agg #[.slice A1_0 l1_0.length c1_0, .int .i64 a1_1, .int .i64 a1_2, .bool a1_3, .int .i64 a1_4], .int .i64 a2, .int .i64 a3] w fun e w' => e = .returned (.bool r) ∧ Below w.heap.size w w' := by
  have hu69 := Try.underlying69
  have hu65 := Try.underlying65
  have HR1_0 := Aside0.mk hr1_0
  have HC1_0 := Aside0.mk hc1_0
  clear hr1_0 hc1_0
  have HB := Aside0.mk (Below.refl w.heap.size w)
  have H : ((blockhouseref05_Drive_Read.f k a0_0 a0_1 l1_0 a1_1 a1_2 a1_3 a1_4 a2 a3).bind fun bt236 => (blockhouseref05_Drive_Blank.l0 k bt236.1 bt236.2 0)) = some r := h
  clear h
  replace H := Option.bind_eq_some_iff.mp H
  obtain ⟨⟨t236, t239⟩, A50, H⟩ := H
  replace H : (blockhouseref05_Drive_Blank.l0 k t236 t239 0) = some r := H
  have A5 := Aside0.mk A50
  clear A50
  have H' := Aside0.mk H
  clear H
  go_enter Try.func38, Try.ntmps38
  go_wp2_with (first | ((with_reducible refine gate_dst (N := 4) rfl ?_); refine box_event ?hg (N := 4) ?hd (cs := #[.int .i64 a0_0, .int .i64 a0_1]) (t := 69) ?hr ?_; (case hd => rfl); (case hg => rfl); (case hr => first | (go_simp; done) | (go_simp; rfl)); intro gb234 hg w6 hbox hb; have n0_ := Aside0.mk (below_step (by repeat (first | (with_reducible first | exact HB.out | apply below_alloc | apply pw_below_drewN | apply below_drew1) | exact HB.out)) hb); have n1_ := Aside0.mk (hbox); have n2_ := Aside0.mk ((by rw [hg]; exact (below_size (by repeat (first | (with_reducible first | exact HB.out | apply below_alloc | apply pw_below_drewN | apply below_drew1) | exact HB.out))) : w.heap.size ≤ gb234)); have n3_ := Aside0.mk ((by rw [hg]; exact (below_size (by repeat (first | (with_reducible first | exact HB.out | apply below_alloc | apply pw_below_drewN | apply below_drew1) | exact HB.out))) : w.heap.size ≤ gb234)); clear HB; have HB := n0_; have BK234 := n1_; have GW234 := n2_; have GE234 := n3_; clear n0_ n1_ n2_ n3_; clear hb hbox hg) | ((with_reducible refine gate_dst (N := 5) rfl ?_); refine box_event ?hg (N := 5) ?hd (cs := #[.slice A1_0 l1_0.length c1_0, .int .i64 a1_1, .int .i64 a1_2, .bool a1_3, .int .i64 a1_4]) (t := 65) ?hr ?_; (case hd => rfl); (case hg => rfl); (case hr => first | (go_simp; done) | (go_simp; rfl)); intro gb235 hg w7 hbox hb; have n0_ := Aside0.mk (blk_below (g := gb234) (o := .cells #[.int .i64 a0_0, .int .i64 a0_1] 69 (0, 0)) (by (with_reducible repeat (first | refine blk_drewN ?_ _ | refine blk_drew ?_ | refine blk_alloc ?_ _)); exact BK234.out) hb); have n1_ := Aside0.mk (below_step (by repeat (first | (with_reducible first | exact HB.out | apply below_alloc | apply pw_below_drewN | apply below_drew1 | refine below_set ?_ GE234.out) | exact HB.out)) hb); have n2_ := Aside0.mk (hbox); have n3_ := Aside0.mk ((by rw [hg]; exact (below_size (by repeat (first | (with_reducible first | exact HB.out | apply below_alloc | apply pw_below_drewN | apply below_drew1 | refine below_set ?_ GE234.out) | exact HB.out))) : w.heap.size ≤ gb235)); have n4_ := Aside0.mk ((by rw [hg]; exact (below_size (by repeat (first | (with_reducible first | exact HB.out | apply below_alloc | apply pw_below_drewN | apply below_drew1 | refine below_set ?_ GE234.out) | exact HB.out))) : w.heap.size ≤ gb235)); have n5_ := Aside0.mk ((by rw [hg]; exact Nat.ne_of_lt (blk_lt (g := gb234) (o := .cells #[.int .i64 a0_0, .int .i64 a0_1] 69 (0, 0)) (by (with_reducible repeat (first | refine blk_drewN ?_ _ | refine blk_drew ?_ | refine blk_alloc ?_ _)); exact BK234.out)) : gb234 ≠ gb235)); have n6_ := Aside0.mk ((by rw [hg]; exact Nat.ne_of_gt (blk_lt (g := gb234) (o := .cells #[.int .i64 a0_0, .int .i64 a0_1] 69 (0, 0)) (by (with_reducible repeat (first | refine blk_drewN ?_ _ | refine blk_drew ?_ | refine blk_alloc ?_ _)); exact BK234.out)) : gb235 ≠ gb234)); clear BK234; clear HB; have BK234 := n0_; have HB := n1_; have BK235 := n2_; have GW235 := n3_; have GE235 := n4_; have NB234_235 := n5_; have NB235_234 := n6_; clear n0_ n1_ n2_ n3_ n4_ n5_ n6_; clear hb hbox hg; have hnb8 := NB234_235.out; have hnc8 := NB235_234.out; have hcz9_0 : w7.cell? ⟨gb234, 0, none⟩ = some (.int .i64 a0_0) := (blk_cell BK234.out 0).trans rfl; have hcz9_1 : w7.cell? ⟨gb234, 1, none⟩ = some (.int .i64 a0_1) := (blk_cell BK234.out 1).trans rfl; have hfz9_0 := blk_frozen BK234.out 0; have hfz9_1 := blk_frozen BK234.out 1; have hcz10_0 : w7.cell? ⟨gb235, 0, none⟩ = some (.slice A1_0 l1_0.length c1_0) := (blk_cell BK235.out 0).trans rfl; have hcz10_1 : w7.cell? ⟨gb235, 1, none⟩ = some (.int .i64 a1_1) := (blk_cell BK235.out 1).trans rfl; have hcz10_2 : w7.cell? ⟨gb235, 2, none⟩ = some (.int .i64 a1_2) := (blk_cell BK235.out 2).trans rfl; have hcz10_3 : w7.cell? ⟨gb235, 3, none⟩ = some (.bool a1_3) := (blk_cell BK235.out 3).trans rfl; have hcz10_4 : w7.cell? ⟨gb235, 4, none⟩ = some (.int .i64 a1_4) := (blk_cell BK235.out 4).trans rfl; have hfz10_0 := blk_frozen BK235.out 0; have hfz10_1 := blk_frozen BK235.out 1; have hfz10_2 := blk_frozen BK235.out 2; have hfz10_3 := blk_frozen BK235.out 3; have hfz10_4 := blk_frozen BK235.out 4) | ((with_reducible refine gate_callee (f := 33) rfl ?_); refine goesL_ (some 17) rfl rfl Try.func33 (by kernel_rfl) rfl #[.agg #[.int .i64 a0_0, .int .i64 a0_1], .agg #[.slice A1_0 l1_0.length c1_0, .int .i64 a1_1, .int .i64 a1_2, .bool a1_3, .int .i64 a1_4], .int .i64 a2, .int .i64 a3] rfl (by (try simp only [List.map_toArray, List.map_cons, List.map_nil]); first | done | rfl | (simp only [List.length_drop, List.length_take]; rfl)) ?_; (with_reducible refine (blockhouseref05_Drive_Read.calls k a0_0 a0_1 _ _ l1_0 a1_1 a1_2 a1_3 a1_4 a2 a3 t236 t239 _ ?side1 ?side2 A5.out).mono ?_); (case side1 => repeat (first | exact (Kd.C_below HR1_0.out HB.out) | (with_reducible refine Kd.C_alloc ?_ _) | (with_reducible refine Kd.C_drewN ?_ _) | (with_reducible refine Kd.C_drew ?_))); (case side2 => exact HC1_0.out); rintro e w11 ⟨v237, rfl, ho0, hb⟩; refine ⟨_, rfl, ?_⟩; have n0_ := Aside0.mk (Kd.R_lower ho0 (below_size (by repeat (first | (with_reducible first | exact HB.out | apply below_alloc | apply pw_below_drewN | apply below_drew1 | refine below_set ?_ GE234.out | refine below_set ?_ GE235.out) | exact HB.out)))); have n1_ := Aside0.mk (blk_below (g := gb234) (o := .cells #[.int .i64 a0_0, .int .i64 a0_1] 69 (0, 0)) (by (with_reducible repeat (first | refine blk_drewN ?_ _ | refine blk_drew ?_ | refine blk_alloc ?_ _)); exact BK234.out) hb); have n2_ := Aside0.mk (blk_below (g := gb235) (o := .cells #[.slice A1_0 l1_0.length c1_0, .int .i64 a1_1, .int .i64 a1_2, .bool a1_3, .int .i64 a1_4] 65 (0, 0)) (by (with_reducible repeat (first | refine blk_drewN ?_ _ | refine blk_drew ?_ | refine blk_alloc ?_ _)); exact BK235.out) hb); have n3_ := Aside0.mk (below_step (by repeat (first | (with_reducible first | exact HB.out | apply below_alloc | apply pw_below_drewN | apply below_drew1 | refine below_set ?_ GE234.out | refine below_set ?_ GE235.out) | exact HB.out)) hb); clear BK234; clear BK235; clear HB; have HO238 := n0_; have BK234 := n1_; have BK235 := n2_; have HB := n3_; clear n0_ n1_ n2_ n3_; (try clear hb); (try clear hb2); (try clear hk); (try clear hi); (try clear ho0)))
  go_loopg [11] k (fun kq v11 w' => ∃ (x11_1 : Int), v11 = .int .i64 x11_1 ∧ Aside0 (blockhouseref05_Drive_Blank.l0 kq t236 t239 x11_1 = some r) ∧ Aside0 (kq ≤ k) ∧ Aside0 (Kd.R (Kd.int .u32) 48 w' w.heap.size (fun _ => True) v237 t236) ∧ Aside0 (w'.heap[gb234]? = some (.cells #[.int .i64 a0_0, .int .i64 a0_1] 69 (0, 0))) ∧ Aside0 (w'.heap[gb235]? = some (.cells #[(.slice A1_0 l1_0.length c1_0), .int .i64 a1_1, .int .i64 a1_2, .bool a1_3, .int .i64 a1_4] 65 (0, 0))) ∧ Aside0 (Below w.heap.size w w'))
  case atStart => exact ⟨(0), (by first | rfl | (simp; done) | (simp [*]; done)), H', ⟨Nat.le_refl _⟩, ⟨by (with_reducible repeat (first | apply Kd.R_alloc | apply Kd.R_drewN | apply Kd.R_drew)); exact HO238.out⟩, ⟨by (with_reducible repeat (first | refine blk_drewN ?_ _ | refine blk_drew ?_ | refine blk_alloc ?_ _)); exact BK234.out⟩, ⟨by (with_reducible repeat (first | refine blk_drewN ?_ _ | refine blk_drew ?_ | refine blk_alloc ?_ _)); exact BK235.out⟩, ⟨by repeat (first | (with_reducible first | exact HB.out | apply below_alloc | apply pw_below_drewN | apply below_drew1 | refine below_set ?_ GE234.out | refine below_set ?_ GE235.out) | exact HB.out)⟩⟩
  case round =>
    clear H'
    try clear c1
    try clear p2
    try clear c3
    try clear c8
    try clear hcz10_0
    try clear hcz10_1
    try clear hcz10_2
    try clear hcz10_3
    try clear hcz10_4
    try clear hcz9_0
    try clear hcz9_1
    try clear hfz10_0
    try clear hfz10_1
    try clear hfz10_2
    try clear hfz10_3
    try clear hfz10_4
    try clear hfz9_0
    try clear hfz9_1
    obtain ⟨x11_1, rfl, HA, HK1, HO_9, BK234, BK235, HB⟩ := hrel
    cases gk with
    | zero => exact absurd HA.out (by simp [blockhouseref05_Drive_Blank.l0])
    | succ k1 =>
      have H := HA.out
      clear HA
      simp only [blockhouseref05_Drive_Blank.l0] at H
      by_cases c12 : x11_1 < (t236.length : Int)
      · rw [if_pos c12] at H
        have c12b0 : decide (x11_1 < (t236.length : Int)) = true := decide_eq_true c12
        clear c12
        by_cases c13 : 0 ≤ x11_1
        · rw [if_pos c13] at H
          have c13b0 : decide (0 ≤ x11_1) = true := decide_eq_true c13
          clear c13
          by_cases c14 : (rd t236 x11_1) = 4294967295
          · rw [if_pos c14] at H
            have c14b0 : ((rd t236 x11_1) == 4294967295) = true := beq_iff_eq.mpr c14
            have c14b1 : ((rd t236 x11_1) != 4294967295) = false := bne_eq_false_iff_eq.mpr c14
            clear c14
            have H' := Aside0.mk H
            clear H
            obtain ⟨Ao15, co15, eo15⟩ := Kd.R_slice HO_9.out
            subst eo15
            have p240 : 0 ≤ (x11_1 : Int) := of_decide_eq_true (by first | (with_reducible assumption) | assumption)
            have q240 : x11_1 < (t236.length : Int) := of_decide_eq_true (by first | (with_reducible assumption) | assumption)
            obtain ⟨ad240, e240, hx240_0⟩ := Kd.at_int (Kd.R_reads' HO_9.out).2.2 x11_1 p240 q240
            cases e240
            replace p240 := eq_true p240
            replace q240 := eq_true q240
            go_wp2
            go_roundg k1
            case measure => have := HK1.out; omega
            case rel => exact ⟨(wrap64 (x11_1 + 1)), (by first | rfl | (simp; done) | (simp [*]; done)), H', ⟨by have := HK1.out; omega⟩, ⟨by (with_reducible repeat (first | apply Kd.R_alloc | apply Kd.R_drewN | apply Kd.R_drew)); exact HO_9.out⟩, ⟨by (with_reducible repeat (first | refine blk_drewN ?_ _ | refine blk_drew ?_ | refine blk_alloc ?_ _)); exact BK234.out⟩, ⟨by (with_reducible repeat (first | refine blk_drewN ?_ _ | refine blk_drew ?_ | refine blk_alloc ?_ _)); exact BK235.out⟩, ⟨by repeat (first | (with_reducible first | exact HB.out | apply below_alloc | apply pw_below_drewN | apply below_drew1 | refine below_set ?_ GE234.out | refine below_set ?_ GE235.out) | exact HB.out)⟩⟩
          · rw [if_neg c14] at H
            have c14b0 : ((rd t236 x11_1) == 4294967295) = false := beq_eq_false_iff_ne.mpr c14
            have c14b1 : ((rd t236 x11_1) != 4294967295) = true := bne_iff_ne.mpr c14
            obtain rfl := Option.some.inj H
            obtain ⟨Ao16, co16, eo16⟩ := Kd.R_slice HO_9.out
            subst eo16
            have p240 : 0 ≤ (x11_1 : Int) := of_decide_eq_true (by first | (with_reducible assumption) | assumption)
            have q240 : x11_1 < (t236.length : Int) := of_decide_eq_true (by first | (with_reducible assumption) | assumption)
            obtain ⟨ad240, e240, hx240_0⟩ := Kd.at_int (Kd.R_reads' HO_9.out).2.2 x11_1 p240 q240
            cases e240
            replace p240 := eq_true p240
            replace q240 := eq_true q240
            go_wp2
            go_ret
            exact ⟨by first | rfl | (simp [errW_none, errW_some] <;> rfl) | (simp [*, errW_none, errW_some] <;> rfl), by repeat (first | (with_reducible first | exact HB.out | apply below_alloc | apply pw_below_drewN | apply below_drew1 | refine below_set ?_ GE234.out | refine below_set ?_ GE235.out) | exact HB.out)⟩
        · rw [if_neg c13] at H
          exact absurd H (by simp)
      · rw [if_neg c12] at H
        have c12b0 : decide (x11_1 < (t236.length : Int)) = false := decide_eq_false c12
        clear c12
        obtain rfl := Option.some.inj H
        obtain ⟨Ao17, co17, eo17⟩ := Kd.R_slice HO_9.out
        subst eo17
        go_wp2
        go_ret
        exact ⟨by first | rfl | (simp [errW_none, errW_some] <;> rfl) | (simp [*, errW_none, errW_some] <;> rfl), by repeat (first | (with_reducible first | exact HB.out | apply below_alloc | apply pw_below_drewN | apply below_drew1 | refine below_set ?_ GE234.out | refine below_set ?_ GE235.out) | exact HB.out)⟩

-- NOT PRINTED: function 60 (nor_Nor_Guard)

-- NOT PRINTED: function 39 (blockhouselow_SameNor)

-- NOT PRINTED: function 8 (blockhouselaw05_DrivePlays)

end Go.Proofs.Ytplngfphklpicaa.PDrivePlays

/-
  Plain: what the printed functions of the document's flash tell is what the plain model does.
-/
namespace Go.Proofs.Ytplngfphklpicaa
open Go.RowKit Go.Proofs.YtplngfphklpicaaW.PrintWords Go.Proofs.Ytplngfphklpicaa.PDrivePlays

theorem w64 {a : Int} (h0 : -9223372036854775808 ≤ a) (h1 : a ≤ 9223372036854775807) : wrap64 a = a := by unfold wrap64; omega

namespace NorS
def tup (s : NorS) : List Int × Int × Int × Bool × Int := (s.l, s.guard, s.arm, s.down, s.half)
def tupE (s : NorS) (e : Int) : List Int × Int × Int × Bool × Int × Int := (s.l, s.guard, s.arm, s.down, s.half, e)
theorem up_down {s : NorS} (h : s.down = true) (sec k m : Int) : s.up sec k m = 40 := by unfold up; rw [if_pos h]
theorem up_ok {s : NorS} (h : ¬ s.down = true) {sec k m : Int} (ht : s.there sec k m = true) : s.up sec k m = 0 := by unfold up; rw [if_neg h, if_pos ht]
theorem up_arg {s : NorS} (h : ¬ s.down = true) {sec k m : Int} (ht : ¬ s.there sec k m = true) : s.up sec k m = 2 := by unfold up; rw [if_neg h, if_neg ht]
theorem there_iff {s : NorS} {sec k m : Int} : s.there sec k m = true ↔ 0 ≤ sec ∧ sec < s.n ∧ 0 ≤ k ∧ m ≤ 64 ∧ k ≤ 64 - m := by
  unfold there; simp only [Bool.and_eq_true, decide_eq_true_eq, and_assoc]
end NorS

theorem rf_sectors {s : NorS} (h : s.Ok) (g a : Int) (d : Bool) (f : Int) : blockhouseref04_Nor_Sectors.f s.l g a d f = some (s.n : Int) := by
  unfold blockhouseref04_Nor_Sectors.f
  have := h.len; have := h.n2
  rw [w64 (by omega) (by omega)]
  congr 1
  omega
theorem rf_right {s : NorS} (h : s.Ok) (g a : Int) (d : Bool) (f : Int) (sec k : Int) (xs : List Int) (hk : k ≤ 64) :
    blockhouseref04_Nor_right.f s.l g a d f sec k xs = some (s.there sec k xs.length) := by
  unfold blockhouseref04_Nor_right.f
  rw [rf_sectors h]
  simp only [Option.bind_some]
  have e : ∀ b : Bool, (b = true ↔ s.there sec k xs.length = true) → some b = some (s.there sec k xs.length) := fun b hb => by
    rw [Bool.eq_iff_iff.2 hb]
  by_cases h1 : sec ≥ 0
  · rw [if_pos h1]
    by_cases h2 : sec < s.n
    · rw [if_pos h2]
      by_cases h3 : k ≥ 0
      · rw [if_pos h3]
        by_cases h4 : (xs.length : Int) ≤ 64
        · rw [if_pos h4, w64 (by omega) (by omega)]
          apply e
          rw [NorS.there_iff, decide_eq_true_eq]; omega
        · rw [if_neg h4]; apply e; rw [NorS.there_iff]; simp only [Bool.false_eq_true, false_iff]; omega
      · rw [if_neg h3]; apply e; rw [NorS.there_iff]; simp only [Bool.false_eq_true, false_iff]; omega
    · rw [if_neg h2]; apply e; rw [NorS.there_iff]; simp only [Bool.false_eq_true, false_iff]; omega
  · rw [if_neg h1]; apply e; rw [NorS.there_iff]; simp only [Bool.false_eq_true, false_iff]; omega
theorem rf_own (l : List Int) (hl : l.length ≤ 65536) (g a : Int) (d : Bool) (f : Int) : blockhouseref04_Nor_own.f l g a d f = some (l, g, a, d, f) := by
  unfold blockhouseref04_Nor_own.f
  rw [if_pos (by simp; omega), List.nil_append]
theorem NorS.Ok.small {s : NorS} (h : s.Ok) : s.l.length ≤ 65536 := by have := h.len; have := h.n2; omega
theorem rf_step {s : NorS} (h : s.Ok) : blockhouseref04_Nor_step.f s.l s.guard s.arm s.down s.half = some (s.step.l, s.step.guard, s.step.arm, s.step.down, s.step.half, s.steps) := by
  have ha := h.a0; have hb := h.a1
  unfold blockhouseref04_Nor_step.f NorS.step NorS.steps
  by_cases h0 : s.arm = 0
  · rw [if_pos h0, if_pos h0, h0]; rfl
  · rw [if_neg h0, if_neg h0]
    have e : (s.arm == 0) = false := by simpa using h0
    rw [e]
    by_cases h1 : s.arm > 0
    · rw [if_pos h1, w64 (by omega) (by omega), show max (s.arm - 1) (-1) = s.arm - 1 from by omega]; rfl
    · rw [if_neg h1, show max (s.arm - 1) (-1) = s.arm from by omega]; rfl

theorem drop_at {xs : List Int} {j : Nat} (h : j < xs.length) : xs.drop j = rd xs j :: xs.drop (j + 1) := by
  rw [List.drop_eq_getElem_cons h]
  simp [rd, h]
theorem rf_prog {S K : Nat} (hS : S ≤ 1024) (hK : K ≤ 64) (xs : List Int) (ux : U32 xs) (hx : xs.length ≤ 64) : ∀ (d j k : Nat) (s : NorS), s.Ok → xs.length = j + d → d < k → S * 64 + K + xs.length ≤ s.l.length →
    blockhouseref04_Nor_Program.l0 k S K xs j s.l s.guard s.arm s.down s.half = some ((s.prog (S * 64 + K + j) (xs.drop j)).tupE (if s.progs (xs.drop j) = true then 0 else 40)) := by
  intro d
  induction d with
  | zero =>
    intro j k s h hj hk hl
    obtain ⟨k, rfl⟩ : ∃ m, k = m + 1 := ⟨k - 1, by omega⟩
    simp only [blockhouseref04_Nor_Program.l0]
    rw [if_neg (by omega), List.drop_of_length_le (by omega)]
    rfl
  | succ d ih =>
    intro j k s h hj hk hl
    obtain ⟨k, rfl⟩ : ∃ m, k = m + 1 := ⟨k - 1, by omega⟩
    simp only [blockhouseref04_Nor_Program.l0]
    rw [if_pos (by omega), rf_step h]
    simp only [Option.bind_some]
    rw [drop_at (show j < xs.length by omega)]
    have e : wrap64 (wrap64 (wrap64 ((S : Int) * 64) + K) + j) = ((S * 64 + K + j : Nat) : Int) := by
      rw [w64 (a := (S : Int) * 64) (by omega) (by omega), w64 (a := (S : Int) * 64 + K) (by omega) (by omega), w64 (by omega) (by omega)]
      omega
    have ej : wrap64 ((j : Int) + 1) = ((j + 1 : Nat) : Int) := by rw [w64 (by omega) (by omega)]; omega
    by_cases hs : s.steps = true
    · have hb := h.step.u.get (S * 64 + K + j)
      have hc := ux.get j
      have ew : Go.bits .and .u32 (rd s.step.l ((S * 64 + K + j : Nat) : Int)) (rd xs j) = wand (s.wd (S * 64 + K + j)) (rd xs j) := by
        unfold rd
        rw [Int.toNat_natCast, Int.toNat_natCast, u32_and _ _ hb.1 hb.2 hc.1 hc.2]
        unfold wand NorS.wd
        rw [NorS.step_l]
      rw [if_pos hs, e, ej, if_pos (by omega), if_pos (by rw [NorS.step_l]; omega), if_pos (by omega), ew, Int.toNat_natCast]
      have hi := ih (j + 1) k (s.step.put (S * 64 + K + j) (wand (s.wd (S * 64 + K + j)) (rd xs j))) (h.step.put _ (wand_u32 (h.wd _))) (by omega) (by omega) (by simp only [NorS.put, List.length_set]; rw [NorS.step_l]; exact hl)
      rw [← Nat.add_assoc] at hi
      refine hi.trans ?_
      show _ = some (NorS.tupE (if s.steps = true then _ else _) (if (if s.steps = true then _ else _) = true then 0 else 40))
      rw [if_pos hs, if_pos hs, NorS.progs_put]
    · rw [if_neg hs]
      show _ = some (NorS.tupE (if s.steps = true then _ else _) (if (if s.steps = true then _ else _) = true then 0 else 40))
      rw [if_neg hs, if_neg hs]
      rfl
theorem rf_program {s : NorS} (h : s.Ok) (sec k : Int) (xs : List Int) (ux : U32 xs) :
    ∃ m, blockhouseref04_Nor_Program.f m s.l s.guard s.arm s.down s.half sec k xs = some ((s.program sec k xs).tupE (s.programE sec k xs)) := by
  refine ⟨xs.length + 3, ?_⟩
  unfold blockhouseref04_Nor_Program.f NorS.program NorS.programE
  by_cases hd : s.down = true
  · rw [if_pos hd, NorS.up_down hd]; rfl
  · rw [if_neg hd]
    by_cases hk : k > 64
    · rw [if_pos hk, NorS.up_arg hd (by rw [NorS.there_iff]; omega)]
      simp only [blockhouseref04_Nor_Program.j0]
      rfl
    · rw [if_neg hk, rf_right h _ _ _ _ _ _ _ (by omega)]
      simp only [Option.bind_some, blockhouseref04_Nor_Program.j0]
      by_cases ht : s.there sec k xs.length = true
      · have ht' := NorS.there_iff.1 ht
        obtain ⟨i0, i1, i2, i3, i4⟩ := ht'
        obtain ⟨S, rfl⟩ := Int.eq_ofNat_of_zero_le i0
        obtain ⟨K, rfl⟩ := Int.eq_ofNat_of_zero_le i2
        have hl := h.len; have hn := h.n2
        rw [ht, NorS.up_ok hd ht, if_neg (by simp), rf_own _ h.small]
        simp only [Option.bind_some]
        have := rf_prog (S := S) (K := K) (by omega) (by omega) xs ux (by omega) xs.length 0 (xs.length + 2) s h (by omega) (by omega) (by omega)
        rw [List.drop_zero, Nat.add_zero] at this
        refine this.trans ?_
        simp only [if_true]
        rfl
      · rw [NorS.up_arg hd ht, if_pos (by simpa using ht)]; rfl

theorem rf_rew {S K : Nat} (hS : S ≤ 1024) (hK : K ≤ 64) (xs : List Int) (hx : xs.length ≤ 64) (g a : Int) (dn : Bool) (hf : Int) : ∀ (d j k : Nat) (l : List Int), xs.length = j + d → d < k → S * 64 + K + xs.length ≤ l.length →
    blockhouseref04_Nor_Rewrite.l0 k S K xs j l g a dn hf = some (NorS.lay l (S * 64 + K + j) (xs.drop j), g, a, dn, hf, 0) := by
  intro d
  induction d with
  | zero =>
    intro j k l hj hk hl
    obtain ⟨k, rfl⟩ : ∃ m, k = m + 1 := ⟨k - 1, by omega⟩
    simp only [blockhouseref04_Nor_Rewrite.l0]
    rw [if_neg (by omega), List.drop_of_length_le (by omega)]
    rfl
  | succ d ih =>
    intro j k l hj hk hl
    obtain ⟨k, rfl⟩ : ∃ m, k = m + 1 := ⟨k - 1, by omega⟩
    simp only [blockhouseref04_Nor_Rewrite.l0]
    have e : wrap64 (wrap64 (wrap64 ((S : Int) * 64) + K) + j) = ((S * 64 + K + j : Nat) : Int) := by
      rw [w64 (a := (S : Int) * 64) (by omega) (by omega), w64 (a := (S : Int) * 64 + K) (by omega) (by omega), w64 (by omega) (by omega)]
      omega
    have ej : wrap64 ((j : Int) + 1) = ((j + 1 : Nat) : Int) := by rw [w64 (by omega) (by omega)]; omega
    rw [if_pos (by omega), if_pos (by omega), e, ej, if_pos (by omega), if_pos (by omega), Int.toNat_natCast, ih (j + 1) k _ (by omega) (by omega) (by simpa using hl), drop_at (show j < xs.length by omega)]
    rfl
theorem rf_rewrite {s : NorS} (h : s.Ok) (sec k : Int) (xs : List Int) :
    ∃ m, blockhouseref04_Nor_Rewrite.f m s.l s.guard s.arm s.down s.half sec k xs = some ((s.rewrite sec k xs).tupE (s.rewriteE sec k xs)) := by
  refine ⟨xs.length + 3, ?_⟩
  unfold blockhouseref04_Nor_Rewrite.f
  by_cases ht : s.there sec k xs.length = true
  · obtain ⟨i0, i1, i2, i3, i4⟩ := NorS.there_iff.1 ht
    rw [if_neg (by omega), rf_right h _ _ _ _ _ _ _ (by omega)]
    simp only [Option.bind_some, blockhouseref04_Nor_Rewrite.j0]
    obtain ⟨S, rfl⟩ := Int.eq_ofNat_of_zero_le i0
    obtain ⟨K, rfl⟩ := Int.eq_ofNat_of_zero_le i2
    have hl := h.len; have hn := h.n2
    rw [ht, if_neg (by simp)]
    by_cases hg : (S : Int) < s.guard
    · have hE : s.rewriteE S K xs = 41 := by unfold NorS.rewriteE; rw [if_pos ht, if_pos hg]
      have hR : s.rewrite S K xs = s := by unfold NorS.rewrite; rw [hE]; rfl
      rw [if_pos hg, hE, hR]; rfl
    · have hE : s.rewriteE S K xs = 0 := by unfold NorS.rewriteE; rw [if_pos ht, if_neg hg]
      have hR : s.rewrite S K xs = { s with l := NorS.lay s.l (NorS.at_ S K) xs } := by unfold NorS.rewrite; rw [if_pos hE]
      rw [if_neg hg, rf_own _ h.small, hE, hR]
      simp only [Option.bind_some]
      have := rf_rew (S := S) (K := K) (by omega) (by omega) xs (by omega) s.guard s.arm s.down s.half xs.length 0 (xs.length + 2) s.l (by omega) (by omega) (by omega)
      rw [List.drop_zero, Nat.add_zero] at this
      exact this
  · have hE : s.rewriteE sec k xs = 2 := by unfold NorS.rewriteE; rw [if_neg ht]
    have hR : s.rewrite sec k xs = s := by unfold NorS.rewrite; rw [hE]; rfl
    rw [hE, hR]
    by_cases hk : k > 64
    · rw [if_pos hk]
      simp only [blockhouseref04_Nor_Rewrite.j0]
      rfl
    · rw [if_neg hk, rf_right h _ _ _ _ _ _ _ (by omega)]
      simp only [Option.bind_some, blockhouseref04_Nor_Rewrite.j0]
      rw [if_pos (by simpa using ht)]; rfl
theorem rf_arm {s : NorS} (k : Int) : blockhouseref04_Nor_Arm.f s.l s.guard s.arm s.down s.half k = some (s.arms k).tup := by
  unfold blockhouseref04_Nor_Arm.f NorS.arms
  by_cases hd : s.down = true
  · rw [if_pos hd, if_pos hd]; rfl
  · rw [if_neg hd, if_neg hd]
    by_cases hk : k < 0
    · rw [if_pos hk, show max k 0 = 0 from by omega]; rfl
    · rw [if_neg hk, show max k 0 = k from by omega]; rfl
theorem rf_read {s : NorS} (h : s.Ok) (sec k : Int) : blockhouseref04_Nor_Read.f s.l s.guard s.arm s.down s.half sec k = some (s.read sec k, s.up sec k 1) := by
  have hl := h.len; have hn2 := h.n2
  unfold blockhouseref04_Nor_Read.f NorS.read
  by_cases hd : s.down = true
  · rw [if_pos hd, NorS.up_down hd]; rfl
  · rw [if_neg hd]
    by_cases h1 : sec < 0
    · rw [if_pos h1, NorS.up_arg hd (by rw [NorS.there_iff]; omega)]; rfl
    · rw [if_neg h1, rf_sectors h]
      simp only [Option.bind_some]
      by_cases h2 : sec ≥ s.n
      · rw [if_pos h2, NorS.up_arg hd (by rw [NorS.there_iff]; omega)]; rfl
      · rw [if_neg h2]
        by_cases h3 : k < 0
        · rw [if_pos h3, NorS.up_arg hd (by rw [NorS.there_iff]; omega)]; rfl
        · rw [if_neg h3]
          by_cases h4 : k ≥ 64
          · rw [if_pos h4, NorS.up_arg hd (by rw [NorS.there_iff]; omega)]; rfl
          · rw [if_neg h4, NorS.up_ok hd (by rw [NorS.there_iff]; omega), if_pos rfl]
            obtain ⟨S, rfl⟩ := Int.eq_ofNat_of_zero_le (a := sec) (by omega)
            obtain ⟨K, rfl⟩ := Int.eq_ofNat_of_zero_le (a := k) (by omega)
            have e : wrap64 (wrap64 ((S : Int) * 64) + K) = ((S * 64 + K : Nat) : Int) := by
              rw [w64 (a := (S : Int) * 64) (by omega) (by omega), w64 (by omega) (by omega)]
              omega
            rw [e, if_pos (by omega), if_pos (by omega)]
            rfl
theorem rf_burn {H : Nat} (hH : H ≤ 1024) (ks : List Bool) (g a : Int) (dn : Bool) : ∀ (d i k : Nat) (l : List Int), 64 = i + d → 2 * d + 1 < k → H * 64 + 64 ≤ l.length →
    blockhouseref04_Nor_Crash.l0 k ks i l g a dn H = some (NorS.burn ks (H * 64) d i l, g, -1, false, -1) := by
  intro d
  induction d with
  | zero =>
    intro i k l hi hk hl
    obtain ⟨k, rfl⟩ : ∃ m, k = m + 2 := ⟨k - 2, by omega⟩
    simp only [blockhouseref04_Nor_Crash.l0, blockhouseref04_Nor_Crash.j1]
    rw [if_neg (by omega), if_neg (by simp)]
    rfl
  | succ d ih =>
    intro i k l hi hk hl
    obtain ⟨k, rfl⟩ : ∃ m, k = m + 2 := ⟨k - 2, by omega⟩
    rw [blockhouseref04_Nor_Crash.l0, if_pos (by omega), blockhouseref04_Nor_Crash.j1]
    have e : wrap64 (wrap64 ((H : Int) * 64) + i) = ((H * 64 + i : Nat) : Int) := by
      rw [w64 (a := (H : Int) * 64) (by omega) (by omega), w64 (by omega) (by omega)]
      omega
    have ei : wrap64 ((i : Int) + 1) = ((i + 1 : Nat) : Int) := by rw [w64 (by omega) (by omega)]; omega
    rw [if_pos (by simp), e, ei, NorS.burn]
    by_cases hk2 : i < ks.length
    · rw [if_pos (by omega), if_pos (by omega)]
      have er : rdOf false ks (i : Int) = ks.getD i false := rfl
      rw [er]
      by_cases hv : ks.getD i false = true
      · rw [if_pos hv, if_pos hv, if_pos (by omega), if_pos (by omega), Int.toNat_natCast]
        exact ih (i + 1) k _ (by omega) (by omega) (by simpa using hl)
      · rw [if_neg hv, if_neg hv]
        exact ih (i + 1) k _ (by omega) (by omega) hl
    · have hv : ¬ ks.getD i false = true := by rw [List.getD_eq_getElem?_getD, List.getElem?_eq_none (by omega)]; simp
      rw [if_neg (by omega), if_neg hv]
      exact ih (i + 1) k _ (by omega) (by omega) hl
theorem rf_crash_at {s : NorS} (h : s.Ok) (ks : List Bool) (k : Nat) (hk : 130 < k) : blockhouseref04_Nor_Crash.f k s.l s.guard s.arm s.down s.half ks = some (s.crash ks).tup := by
  have hl := h.len; have hn2 := h.n2; have h1 := h.h1
  unfold blockhouseref04_Nor_Crash.f
  rw [rf_own _ h.small]
  simp only [Option.bind_some]
  by_cases h0 : 0 ≤ s.half
  · have hC : (s.crash ks).tup = (NorS.burn ks (NorS.at_ s.half 0) 64 0 s.l, s.guard, -1, false, -1) := by unfold NorS.crash NorS.tup; rw [if_pos h0]
    rw [hC]
    obtain ⟨H, hH⟩ := Int.eq_ofNat_of_zero_le h0
    rw [hH]
    rw [hH] at h1
    generalize hD : 64 = D
    have := rf_burn (H := H) (by omega) ks s.guard s.arm s.down D 0 k s.l (by omega) (by omega) (by omega)
    have ea : NorS.at_ (H : Int) 0 = H * 64 := by simp [NorS.at_]
    rw [show ((0 : Nat) : Int) = 0 from rfl] at this
    rw [this, ea]
  · have hC : (s.crash ks).tup = (s.l, s.guard, -1, false, -1) := by unfold NorS.crash NorS.tup; rw [if_neg h0]
    rw [hC]
    obtain ⟨k, rfl⟩ : ∃ m, k = m + 2 := ⟨k - 2, by omega⟩
    rw [blockhouseref04_Nor_Crash.l0, if_pos (by omega), blockhouseref04_Nor_Crash.j1, if_neg (by simpa using h0)]
theorem rf_crash {s : NorS} (h : s.Ok) (ks : List Bool) : ∃ m, blockhouseref04_Nor_Crash.f m s.l s.guard s.arm s.down s.half ks = some (s.crash ks).tup :=
  ⟨131, rf_crash_at h ks 131 (by omega)⟩
theorem rf_fill (n : Nat) (hn : n ≤ 1024) (g a : Int) (dn : Bool) (hf : Int) : ∀ (d i k : Nat), 64 * n = i + d → d < k →
    blockhouseref04_New.l0 k n i (List.replicate i 4294967295) g a dn hf = some (List.replicate (64 * n) 4294967295, g, a, dn, hf, 0) := by
  intro d
  induction d with
  | zero =>
    intro i k hi hk
    obtain ⟨k, rfl⟩ : ∃ m, k = m + 1 := ⟨k - 1, by omega⟩
    simp only [blockhouseref04_New.l0]
    rw [w64 (a := (n : Int) * 64) (by omega) (by omega), if_neg (by omega), show 64 * n = i from by omega]
  | succ d ih =>
    intro i k hi hk
    obtain ⟨k, rfl⟩ : ∃ m, k = m + 1 := ⟨k - 1, by omega⟩
    simp only [blockhouseref04_New.l0]
    have ei : wrap64 ((i : Int) + 1) = ((i + 1 : Nat) : Int) := by rw [w64 (by omega) (by omega)]; omega
    rw [w64 (a := (n : Int) * 64) (by omega) (by omega), if_pos (by omega), if_pos (by simp; omega), ei, ← List.replicate_succ']
    exact ih (i + 1) k (by omega) (by omega)
theorem rf_new (n g : Nat) (h1 : 1 ≤ n) (h2 : n ≤ 1024) (hg : g ≤ n) : ∃ m, blockhouseref04_New.f m n g = some ((NorS.new n g).tupE 0) := by
  refine ⟨64 * n + 3, ?_⟩
  unfold blockhouseref04_New.f
  rw [if_neg (by omega), if_neg (by omega), if_neg (by omega)]
  simp only [blockhouseref04_New.j0]
  rw [if_neg (by simp; omega)]
  have := rf_fill n h2 g (-1) false (-1) (64 * n) 0 (64 * n + 2) (by omega) (by omega)
  rw [List.replicate_zero, show ((0 : Nat) : Int) = 0 from rfl] at this
  rw [this]
  rfl
theorem rf_new_bad (n g : Int) (h : n < 1 ∨ 1024 < n ∨ g < 0 ∨ n < g) : ∃ m, blockhouseref04_New.f m n g = some ([], 0, 0, false, 0, 2) := by
  refine ⟨1, ?_⟩
  unfold blockhouseref04_New.f
  by_cases h1 : n < 1
  · rw [if_pos h1]; simp only [blockhouseref04_New.j0]; rfl
  · rw [if_neg h1]
    by_cases h2 : n > 1024
    · rw [if_pos h2]; simp only [blockhouseref04_New.j0]; rfl
    · rw [if_neg h2]
      by_cases h3 : g < 0
      · rw [if_pos h3]; simp only [blockhouseref04_New.j0]; rfl
      · rw [if_neg h3]
        simp only [blockhouseref04_New.j0]
        rw [if_pos (by simp; omega)]
end Go.Proofs.Ytplngfphklpicaa

/-
  Arguments: rows of words and of truths.
-/
namespace Go.Proofs.Ytplngfphklpicaa
open Go.RowKit
/-- An argument of words. -/
structure RowArg (w : World) (B : Nat) (A : Option Addr) (c : Nat) (xs : List Int) : Prop where
  r : Rd w A (ints .u32 xs)
  b : xs ≠ [] → ∀ a, A = some a → a.block < B
  u : U32 xs
  l : xs.length ≤ c
  m : (c : Int) ≤ 9223372036854775807
theorem RowArg.len {w : World} {B : Nat} {A : Option Addr} {c : Nat} {xs : List Int} (h : RowArg w B A c xs) : (xs.length : Int) ≤ 9223372036854775807 := by have := h.l; have := h.m; omega
theorem RowArg.frm {S : Nat → Prop} {w w' : World} {B : Nat} {A : Option Addr} {c : Nat} {xs : List Int} (h : RowArg w B A c xs) (hf : Frm S w w') (hs : ∀ k, k < B → ¬ S k) : RowArg w' B A c xs :=
  ⟨by
    by_cases e : xs = []
    · rw [e]; exact Rd.nil _ _
    · exact h.r.frm hf (fun a ha => hs _ (h.b e a ha)), h.b, h.u, h.l, h.m⟩
theorem RowArg.take {w : World} {B : Nat} {A : Option Addr} {c : Nat} {xs : List Int} (h : RowArg w B A c xs) (n : Nat) : RowArg w B A c (xs.take n) :=
  ⟨by rw [ints_take]; exact h.r.take n, fun hne => h.b (fun e => hne (by rw [e]; simp)), h.u.take n, by have := h.l; rw [List.length_take]; omega, h.m⟩
structure BoolArg (w : World) (B : Nat) (A : Option Addr) (ks : List Bool) : Prop where
  r : Rd w A (bools ks)
  b : ks ≠ [] → ∀ a, A = some a → a.block < B
  m : (ks.length : Int) ≤ 9223372036854775807
theorem BoolArg.frm {S : Nat → Prop} {w w' : World} {B : Nat} {A : Option Addr} {ks : List Bool} (h : BoolArg w B A ks) (hf : Frm S w w') (hs : ∀ k, k < B → ¬ S k) : BoolArg w' B A ks :=
  ⟨by
    by_cases e : ks = []
    · rw [e]; exact Rd.nil _ _
    · exact h.r.frm hf (fun a ha => hs _ (h.b e a ha)), h.b, h.m⟩
end Go.Proofs.Ytplngfphklpicaa

/-
  The document's flash, by value: its contracts, out of the printed ones.
-/
namespace Go.Proofs.Ytplngfphklpicaa
open Go.RowKit Go.Proofs.YtplngfphklpicaaW.PrintWords Go.Proofs.Ytplngfphklpicaa.PDrivePlays

/-- the document's flash, its words at v -/
def refV (v : Value) (s : NorS) : Value := .agg #[v, .int .i64 s.guard, .int .i64 s.arm, .bool s.down, .int .i64 s.half]
/-- it is a flash: its words are of the call's own (made since w0), in blocks that P lets -/
structure Rf (w0 w : World) (P : Nat → Prop) (v : Value) (s : NorS) : Prop where
  r : Kd.R (Kd.int .u32) 48 w w0.heap.size P v s.l
  ok : s.Ok
def RfPost (w0 w : World) (P : Nat → Prop) (s' : NorS) (e : Ending) (w' : World) : Prop := ∃ v', e = .returned (refV v' s') ∧ Rf w0 w' (fun k => P k ∨ w.heap.size ≤ k) v' s' ∧ Below w0.heap.size w0 w' ∧ Frm P w w'
def RfPostE (w0 w : World) (P : Nat → Prop) (s' : NorS) (x : Int) (e : Ending) (w' : World) : Prop := ∃ v', e = .returned (.tuple #[refV v' s', .int .i64 x]) ∧ Rf w0 w' (fun k => P k ∨ w.heap.size ≤ k) v' s' ∧ Below w0.heap.size w0 w' ∧ Frm P w w'

theorem frm_kept {w0 w w' : World} {P : Nat → Prop} (h : Below w0.heap.size w0 w) (h' : Below w0.heap.size w0 w') (k : Kept w w' P) : Frm P w w' :=
  ⟨h'.os.trans h.os.symm, h'.tape.trans h.tape.symm, h'.output.trans h.output.symm, k.1, k.2⟩
theorem kd_of_rd {w : World} {A : Option Addr} {xs : List Int} (h : Rd w A (ints .u32 xs)) (hm : (xs.length : Int) ≤ 9223372036854775807) : Kd.C (Kd.int .u32) w A xs.length xs := by
  refine ⟨rfl, by omega, fun hn => ?_⟩
  obtain ⟨b, o, rfl, hc⟩ := h (ints_ne (by intro e; subst e; simp at hn))
  refine ⟨_, rfl, fun j p hj => ⟨[.int .u32 p], rfl, rfl, fun i u hu => ?_⟩⟩
  obtain ⟨hl, hp⟩ := List.getElem?_eq_some_iff.1 hj
  have h1 := hc j (.int .u32 p) (by simp [ints, hj])
  have hi : i = 0 := by
    have := (List.getElem?_eq_some_iff.1 hu).1
    simp at this; exact this
  subst hi
  simp at hu
  subst hu
  rw [addr_add]
  simpa [Kd.int, Kd.scalar] using h1
theorem kd_of_rd_bool {w : World} {A : Option Addr} {ks : List Bool} (h : Rd w A (bools ks)) (hm : (ks.length : Int) ≤ 9223372036854775807) : Kd.C Kd.bool w A ks.length ks := by
  refine ⟨rfl, by omega, fun hn => ?_⟩
  obtain ⟨b, o, rfl, hc⟩ := h (bools_ne (by intro e; subst e; simp at hn))
  refine ⟨_, rfl, fun j p hj => ⟨[.bool p], rfl, rfl, fun i u hu => ?_⟩⟩
  have h1 := hc j (.bool p) (by simp [bools, hj])
  have hi : i = 0 := by
    have := (List.getElem?_eq_some_iff.1 hu).1
    simp at this; exact this
  subst hi
  simp at hu
  subst hu
  rw [addr_add]
  simpa [Kd.bool, Kd.scalar] using h1
theorem calls_eq {P : Program} {f : Nat} {a : Array Value} {w : World} {Q Q' : Ending → World → Prop} (h : Calls P f a w Q) (hq : ∀ e w', Q e w' → Q' e w') : Calls P f a w Q' := h.mono hq

section
variable {w0 w : World} {P : Nat → Prop} {v : Value} {s : NorS}
theorem Rf.frm {S : Nat → Prop} {w' : World} (h : Rf w0 w P v s) (hf : Frm S w w') (hs : ∀ k, P k → ¬ S k) : Rf w0 w' P v s := ⟨Kd.R_step h.r (fun k hk hlt => hf.block k hlt (hs k hk)), h.ok⟩
theorem Rf.mono {Q : Nat → Prop} (h : Rf w0 w P v s) (hs : ∀ k, P k → Q k) : Rf w0 w Q v s := ⟨Kd.R_mono h.r hs, h.ok⟩
theorem Rf.small (h : Rf w0 w P v s) : Rf w0 w (fun k => P k ∧ k < w.heap.size) v s := ⟨Kd.R_mono (Kd.R_bound h.r) (fun _ hk => ⟨hk.1, hk.2.2.1⟩), h.ok⟩

theorem rd_kept {w W : World} {A : Option Addr} {vs : List Value} (h : Rd w A vs) (hk : Kept w W P) (hn : vs ≠ [] → ∀ a, A = some a → ¬ P a.block) : Rd W A vs := fun hv => by
  obtain ⟨b, o, rfl, hc⟩ := h hv
  refine ⟨b, o, rfl, fun i v hi => ?_⟩
  have h1 := hc i v hi
  have h2 := World.block_lt_of_cell? w _ h1
  rw [World.cell?_of_block (hk.2 b h2 (hn hv _ rfl))]
  exact h1
theorem ref_program (sec k : Int) (A : Option Addr) (c n : Nat) (xs : List Int) (hn : xs.length = n) (h : Rf w0 w P v s) (hB : Below w0.heap.size w0 w) (hx : RowArg w w0.heap.size A c xs) (hP : ∀ k, P k → w0.heap.size ≤ k) (hok : (s.program sec k xs).Ok) :
    Calls Try.prog 54 #[refV v s, .int .i64 sec, .int .i64 k, .slice A n c] w (RfPostE w0 w P (s.program sec k xs) (s.programE sec k xs)) := by
  subst hn
  obtain ⟨m, hf⟩ := rf_program h.ok sec k xs hx.u
  refine (blockhouseref04_Nor_Program.calls m P v s.l s.guard s.arm s.down s.half sec k A c xs _ _ _ _ _ _ w0 w hB h.r (fun W hW => kd_of_rd (rd_kept hx.r hW (fun hv a ha hp => ?_)) hx.len) hx.l hf).mono ?_
  · have h1 := hP _ hp
    have h2 := hx.b (fun e => hv (by rw [e]; rfl)) a ha
    omega
  · rintro e w' ⟨v', rfl, hr, hb, hk⟩
    exact ⟨v', rfl, ⟨hr, hok⟩, hb, frm_kept hB hb hk⟩
theorem ref_rewrite (sec k : Int) (A : Option Addr) (c n : Nat) (xs : List Int) (hn : xs.length = n) (h : Rf w0 w P v s) (hB : Below w0.heap.size w0 w) (hx : RowArg w w0.heap.size A c xs) (hP : ∀ k, P k → w0.heap.size ≤ k) (hok : (s.rewrite sec k xs).Ok) :
    Calls Try.prog 37 #[refV v s, .int .i64 sec, .int .i64 k, .slice A n c] w (RfPostE w0 w P (s.rewrite sec k xs) (s.rewriteE sec k xs)) := by
  subst hn
  obtain ⟨m, hf⟩ := rf_rewrite h.ok sec k xs
  refine (blockhouseref04_Nor_Rewrite.calls m P v s.l s.guard s.arm s.down s.half sec k A c xs _ _ _ _ _ _ w0 w hB h.r (fun W hW => kd_of_rd (rd_kept hx.r hW (fun hv a ha hp => ?_)) hx.len) hx.l hf).mono ?_
  · have h1 := hP _ hp
    have h2 := hx.b (fun e => hv (by rw [e]; rfl)) a ha
    omega
  · rintro e w' ⟨v', rfl, hr, hb, hk⟩
    exact ⟨v', rfl, ⟨hr, hok⟩, hb, frm_kept hB hb hk⟩
theorem ref_arm (k : Int) (h : Rf w0 w P v s) (hB : Below w0.heap.size w0 w) (hok : (s.arms k).Ok) :
    Calls Try.prog 34 #[refV v s, .int .i64 k] w (RfPost w0 w P (s.arms k)) := by
  refine (blockhouseref04_Nor_Arm.calls P v s.l s.guard s.arm s.down s.half k _ _ _ _ _ w0 w hB h.r (rf_arm k)).mono ?_
  rintro e w' ⟨v', rfl, hr, hb, hk⟩
  exact ⟨v', rfl, ⟨hr, hok⟩, hb, frm_kept hB hb hk⟩
theorem ref_crash (A : Option Addr) (c n : Nat) (ks : List Bool) (hn : ks.length = n) (hc : ks.length ≤ c) (h : Rf w0 w P v s) (hB : Below w0.heap.size w0 w) (hx : BoolArg w w0.heap.size A ks) (hok : (s.crash ks).Ok) :
    Calls Try.prog 35 #[refV v s, .slice A n c] w (RfPost w0 w P (s.crash ks)) := by
  subst hn
  obtain ⟨m, hf⟩ := rf_crash h.ok ks
  obtain ⟨A0, c0, rfl⟩ := Kd.R_slice h.r
  obtain ⟨-, hl, hC⟩ := Kd.R_reads' h.r
  refine (blockhouseref04_Nor_Crash.calls m A0 c0 s.l s.guard s.arm s.down s.half A c ks _ _ _ _ _ w hC hl (kd_of_rd_bool hx.r hx.m) hc hf).mono ?_
  rintro e w' ⟨v', rfl, hr, hb⟩
  exact ⟨v', rfl, ⟨Kd.R_lower (Kd.R_mono (Kd.R_bound hr) (fun k hk => .inr hk.2.1)) hB.size, hok⟩, below_step hB hb, Frm.of_below hb P⟩
theorem ref_sectors (h : Rf w0 w P v s) :
    Calls Try.prog 53 #[refV v s] w fun e w' => e = .returned (.int .i64 s.n) ∧ Below w.heap.size w w' := by
  obtain ⟨A0, c0, rfl⟩ := Kd.R_slice h.r
  obtain ⟨-, hl, hC⟩ := Kd.R_reads' h.r
  exact blockhouseref04_Nor_Sectors.calls A0 c0 s.l s.guard s.arm s.down s.half _ w hC hl (rf_sectors h.ok _ _ _ _)
theorem ref_read (sec k : Int) (h : Rf w0 w P v s) :
    Calls Try.prog 56 #[refV v s, .int .i64 sec, .int .i64 k] w fun e w' => e = .returned (.tuple #[.int .u32 (s.read sec k), .int .i64 (s.up sec k 1)]) ∧ Below w.heap.size w w' := by
  obtain ⟨A0, c0, rfl⟩ := Kd.R_slice h.r
  obtain ⟨-, hl, hC⟩ := Kd.R_reads' h.r
  exact blockhouseref04_Nor_Read.calls A0 c0 s.l s.guard s.arm s.down s.half sec k _ _ w hC hl (rf_read h.ok _ _)
theorem ref_new (n g : Nat) (h1 : 1 ≤ n) (h2 : n ≤ 1024) (hg : g ≤ n) (hB : Below w0.heap.size w0 w) (hok : (NorS.new n g).Ok) :
    Calls Try.prog 28 #[.int .i64 n, .int .i64 g] w (RfPostE w0 w (fun _ => False) (NorS.new n g) 0) := by
  obtain ⟨m, hf⟩ := rf_new n g h1 h2 hg
  refine (blockhouseref04_New.calls m n g _ _ _ _ _ _ w hf).mono ?_
  rintro e w' ⟨v', rfl, hr, hb⟩
  exact ⟨v', rfl, ⟨Kd.R_lower (Kd.R_mono (Kd.R_bound hr) (fun k hk => .inr hk.2.1)) hB.size, hok⟩, below_step hB hb, Frm.of_below hb _⟩
theorem ref_new_bad (n g : Int) (h : n < 1 ∨ 1024 < n ∨ g < 0 ∨ n < g) (w : World) :
    Calls Try.prog 28 #[.int .i64 n, .int .i64 g] w fun e w' => ∃ A c, e = .returned (.tuple #[.agg #[.slice A 0 c, .int .i64 0, .int .i64 0, .bool false, .int .i64 0], .int .i64 2]) ∧ Below w.heap.size w w' := by
  obtain ⟨m, hf⟩ := rf_new_bad n g h
  refine (blockhouseref04_New.calls m n g _ _ _ _ _ _ w hf).mono ?_
  rintro e w' ⟨v', rfl, hr, hb⟩
  obtain ⟨A0, c0, rfl⟩ := Kd.R_slice hr
  exact ⟨_, _, rfl, hb⟩
end
end Go.Proofs.Ytplngfphklpicaa
