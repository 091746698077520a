/-
  Arguments, opened: rows of ops.
-/
import Derived.Test.YtplngfphklpicaaDrvOps
import Derived.Test.YtplngfphklpicaaOpenRows
namespace Go.Proofs.Ytplngfphklpicaa
open Go.ChangeShapes Go.WideShapes Go.ChangeAt Go.RowKit Go.Deep

section
variable {H : Type} {enc : TypeId × Value → H} {W : World}
theorem op_cells : Try.prog.cellsOf 61 = 5 := by kernel_rfl
theorem op_one : ∃ f0 f1 f2 f3 f4, Try.prog.underlying 61 = some (.struct #[f0, f1, f2, f3, f4]) ∧ oneCellFields Try.prog #[f0, f1, f2, f3, f4] = true ∧ f0.type = 3 ∧ f1.type = 3 ∧ f2.type = 3 ∧ f3.type = 22 ∧ f4.type = 59 :=
  ⟨_, _, _, _, _, Try.underlying61, by kernel_rfl, by kernel_rfl, by kernel_rfl, by kernel_rfl, by kernel_rfl, by kernel_rfl⟩
/-- one op -/
theorem open_op {fuel : Nat} {cs : List Value} {x : DataW H × List MemPlace} (h : DataW.trod enc Try.prog W 0 (fun _ => true) true fuel 61 cs = some x) :
    ∃ (o : OpS) (AL : Option Addr) (cL : Nat) (AK : Option Addr) (cK : Nat), cs = [.int .i64 o.kind, .int .i64 o.sector, .int .i64 o.at_, .slice AL o.l.length cL, .slice AK o.keeps.length cK] ∧ OpIs W W.heap.size o AL cL AK cK := by
  obtain ⟨f0, f1, f2, f3, f4, hu, hone, t0, t1, t2, t3, t4⟩ := op_one
  obtain ⟨v0, v1, v2, v3, v4, n, y0, y1, y2, y3, y4, rfl, h0, h1, h2, h3, h4⟩ := open_five hu hone op_cells h
  rw [t0] at h0; rw [t1] at h1; rw [t2] at h2; rw [t3] at h3; rw [t4] at h4
  obtain ⟨k, rfl, wk⟩ := open_one_int Try.underlying3 h0
  obtain ⟨s, rfl, ws⟩ := open_one_int Try.underlying3 h1
  obtain ⟨a, rfl, wa⟩ := open_one_int Try.underlying3 h2
  obtain ⟨AL, cL, xs, rfl, rl, wl, ll, lm⟩ := open_row Try.underlying22 Try.underlying48 u32_one h3
  obtain ⟨AK, cK, ks, rfl, rk, lk, km⟩ := open_brow Try.underlying59 Try.underlying4 bool_one h4
  have bk := bounds_i64 wk; have bs := bounds_i64 ws; have ba := bounds_i64 wa
  have hc := cap_i64 lm; have hc2 := cap_i64 km
  exact ⟨⟨k, s, a, xs, ks⟩, AL, cL, AK, cK, rfl, ⟨rl, fun hne => rl.below (ints_ne hne), rk, fun hne => rk.below (bools_ne hne), u32_wf wl, bk.1, bk.2, bs.1, bs.2, ba.1, ba.2, ll, hc, by show (ks.length : Int) ≤ _; omega, lk⟩⟩
/-- an argument of ops -/
theorem open_ops {A0 : Option Addr} {len0 cap0 : Nat} {d : DataW H} {p : List MemPlace} (h : DataW.Trod enc Try.prog W 0 (fun _ => true) true 43 (.slice A0 len0 cap0) d p) :
    ∃ (A : Option Addr) (c : Nat) (ops : List OpS), Value.slice A0 len0 cap0 = .slice A ops.length c ∧ OpsAt W W.heap.size A ops ∧ (ops.length : Int) ≤ 9223372036854775807 := by
  obtain ⟨fuel, hf⟩ := h
  rcases open_slice Try.underlying43 hf with ⟨hcs, _⟩ | ⟨a, len, cap, m, n, D, Pl, hcs, _, hl, hm, hmm, _, hi⟩
  · simp [Value.cells] at hcs
    exact ⟨none, 0, [], by simp [hcs], ⟨fun i hi => by simp at hi⟩, by simp⟩
  · simp only [if_true] at hmm
    subst hmm
    have hc := cap_i64 hm
    have hex : ∀ i, i < m → ∃ (o : OpS) (AL : Option Addr) (cL : Nat) (AK : Option Addr) (cK : Nat), OpIs W W.heap.size o AL cL AK cK ∧ ∀ j u, [Value.int .i64 o.kind, .int .i64 o.sector, .int .i64 o.at_, .slice AL o.l.length cL, .slice AK o.keeps.length cK][j]? = some u → W.cell? ((a.add (i * 5)).add j) = some u := fun i him => by
      obtain ⟨cs', hcell, ht⟩ := hi i him
      rw [op_cells] at hcell
      obtain ⟨o, AL, cL, AK, cK, rfl, ho⟩ := open_op ht
      refine ⟨o, AL, cL, AK, cK, ho, fun j u hju => ?_⟩
      obtain ⟨_, hlen, hat⟩ := World.cells?_some hcell
      have hj : j < 5 := by
        have := (List.getElem?_eq_some_iff.1 hju).1
        simpa using this
      rw [hat j hj, hju]
    classical
    let F : Nat → OpS := fun i => if him : i < m then (hex i him).choose else ⟨0, 0, 0, [], []⟩
    refine ⟨some a, m, (List.range len).map F, ?_, ⟨fun i hi' => ?_⟩, by simp; omega⟩
    · simp [Value.cells] at hcs
      simp [hcs]
    · have hil : i < len := by simpa using hi'
      have him : i < m := by omega
      have e : ((List.range len).map F)[i]'hi' = (hex i him).choose := by
        simp [F, him]
      obtain ⟨AL, cL, AK, cK, ho, hcells⟩ := (hex i him).choose_spec
      have h0 := hcells 0 _ rfl
      have hab : a = ⟨a.block, a.off, none⟩ := by
        obtain ⟨_, _, _, _, _, _, hc0⟩ := hex 0 (by omega)
        have h1 := hc0 0 _ rfl
        rw [show (a.add (0 * 5)).add 0 = a from by simp [Addr.add]] at h1
        obtain ⟨b, o, ha⟩ := spot_none h1
        rw [ha]
      have hadd : ∀ j, (a.add (i * 5)).add j = ⟨a.block, a.off + i * 5 + j, none⟩ := fun j => by
        rw [hab, addr_add, addr_add]
      refine ⟨a.block, a.off, AL, cL, AK, cK, by rw [← hab], ?_, by rw [e]; exact ho, ?_, ?_, ?_, ?_, ?_⟩
      · have := World.block_lt_of_cell? W _ h0
        rw [hadd] at this; exact this
      all_goals rw [e]
      · have := hcells 0 _ rfl; rw [hadd] at this; exact this
      · have := hcells 1 _ rfl; rw [hadd] at this; exact this
      · have := hcells 2 _ rfl; rw [hadd] at this; exact this
      · have := hcells 3 _ rfl; rw [hadd] at this; exact this
      · have := hcells 4 _ rfl; rw [hadd] at this; exact this
end
end Go.Proofs.Ytplngfphklpicaa
