/-
  Arguments, opened: rows of numbers, of truths, of ops.
-/
import Derived.Test.YtlbnhmcejbidnaaNorLaw5
import Derived.Test.YtlbnhmcejbidnaaArgs
import Derived.ProofKit
import Derived.OpenShut
import Derived.ChangeOld
import Derived.SizedLaws
import Derived.Deep.Slices
import Derived.Deep.Fields
import Derived.Deep.Grids
import Derived.ChangeSame
namespace Go.Proofs.Ytlbnhmcejbidnaa
open Go.ChangeShapes Go.WideShapes Go.ChangeAt Go.RowKit Go.Deep

section
variable {H : Type} {enc : TypeId × Value → H} {P : Program} {W : World}
theorem spot_none {w : World} {a : Addr} {v : Value} (h : w.cell? a = some v) : ∃ b o, a = ⟨b, o, none⟩ := by
  have := World.cell?_spot h
  obtain ⟨b, o, s⟩ := a
  simp at this
  exact ⟨b, o, by rw [this]⟩
/-- a row of numbers -/
theorem open_row {base : Nat} {spare : Nat → Bool} {held : Bool} {t e : TypeId} {k : IntKind} {fuel : Nat} {v : Value} {x : DataW H × List MemPlace} (ht : P.underlying t = some (.slice e)) (he : P.underlying e = some (.int k)) (hc : P.cellsOf e = 1)
    (h : DataW.trod enc P W base spare held fuel t [v] = some x) :
    ∃ (A : Option Addr) (c : Nat) (xs : List Int), v = .slice A xs.length c ∧ Rd W A (ints k xs) ∧ (∀ n ∈ xs, (Lit.int k n).wf = true) ∧ xs.length ≤ c ∧ c ≤ maxLen := by
  rcases open_ints ht he hc h with ⟨hcs, _⟩ | ⟨a, l, c, zs, hcs, _, hl, hm, hz, _, hcell, hwz⟩
  · simp at hcs
    subst hcs
    exact ⟨none, 0, [], rfl, Rd.nil _ _, (fun n hn => by cases hn), Nat.le_refl _, Nat.zero_le _⟩
  · simp at hcs
    subst hcs
    have hzl : l ≤ zs.length := by rw [hz]; split <;> omega
    have hlen : (zs.take l).length = l := by rw [List.length_take]; omega
    refine ⟨some a, c, zs.take l, by rw [hlen], fun hne => ?_, fun n hn => hwz n (List.mem_of_mem_take hn), by rw [hlen]; exact hl, hm⟩
    have hl0 : 0 < l := by
      rcases Nat.eq_zero_or_pos l with h0 | h0
      · subst h0; simp [ints] at hne
      · exact h0
    have h0 := hcell 0 (by omega)
    obtain ⟨b, o, ha⟩ := spot_none h0
    have ha' : a = ⟨b, o, none⟩ := by
      have : a.add 0 = a := by simp [Addr.add]
      rw [this] at ha; exact ha
    subst ha'
    refine ⟨b, o, rfl, fun i v hi => ?_⟩
    have hil : i < l := by
      have := (List.getElem?_eq_some_iff.1 hi).1
      rw [ints_length, hlen] at this; exact this
    have := hcell i (by omega)
    rw [addr_add] at this
    rw [this, ← hi, ints_get (by rw [hlen]; exact hil)]
    congr 2
    simp only [List.getD_eq_getElem?_getD, List.getElem?_take_of_lt hil]
/-- a row of truths -/
theorem open_brow {base : Nat} {held : Bool} {t e : TypeId} {fuel : Nat} {v : Value} {x : DataW H × List MemPlace} (ht : P.underlying t = some (.slice e)) (he : P.underlying e = some .bool) (hc : P.cellsOf e = 1)
    (h : DataW.trod enc P W base (fun _ => true) held fuel t [v] = some x) :
    ∃ (A : Option Addr) (c : Nat) (ks : List Bool), v = .slice A ks.length c ∧ Rd W A (bools ks) ∧ ks.length ≤ c ∧ c ≤ maxLen := by
  rcases open_bools ht he hc h with ⟨hcs, _⟩ | ⟨a, l, c, B, hcs, _, hl, hm, _, hcell⟩
  · simp at hcs
    subst hcs
    exact ⟨none, 0, [], rfl, Rd.nil _ _, Nat.le_refl _, Nat.zero_le _⟩
  · simp at hcs
    subst hcs
    refine ⟨some a, c, (List.range l).map B, by simp, fun hne => ?_, by simpa using hl, hm⟩
    have hl0 : 0 < l := by
      rcases Nat.eq_zero_or_pos l with h0 | h0
      · subst h0; simp [bools] at hne
      · exact h0
    have h0 := hcell 0 (by omega)
    obtain ⟨b, o, ha⟩ := spot_none h0
    have ha' : a = ⟨b, o, none⟩ := by
      have : a.add 0 = a := by simp [Addr.add]
      rw [this] at ha; exact ha
    subst ha'
    refine ⟨b, o, rfl, fun i v hi => ?_⟩
    have hil : i < l := by
      have := (List.getElem?_eq_some_iff.1 hi).1
      simpa [bools] using this
    have := hcell i (by omega)
    rw [addr_add] at this
    rw [this, ← hi]
    simp [bools, hil]
/-- five fields of one cell each -/
theorem open_five {base : Nat} {spare : Nat → Bool} {held : Bool} {t : TypeId} {f0 f1 f2 f3 f4 : Field} {fuel : Nat} {cs : List Value} {x : DataW H × List MemPlace} (ht : P.underlying t = some (.struct #[f0, f1, f2, f3, f4])) (hone : oneCellFields P #[f0, f1, f2, f3, f4] = true) (hC : P.cellsOf t = 5)
    (h : DataW.trod enc P W base spare held fuel t cs = some x) :
    ∃ (v0 v1 v2 v3 v4 : Value) (n : Nat) (y0 y1 y2 y3 y4 : DataW H × List MemPlace), cs = [v0, v1, v2, v3, v4] ∧ DataW.trod enc P W base spare held n f0.type [v0] = some y0 ∧ DataW.trod enc P W base spare held n f1.type [v1] = some y1 ∧ DataW.trod enc P W base spare held n f2.type [v2] = some y2 ∧ DataW.trod enc P W base spare held n f3.type [v3] = some y3 ∧ DataW.trod enc P W base spare held n f4.type [v4] = some y4 := by
  obtain ⟨xs, n, _, _, hl, hx, hf⟩ := DataW.trod_struct ht h
  rw [hC] at hl
  match cs, hl with
  | [v0, v1, v2, v3, v4], _ =>
    match xs, hx with
    | [y0, y1, y2, y3, y4], _ =>
      obtain ⟨o0, k0⟩ := hone_of hone 0 f0 rfl
      obtain ⟨o1, k1⟩ := hone_of hone 1 f1 rfl
      obtain ⟨o2, k2⟩ := hone_of hone 2 f2 rfl
      obtain ⟨o3, k3⟩ := hone_of hone 3 f3 rfl
      obtain ⟨o4, k4⟩ := hone_of hone 4 f4 rfl
      exact ⟨v0, v1, v2, v3, v4, n, y0, y1, y2, y3, y4, rfl, by simpa [o0, k0] using hf 0 f0 rfl, by simpa [o1, k1] using hf 1 f1 rfl, by simpa [o2, k2] using hf 2 f2 rfl, by simpa [o3, k3] using hf 3 f3 rfl, by simpa [o4, k4] using hf 4 f4 rfl⟩
theorem open_one_int {base : Nat} {spare : Nat → Bool} {held : Bool} {t : TypeId} {k : IntKind} {fuel : Nat} {v : Value} {x : DataW H × List MemPlace} (ht : P.underlying t = some (.int k)) (h : DataW.trod enc P W base spare held fuel t [v] = some x) :
    ∃ n, v = .int k n ∧ (Lit.int k n).wf = true := by
  obtain ⟨n, h1, _, h2⟩ := DataW.trod_int ht h
  simp at h1
  exact ⟨n, h1, h2⟩
/-- a row's cells lie below the heap's end -/
theorem Rd.below {w : World} {A : Option Addr} {vs : List Value} (h : Rd w A vs) (hne : vs ≠ []) : ∀ a, A = some a → a.block < w.heap.size := fun a ha => by
  obtain ⟨a', ha', hlt⟩ := h.lt hne
  rw [ha] at ha'
  injection ha' with ha'
  subst ha'; exact hlt
theorem u32_wf {xs : List Int} (h : ∀ n ∈ xs, (Lit.int .u32 n).wf = true) : U32 xs := fun x hx => by
  have := bounds_u32 (h x hx); omega
end

section
variable {H : Type} {enc : TypeId × Value → H} {W : World}
theorem op_cells : Try.prog.cellsOf 30 = 5 := by kernel_rfl
theorem op_one : ∃ f0 f1 f2 f3 f4, Try.prog.underlying 30 = some (.struct #[f0, f1, f2, f3, f4]) ∧ oneCellFields Try.prog #[f0, f1, f2, f3, f4] = true ∧ f0.type = 3 ∧ f1.type = 3 ∧ f2.type = 3 ∧ f3.type = 27 ∧ f4.type = 28 :=
  ⟨_, _, _, _, _, Try.underlying30, by kernel_rfl, by kernel_rfl, by kernel_rfl, by kernel_rfl, by kernel_rfl, by kernel_rfl⟩
theorem u32_one : Try.prog.cellsOf 36 = 1 := by kernel_rfl
theorem bool_one : Try.prog.cellsOf 4 = 1 := by kernel_rfl
theorem cap_i64 {c : Nat} (h : c ≤ maxLen) : (c : Int) ≤ 9223372036854775807 := by unfold maxLen at h; omega
/-- one op -/
theorem open_op {fuel : Nat} {cs : List Value} {x : DataW H × List MemPlace} (h : DataW.trod enc Try.prog W 0 (fun _ => true) true fuel 30 cs = some x) :
    ∃ (o : OpS) (AL : Option Addr) (cL : Nat) (AK : Option Addr) (cK : Nat), cs = [.int .i64 o.kind, .int .i64 o.sector, .int .i64 o.at_, .slice AL o.l.length cL, .slice AK o.keeps.length cK] ∧ OpIs W W.heap.size o AL cL AK cK := by
  obtain ⟨f0, f1, f2, f3, f4, hu, hone, t0, t1, t2, t3, t4⟩ := op_one
  obtain ⟨v0, v1, v2, v3, v4, n, y0, y1, y2, y3, y4, rfl, h0, h1, h2, h3, h4⟩ := open_five hu hone op_cells h
  rw [t0] at h0; rw [t1] at h1; rw [t2] at h2; rw [t3] at h3; rw [t4] at h4
  obtain ⟨k, rfl, wk⟩ := open_one_int Try.underlying3 h0
  obtain ⟨s, rfl, ws⟩ := open_one_int Try.underlying3 h1
  obtain ⟨a, rfl, wa⟩ := open_one_int Try.underlying3 h2
  obtain ⟨AL, cL, xs, rfl, rl, wl, ll, lm⟩ := open_row Try.underlying27 Try.underlying36 u32_one h3
  obtain ⟨AK, cK, ks, rfl, rk, lk, km⟩ := open_brow Try.underlying28 Try.underlying4 bool_one h4
  have bk := bounds_i64 wk; have bs := bounds_i64 ws; have ba := bounds_i64 wa
  have hc := cap_i64 lm; have hc2 := cap_i64 km
  exact ⟨⟨k, s, a, xs, ks⟩, AL, cL, AK, cK, rfl, ⟨rl, fun hne => rl.below (ints_ne hne), rk, fun hne => rk.below (bools_ne hne), u32_wf wl, bk.1, bk.2, bs.1, bs.2, ba.1, ba.2, ll, hc, by show (ks.length : Int) ≤ _; omega⟩⟩
/-- an argument of words -/
theorem open_arg_row {t e : TypeId} (ht : Try.prog.underlying t = some (.slice e)) (he : Try.prog.underlying e = some (.int .u32)) (hc : Try.prog.cellsOf e = 1) {A0 : Option Addr} {len0 cap0 : Nat} {d : DataW H} {p : List MemPlace} (h : DataW.Trod enc Try.prog W 0 (fun _ => true) true t (.slice A0 len0 cap0) d p) :
    ∃ (A : Option Addr) (c : Nat) (xs : List Int), Value.slice A0 len0 cap0 = .slice A xs.length c ∧ RowArg W W.heap.size A c xs := by
  obtain ⟨fuel, hf⟩ := h
  obtain ⟨A, c, xs, e, r, w, l, m⟩ := open_row ht he hc hf
  exact ⟨A, c, xs, e, ⟨r, fun hne => r.below (ints_ne hne), u32_wf w, l, cap_i64 m⟩⟩
/-- an argument of truths -/
theorem open_arg_brow {t e : TypeId} (ht : Try.prog.underlying t = some (.slice e)) (he : Try.prog.underlying e = some .bool) (hc : Try.prog.cellsOf e = 1) {A0 : Option Addr} {len0 cap0 : Nat} {d : DataW H} {p : List MemPlace} (h : DataW.Trod enc Try.prog W 0 (fun _ => true) true t (.slice A0 len0 cap0) d p) :
    ∃ (A : Option Addr) (c : Nat) (ks : List Bool), Value.slice A0 len0 cap0 = .slice A ks.length c ∧ BoolArg W W.heap.size A ks := by
  obtain ⟨fuel, hf⟩ := h
  obtain ⟨A, c, ks, e, r, l, m⟩ := open_brow ht he hc hf
  have := cap_i64 m
  exact ⟨A, c, ks, e, ⟨r, fun hne => r.below (bools_ne hne), by omega⟩⟩
/-- an argument of ops -/
theorem open_ops {A0 : Option Addr} {len0 cap0 : Nat} {d : DataW H} {p : List MemPlace} (h : DataW.Trod enc Try.prog W 0 (fun _ => true) true 22 (.slice A0 len0 cap0) d p) :
    ∃ (A : Option Addr) (c : Nat) (ops : List OpS), Value.slice A0 len0 cap0 = .slice A ops.length c ∧ OpsAt W W.heap.size A ops ∧ (ops.length : Int) ≤ 9223372036854775807 := by
  obtain ⟨fuel, hf⟩ := h
  rcases open_slice Try.underlying22 hf with ⟨hcs, _⟩ | ⟨a, len, cap, m, n, D, Pl, hcs, _, hl, hm, hmm, _, hi⟩
  · simp [Value.cells] at hcs
    exact ⟨none, 0, [], by simp [hcs], ⟨fun i hi => by simp at hi⟩, by simp⟩
  · simp only [if_true] at hmm
    subst hmm
    have hc := cap_i64 hm
    have hex : ∀ i, i < m → ∃ (o : OpS) (AL : Option Addr) (cL : Nat) (AK : Option Addr) (cK : Nat), OpIs W W.heap.size o AL cL AK cK ∧ ∀ j u, [Value.int .i64 o.kind, .int .i64 o.sector, .int .i64 o.at_, .slice AL o.l.length cL, .slice AK o.keeps.length cK][j]? = some u → W.cell? ((a.add (i * 5)).add j) = some u := fun i him => by
      obtain ⟨cs', hcell, ht⟩ := hi i him
      rw [op_cells] at hcell
      obtain ⟨o, AL, cL, AK, cK, rfl, ho⟩ := open_op ht
      refine ⟨o, AL, cL, AK, cK, ho, fun j u hju => ?_⟩
      obtain ⟨_, hlen, hat⟩ := World.cells?_some hcell
      have hj : j < 5 := by
        have := (List.getElem?_eq_some_iff.1 hju).1
        simpa using this
      rw [hat j hj, hju]
    classical
    let F : Nat → OpS := fun i => if him : i < m then (hex i him).choose else ⟨0, 0, 0, [], []⟩
    refine ⟨some a, m, (List.range len).map F, ?_, ⟨fun i hi' => ?_⟩, by simp; omega⟩
    · simp [Value.cells] at hcs
      simp [hcs]
    · have hil : i < len := by simpa using hi'
      have him : i < m := by omega
      have e : ((List.range len).map F)[i]'hi' = (hex i him).choose := by
        simp [F, him]
      obtain ⟨AL, cL, AK, cK, ho, hcells⟩ := (hex i him).choose_spec
      have h0 := hcells 0 _ rfl
      have hab : a = ⟨a.block, a.off, none⟩ := by
        obtain ⟨_, _, _, _, _, _, hc0⟩ := hex 0 (by omega)
        have h1 := hc0 0 _ rfl
        rw [show (a.add (0 * 5)).add 0 = a from by simp [Addr.add]] at h1
        obtain ⟨b, o, ha⟩ := spot_none h1
        rw [ha]
      have hadd : ∀ j, (a.add (i * 5)).add j = ⟨a.block, a.off + i * 5 + j, none⟩ := fun j => by
        rw [hab, addr_add, addr_add]
      refine ⟨a.block, a.off, AL, cL, AK, cK, by rw [← hab], ?_, by rw [e]; exact ho, ?_, ?_, ?_, ?_, ?_⟩
      · have := World.block_lt_of_cell? W _ h0
        rw [hadd] at this; exact this
      all_goals rw [e]
      · have := hcells 0 _ rfl; rw [hadd] at this; exact this
      · have := hcells 1 _ rfl; rw [hadd] at this; exact this
      · have := hcells 2 _ rfl; rw [hadd] at this; exact this
      · have := hcells 3 _ rfl; rw [hadd] at this; exact this
      · have := hcells 4 _ rfl; rw [hadd] at this; exact this
end
end Go.Proofs.Ytlbnhmcejbidnaa
