/-
  Arguments, opened: a piece, rows of pieces.
-/
import Derived.Test.YtdhcgghdimkdbaaBlOpen
import Derived.Test.YtdhcgghdimkdbaaBlRound0
namespace Go.Proofs.Ytdhcgghdimkdbaa
open Go.ChangeShapes Go.WideShapes Go.ChangeAt Go.RowKit Go.Deep
section
variable {H : Type} {enc : TypeId × Value → H} {P : Program} {W : World}
/-- three fields of one cell each -/
theorem open_three {base : Nat} {spare : Nat → Bool} {held : Bool} {t : TypeId} {f0 f1 f2 : Field} {fuel : Nat} {cs : List Value} {x : DataW H × List MemPlace} (ht : P.underlying t = some (.struct #[f0, f1, f2])) (hone : oneCellFields P #[f0, f1, f2] = true) (hC : P.cellsOf t = 3)
    (h : DataW.trod enc P W base spare held fuel t cs = some x) :
    ∃ (v0 v1 v2 : Value) (n : Nat) (y0 y1 y2 : DataW H × List MemPlace), cs = [v0, v1, v2] ∧ DataW.trod enc P W base spare held n f0.type [v0] = some y0 ∧ DataW.trod enc P W base spare held n f1.type [v1] = some y1 ∧ DataW.trod enc P W base spare held n f2.type [v2] = some y2 := by
  obtain ⟨xs, n, _, _, hl, hx, hf⟩ := DataW.trod_struct ht h
  rw [hC] at hl
  match cs, hl with
  | [v0, v1, v2], _ =>
    match xs, hx with
    | [y0, y1, y2], _ =>
      obtain ⟨o0, k0⟩ := hone_of hone 0 f0 rfl
      obtain ⟨o1, k1⟩ := hone_of hone 1 f1 rfl
      obtain ⟨o2, k2⟩ := hone_of hone 2 f2 rfl
      exact ⟨v0, v1, v2, n, y0, y1, y2, rfl, by simpa [o0, k0] using hf 0 f0 rfl, by simpa [o1, k1] using hf 1 f1 rfl, by simpa [o2, k2] using hf 2 f2 rfl⟩
theorem pc_cells : Try.prog.cellsOf 54 = 3 := by kernel_rfl
theorem pc_one : ∃ f0 f1 f2, Try.prog.underlying 54 = some (.struct #[f0, f1, f2]) ∧ oneCellFields Try.prog #[f0, f1, f2] = true ∧ f0.type = 5 ∧ f1.type = 22 ∧ f2.type = 23 :=
  ⟨_, _, _, Try.underlying54, by kernel_rfl, by kernel_rfl, by kernel_rfl, by kernel_rfl⟩
theorem open_pc {fuel : Nat} {cs : List Value} {x : DataW H × List MemPlace} (h : DataW.trod enc Try.prog W 0 (fun _ => true) true fuel 54 cs = some x) :
    ∃ (p : PcS) (v : Value), cs = [.int .u8 p.kind, .int .u64 p.n, v] ∧ PcIn W p v := by
  obtain ⟨f0, f1, f2, hu, hone, t0, t1, t2⟩ := pc_one
  obtain ⟨v0, v1, v2, n, y0, y1, y2, rfl, h0, h1, h2⟩ := open_three hu hone pc_cells h
  rw [t0] at h0; rw [t1] at h1; rw [t2] at h2
  obtain ⟨k, rfl, wk⟩ := open_one_int Try.underlying5 h0
  obtain ⟨m, rfl, wm⟩ := open_one_int Try.underlying22 h1
  obtain ⟨xs, hb, hk⟩ := open_bytes Try.underlying23 Try.underlying5 uint8_one h2
  have bk := bounds_u8 wk; have bm := bounds_u64 wm
  obtain ⟨M, rfl⟩ := Int.eq_ofNat_of_zero_le bm.1
  exact ⟨⟨k, M, xs⟩, v2, rfl, ⟨hb, fun hne j hj => by
    rcases hk j hj with h3 | h3
    · exact h3
    · exact absurd h3 hne, bk.1, bk.2, by show M < _; omega⟩⟩
/-- a piece as an argument -/
theorem open_arg_pc {v : Value} {cs : Array Value} (hv : v = .agg cs) {d : DataW H} {p : List MemPlace} (h : DataW.Trod enc Try.prog W 0 (fun _ => true) true 54 v d p) :
    ∃ (q : PcS) (u : Value), v = .agg #[.int .u8 q.kind, .int .u64 q.n, u] ∧ PcIn W q u := by
  subst hv
  obtain ⟨fuel, hf⟩ := h
  obtain ⟨q, u, e, hq⟩ := open_pc hf
  refine ⟨q, u, ?_, hq⟩
  have e2 : cs.toList = [.int .u8 q.kind, .int .u64 q.n, u] := e
  congr 1
  apply Array.ext'
  rw [e2]
/-- rows of pieces -/
theorem open_pcs {A0 : Option Addr} {len0 cap0 : Nat} {d : DataW H} {p : List MemPlace} (h : DataW.Trod enc Try.prog W 0 (fun _ => true) true 52 (.slice A0 len0 cap0) d p) :
    ∃ (A : Option Addr) (c : Nat) (ps : List PcS) (bl o : Nat), Value.slice A0 len0 cap0 = .slice A ps.length c ∧ (ps ≠ [] → A = some ⟨bl, o, none⟩ ∧ bl < W.heap.size) ∧ ps.length ≤ c ∧ (c : Int) ≤ 9223372036854775807 ∧
      (∀ i (hi : i < ps.length), ∃ v, PcIn W (ps[i]'hi) v ∧ W.cell? ⟨bl, o + i * 3, none⟩ = some (.int .u8 (ps[i]'hi).kind) ∧ W.cell? ⟨bl, o + i * 3 + 1, none⟩ = some (.int .u64 (ps[i]'hi).n) ∧ W.cell? ⟨bl, o + i * 3 + 2, none⟩ = some v) := by
  obtain ⟨fuel, hf⟩ := h
  rcases open_slice Try.underlying52 hf with ⟨hcs, _⟩ | ⟨a, len, cap, m, n, D, Pl, hcs, _, hl, hm, hmm, _, hi⟩
  · simp [Value.cells] at hcs
    exact ⟨none, 0, [], 0, 0, by simp [hcs], (fun e => (e rfl).elim), by simp, by omega, fun i hi => by simp at hi⟩
  · simp only [if_true] at hmm
    subst hmm
    have hc := cap_i64 hm
    have hex : ∀ i, i < m → ∃ (q : PcS) (v : Value), PcIn W q v ∧ ∀ j u, [Value.int .u8 q.kind, .int .u64 q.n, v][j]? = some u → W.cell? ((a.add (i * 3)).add j) = some u := fun i him => by
      obtain ⟨cs', hcell, ht⟩ := hi i him
      rw [pc_cells] at hcell
      obtain ⟨q, v, rfl, hq⟩ := open_pc ht
      refine ⟨q, v, hq, fun j u hju => ?_⟩
      obtain ⟨_, hlen, hat⟩ := World.cells?_some hcell
      have hj : j < 3 := by
        have := (List.getElem?_eq_some_iff.1 hju).1
        simpa using this
      rw [hat j hj, hju]
    classical
    let F : Nat → PcS := fun i => if him : i < m then (hex i him).choose else ⟨0, 0, []⟩
    have hab : 0 < m → a = ⟨a.block, a.off, none⟩ ∧ a.block < W.heap.size := fun h0 => by
      obtain ⟨_, _, _, hc0⟩ := hex 0 h0
      have h1 := hc0 0 _ rfl
      rw [show (a.add (0 * 3)).add 0 = a from by simp [Addr.add]] at h1
      obtain ⟨b, o, ha⟩ := spot_none h1
      exact ⟨by rw [ha], World.block_lt_of_cell? W _ h1⟩
    refine ⟨some a, m, (List.range len).map F, a.block, a.off, ?_, fun hne => ?_, by simp; exact hl, hc, fun i hi' => ?_⟩
    · simp [Value.cells] at hcs
      simp [hcs]
    · have h0 : 0 < m := by
        rcases Nat.eq_zero_or_pos len with h0 | h0
        · subst h0; simp at hne
        · omega
      obtain ⟨h1, h2⟩ := hab h0
      exact ⟨by rw [← h1], h2⟩
    · have hil : i < len := by simpa using hi'
      have him : i < m := by omega
      have e : ((List.range len).map F)[i]'hi' = (hex i him).choose := by
        simp [F, him]
      obtain ⟨v, ho, hcells⟩ := (hex i him).choose_spec
      have hab := (hab (by omega)).1
      have hadd : ∀ j, (a.add (i * 3)).add j = ⟨a.block, a.off + i * 3 + j, none⟩ := fun j => by
        rw [hab, addr_add, addr_add]
      refine ⟨v, by rw [e]; exact ho, ?_, ?_, ?_⟩
      all_goals (try rw [e])
      · have := hcells 0 _ rfl; rw [hadd] at this; exact this
      · have := hcells 1 _ rfl; rw [hadd] at this; exact this
      · have := hcells 2 _ rfl; rw [hadd] at this; exact this
theorem open_pcs' {A0 : Option Addr} {len0 cap0 : Nat} {d : DataW H} {p : List MemPlace} (h : DataW.Trod enc Try.prog W 0 (fun _ => true) true 52 (.slice A0 len0 cap0) d p) :
    ∃ (A : Option Addr) (c : Nat) (ps : List PcS) (bl o : Nat), Value.slice A0 len0 cap0 = .slice A ps.length c ∧ PcsIn W A c ps bl o := by
  obtain ⟨A, c, ps, bl, o, e, h1, h2, h3, h4⟩ := open_pcs h
  exact ⟨A, c, ps, bl, o, e, ⟨h1, h2, h3, h4⟩⟩
end
end Go.Proofs.Ytdhcgghdimkdbaa
