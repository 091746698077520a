/-
  Arguments, opened: rows of numbers, of truths.
-/
import Derived.Test.YtmahaihcmmmhbaaArgs
import Derived.ProofKit
import Derived.OpenShut
import Derived.ChangeOld
import Derived.SizedLaws
import Derived.Deep.Slices
import Derived.Deep.Fields
import Derived.Deep.Grids
import Derived.ChangeSame
namespace Go.Proofs.Ytmahaihcmmmhbaa
open Go.ChangeShapes Go.WideShapes Go.ChangeAt Go.RowKit Go.Deep

section
variable {H : Type} {enc : TypeId × Value → H} {P : Program} {W : World}
theorem spot_none {w : World} {a : Addr} {v : Value} (h : w.cell? a = some v) : ∃ b o, a = ⟨b, o, none⟩ := by
  have := World.cell?_spot h
  obtain ⟨b, o, s⟩ := a
  simp at this
  exact ⟨b, o, by rw [this]⟩
/-- a row of numbers -/
theorem open_row {base : Nat} {spare : Nat → Bool} {held : Bool} {t e : TypeId} {k : IntKind} {fuel : Nat} {v : Value} {x : DataW H × List MemPlace} (ht : P.underlying t = some (.slice e)) (he : P.underlying e = some (.int k)) (hc : P.cellsOf e = 1)
    (h : DataW.trod enc P W base spare held fuel t [v] = some x) :
    ∃ (A : Option Addr) (c : Nat) (xs : List Int), v = .slice A xs.length c ∧ Rd W A (ints k xs) ∧ (∀ n ∈ xs, (Lit.int k n).wf = true) ∧ xs.length ≤ c ∧ c ≤ maxLen := by
  rcases open_ints ht he hc h with ⟨hcs, _⟩ | ⟨a, l, c, zs, hcs, _, hl, hm, hz, _, hcell, hwz⟩
  · simp at hcs
    subst hcs
    exact ⟨none, 0, [], rfl, Rd.nil _ _, (fun n hn => by cases hn), Nat.le_refl _, Nat.zero_le _⟩
  · simp at hcs
    subst hcs
    have hzl : l ≤ zs.length := by rw [hz]; split <;> omega
    have hlen : (zs.take l).length = l := by rw [List.length_take]; omega
    refine ⟨some a, c, zs.take l, by rw [hlen], fun hne => ?_, fun n hn => hwz n (List.mem_of_mem_take hn), by rw [hlen]; exact hl, hm⟩
    have hl0 : 0 < l := by
      rcases Nat.eq_zero_or_pos l with h0 | h0
      · subst h0; simp [ints] at hne
      · exact h0
    have h0 := hcell 0 (by omega)
    obtain ⟨b, o, ha⟩ := spot_none h0
    have ha' : a = ⟨b, o, none⟩ := by
      have : a.add 0 = a := by simp [Addr.add]
      rw [this] at ha; exact ha
    subst ha'
    refine ⟨b, o, rfl, fun i v hi => ?_⟩
    have hil : i < l := by
      have := (List.getElem?_eq_some_iff.1 hi).1
      rw [ints_length, hlen] at this; exact this
    have := hcell i (by omega)
    rw [addr_add] at this
    rw [this, ← hi, ints_get (by rw [hlen]; exact hil)]
    congr 2
    simp only [List.getD_eq_getElem?_getD, List.getElem?_take_of_lt hil]
/-- a row of truths -/
theorem open_brow {base : Nat} {held : Bool} {t e : TypeId} {fuel : Nat} {v : Value} {x : DataW H × List MemPlace} (ht : P.underlying t = some (.slice e)) (he : P.underlying e = some .bool) (hc : P.cellsOf e = 1)
    (h : DataW.trod enc P W base (fun _ => true) held fuel t [v] = some x) :
    ∃ (A : Option Addr) (c : Nat) (ks : List Bool), v = .slice A ks.length c ∧ Rd W A (bools ks) ∧ ks.length ≤ c ∧ c ≤ maxLen := by
  rcases open_bools ht he hc h with ⟨hcs, _⟩ | ⟨a, l, c, B, hcs, _, hl, hm, _, hcell⟩
  · simp at hcs
    subst hcs
    exact ⟨none, 0, [], rfl, Rd.nil _ _, Nat.le_refl _, Nat.zero_le _⟩
  · simp at hcs
    subst hcs
    refine ⟨some a, c, (List.range l).map B, by simp, fun hne => ?_, by simpa using hl, hm⟩
    have hl0 : 0 < l := by
      rcases Nat.eq_zero_or_pos l with h0 | h0
      · subst h0; simp [bools] at hne
      · exact h0
    have h0 := hcell 0 (by omega)
    obtain ⟨b, o, ha⟩ := spot_none h0
    have ha' : a = ⟨b, o, none⟩ := by
      have : a.add 0 = a := by simp [Addr.add]
      rw [this] at ha; exact ha
    subst ha'
    refine ⟨b, o, rfl, fun i v hi => ?_⟩
    have hil : i < l := by
      have := (List.getElem?_eq_some_iff.1 hi).1
      simpa [bools] using this
    have := hcell i (by omega)
    rw [addr_add] at this
    rw [this, ← hi]
    simp [bools, hil]
/-- five fields of one cell each -/
theorem open_five {base : Nat} {spare : Nat → Bool} {held : Bool} {t : TypeId} {f0 f1 f2 f3 f4 : Field} {fuel : Nat} {cs : List Value} {x : DataW H × List MemPlace} (ht : P.underlying t = some (.struct #[f0, f1, f2, f3, f4])) (hone : oneCellFields P #[f0, f1, f2, f3, f4] = true) (hC : P.cellsOf t = 5)
    (h : DataW.trod enc P W base spare held fuel t cs = some x) :
    ∃ (v0 v1 v2 v3 v4 : Value) (n : Nat) (y0 y1 y2 y3 y4 : DataW H × List MemPlace), cs = [v0, v1, v2, v3, v4] ∧ DataW.trod enc P W base spare held n f0.type [v0] = some y0 ∧ DataW.trod enc P W base spare held n f1.type [v1] = some y1 ∧ DataW.trod enc P W base spare held n f2.type [v2] = some y2 ∧ DataW.trod enc P W base spare held n f3.type [v3] = some y3 ∧ DataW.trod enc P W base spare held n f4.type [v4] = some y4 := by
  obtain ⟨xs, n, _, _, hl, hx, hf⟩ := DataW.trod_struct ht h
  rw [hC] at hl
  match cs, hl with
  | [v0, v1, v2, v3, v4], _ =>
    match xs, hx with
    | [y0, y1, y2, y3, y4], _ =>
      obtain ⟨o0, k0⟩ := hone_of hone 0 f0 rfl
      obtain ⟨o1, k1⟩ := hone_of hone 1 f1 rfl
      obtain ⟨o2, k2⟩ := hone_of hone 2 f2 rfl
      obtain ⟨o3, k3⟩ := hone_of hone 3 f3 rfl
      obtain ⟨o4, k4⟩ := hone_of hone 4 f4 rfl
      exact ⟨v0, v1, v2, v3, v4, n, y0, y1, y2, y3, y4, rfl, by simpa [o0, k0] using hf 0 f0 rfl, by simpa [o1, k1] using hf 1 f1 rfl, by simpa [o2, k2] using hf 2 f2 rfl, by simpa [o3, k3] using hf 3 f3 rfl, by simpa [o4, k4] using hf 4 f4 rfl⟩
theorem open_one_int {base : Nat} {spare : Nat → Bool} {held : Bool} {t : TypeId} {k : IntKind} {fuel : Nat} {v : Value} {x : DataW H × List MemPlace} (ht : P.underlying t = some (.int k)) (h : DataW.trod enc P W base spare held fuel t [v] = some x) :
    ∃ n, v = .int k n ∧ (Lit.int k n).wf = true := by
  obtain ⟨n, h1, _, h2⟩ := DataW.trod_int ht h
  simp at h1
  exact ⟨n, h1, h2⟩
/-- a row's cells lie below the heap's end -/
theorem Rd.below {w : World} {A : Option Addr} {vs : List Value} (h : Rd w A vs) (hne : vs ≠ []) : ∀ a, A = some a → a.block < w.heap.size := fun a ha => by
  obtain ⟨a', ha', hlt⟩ := h.lt hne
  rw [ha] at ha'
  injection ha' with ha'
  subst ha'; exact hlt
theorem u32_wf {xs : List Int} (h : ∀ n ∈ xs, (Lit.int .u32 n).wf = true) : U32 xs := fun x hx => by
  have := bounds_u32 (h x hx); omega
end

section
variable {H : Type} {enc : TypeId × Value → H} {W : World}
theorem u32_one : Try.prog.cellsOf 38 = 1 := by kernel_rfl
theorem bool_one : Try.prog.cellsOf 4 = 1 := by kernel_rfl
theorem cap_i64 {c : Nat} (h : c ≤ maxLen) : (c : Int) ≤ 9223372036854775807 := by unfold maxLen at h; omega
/-- an argument of words -/
theorem open_arg_row {t e : TypeId} (ht : Try.prog.underlying t = some (.slice e)) (he : Try.prog.underlying e = some (.int .u32)) (hc : Try.prog.cellsOf e = 1) {A0 : Option Addr} {len0 cap0 : Nat} {d : DataW H} {p : List MemPlace} (h : DataW.Trod enc Try.prog W 0 (fun _ => true) true t (.slice A0 len0 cap0) d p) :
    ∃ (A : Option Addr) (c : Nat) (xs : List Int), Value.slice A0 len0 cap0 = .slice A xs.length c ∧ RowArg W W.heap.size A c xs := by
  obtain ⟨fuel, hf⟩ := h
  obtain ⟨A, c, xs, e, r, w, l, m⟩ := open_row ht he hc hf
  exact ⟨A, c, xs, e, ⟨r, fun hne => r.below (ints_ne hne), u32_wf w, l, cap_i64 m⟩⟩
/-- an argument of truths -/
theorem open_arg_brow {t e : TypeId} (ht : Try.prog.underlying t = some (.slice e)) (he : Try.prog.underlying e = some .bool) (hc : Try.prog.cellsOf e = 1) {A0 : Option Addr} {len0 cap0 : Nat} {d : DataW H} {p : List MemPlace} (h : DataW.Trod enc Try.prog W 0 (fun _ => true) true t (.slice A0 len0 cap0) d p) :
    ∃ (A : Option Addr) (c : Nat) (ks : List Bool), Value.slice A0 len0 cap0 = .slice A ks.length c ∧ BoolArg W W.heap.size A ks := by
  obtain ⟨fuel, hf⟩ := h
  obtain ⟨A, c, ks, e, r, l, m⟩ := open_brow ht he hc hf
  have := cap_i64 m
  exact ⟨A, c, ks, e, ⟨r, fun hne => r.below (bools_ne hne), by omega⟩⟩
end
end Go.Proofs.Ytmahaihcmmmhbaa
