/-
  An argument of bytes, opened.
-/
import Derived.Test.YtmahaihcmmmhbaaOpenRows
import Derived.Test.YtmahaihcmmmhbaaBytW
namespace Go.Proofs.Ytmahaihcmmmhbaa
open Go.ChangeShapes Go.WideShapes Go.ChangeAt Go.RowKit Go.Deep
section
variable {H : Type} {enc : TypeId × Value → H} {W : World}
theorem u8_wf {xs : List Int} (h : ∀ n ∈ xs, (Lit.int .u8 n).wf = true) : U8 xs := fun x hx => by
  have := bounds_u8 (h x hx); omega
theorem open_bytes {P : Program} {base : Nat} {spare : Nat → Bool} {held : Bool} {t e : TypeId} {fuel : Nat} {v : Value} {x : DataW H × List MemPlace} (ht : P.underlying t = some (.slice e)) (he : P.underlying e = some (.int .u8)) (hc : P.cellsOf e = 1)
    (h : DataW.trod enc P W base spare held fuel t [v] = some x) : ∃ xs, By W v xs ∧ (∀ k, RowB v k → k < W.heap.size ∨ xs = []) := by
  rcases open_ints ht he hc h with ⟨hcs, _⟩ | ⟨a, l, c, zs, hcs, _, hl, hm, hz, _, hcell, hwz⟩
  · simp at hcs
    subst hcs
    exact ⟨[], By.nil W, fun k hk => by cases hk⟩
  · simp at hcs
    subst hcs
    have hzl : l ≤ zs.length := by rw [hz]; split <;> omega
    have hlen : (zs.take l).length = l := by rw [List.length_take]; omega
    refine ⟨zs.take l, ⟨some a, c, by rw [hlen], fun hne => ?_, (fun e => by cases e), by rw [hlen]; exact hl, cap_i64 hm, u8_wf (fun n hn => hwz n (List.mem_of_mem_take hn))⟩, fun k hk => ?_⟩
    · have hl0 : 0 < l := by
        rcases Nat.eq_zero_or_pos l with h0 | h0
        · subst h0; simp [ints] at hne
        · exact h0
      have h0 := hcell 0 (by omega)
      obtain ⟨b, o, ha⟩ := spot_none h0
      have ha' : a = ⟨b, o, none⟩ := by
        have : a.add 0 = a := by simp [Addr.add]
        rw [this] at ha; exact ha
      subst ha'
      refine ⟨b, o, rfl, fun i v hi => ?_⟩
      have hil : i < l := by
        have := (List.getElem?_eq_some_iff.1 hi).1
        rw [ints_length, hlen] at this; exact this
      have := hcell i (by omega)
      rw [addr_add] at this
      rw [this, ← hi, ints_get (by rw [hlen]; exact hil)]
      congr 2
      simp only [List.getD_eq_getElem?_getD, List.getElem?_take_of_lt hil]
    · rcases Nat.eq_zero_or_pos l with h0 | h0
      · right; subst h0; simp
      · left
        have hk2 : some a.block = some k := hk
        injection hk2 with hk2
        rw [← hk2]
        have h1 := hcell 0 (by omega)
        have : a.add 0 = a := by simp [Addr.add]
        rw [this] at h1
        exact World.block_lt_of_cell? W a h1
theorem uint8_one : Try.prog.cellsOf 5 = 1 := by kernel_rfl
theorem open_arg_bytes {t e : TypeId} (ht : Try.prog.underlying t = some (.slice e)) (he : Try.prog.underlying e = some (.int .u8)) (hc : Try.prog.cellsOf e = 1) {A0 : Option Addr} {len0 cap0 : Nat} {d : DataW H} {p : List MemPlace} (h : DataW.Trod enc Try.prog W 0 (fun _ => true) true t (.slice A0 len0 cap0) d p) :
    ∃ (A : Option Addr) (c : Nat) (xs : List Int), Value.slice A0 len0 cap0 = .slice A xs.length c ∧ By W (.slice A xs.length c) xs := by
  obtain ⟨fuel, hf⟩ := h
  obtain ⟨xs, hb, -⟩ := open_bytes ht he hc hf
  have hb0 := hb
  obtain ⟨A, c, e, -⟩ := hb
  rw [e] at hb0 ⊢
  exact ⟨A, c, xs, rfl, hb0⟩
end
end Go.Proofs.Ytmahaihcmmmhbaa
