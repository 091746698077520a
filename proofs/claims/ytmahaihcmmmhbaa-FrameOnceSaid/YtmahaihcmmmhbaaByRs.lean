/-
  Rows of bytes: a part of a row, what is behind a place.
-/
import Derived.Test.YtmahaihcmmmhbaaBytW
namespace Go.Proofs.Ytmahaihcmmmhbaa
open Go.RowKit
theorem By.sub {w : World} {b o n c a k : Nat} {xs : List Int} (h : By w (.slice (some ⟨b, o, none⟩) n c) xs) (ha : a + k ≤ n) : By w (.slice (some ⟨b, o + a, none⟩) k (c - a)) ((xs.drop a).take k) := by
  obtain ⟨A', c', e, h1, h2, h3, h4, h5⟩ := h
  injection e with e1 e2 e3
  subst e1 e2 e3
  have hl : ((xs.drop a).take k).length = k := by rw [List.length_take, List.length_drop]; omega
  refine ⟨_, _, by rw [hl], fun hne => ?_, (fun e => by cases e), by omega, by omega, (h5.drop a).take k⟩
  obtain ⟨b', o', e, hc⟩ := h1 (ints_ne (by intro e; subst e; simp [ints] at hne))
  injection e with e
  injection e with e1 e2
  subst e1 e2
  refine ⟨_, _, rfl, fun i v hi => ?_⟩
  have hik : i < k := by have := (List.getElem?_eq_some_iff.1 hi).1; rwa [ints_length, hl] at this
  rw [Nat.add_assoc]
  refine hc (a + i) v ?_
  rw [← hi]
  simp only [ints, List.map_take, List.map_drop]
  rw [List.getElem?_take_of_lt hik, List.getElem?_drop]
theorem By.rest0 {w : World} {A : Option Addr} {n c m : Nat} {xs : List Int} (h : By w (.slice A n c) xs) (hm : m ≤ n) (hc : c = m) : By w (.slice A (n - m) 0) (xs.drop m) := by
  obtain ⟨A', c', e, h1, h2, h3, h4, h5⟩ := h
  injection e with e1 e2 e3
  subst e1 e2 e3
  have : xs.drop m = [] := by rw [List.drop_eq_nil_iff]; omega
  rw [this]
  exact ⟨A, 0, by rw [show xs.length - m = 0 from by omega]; rfl, Rd.nil _ _, fun e => rfl, by simp, by omega, U8.nil⟩
theorem By.rest1 {w : World} {A : Option Addr} {n c m : Nat} {xs : List Int} (h : By w (.slice A n c) xs) (hm : m ≤ n) : By w (.slice (A.map fun x => x.add m) (n - m) (c - m)) (xs.drop m) := by
  obtain ⟨A', c', e, h1, h2, h3, h4, h5⟩ := h
  injection e with e1 e2 e3
  subst e1 e2 e3
  refine ⟨A.map fun x => x.add m, c - m, by rw [List.length_drop], ?_, ?_, by rw [List.length_drop]; omega, by omega, h5.drop m⟩
  rotate_left
  · intro e
    cases A with
    | none => have := h2 rfl; omega
    | some a => cases e
  intro hne
  obtain ⟨b, o, rfl, hc⟩ := h1 (fun e => hne (by unfold ints at e ⊢; rw [List.map_drop, e]; simp))
  refine ⟨b, o + m, ?_, fun i v hv => ?_⟩
  · show some ((⟨b, o, none⟩ : Addr).add m) = _
    rw [addr_add]
  · have := hc (m + i) v (by rw [← hv]; unfold ints; rw [List.map_drop, List.getElem?_drop])
    rw [Nat.add_assoc]; exact this
end Go.Proofs.Ytmahaihcmmmhbaa
