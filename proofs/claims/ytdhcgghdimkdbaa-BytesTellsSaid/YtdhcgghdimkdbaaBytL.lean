/-
  Plain: words and bytes, there and back; written-down numbers in their order.
-/
import Derived.Test.YtdhcgghdimkdbaaByt7
namespace Go.Proofs.Ytdhcgghdimkdbaa
theorem byteW_wv {l : List Int} (u : U8 l) (j : Nat) (hj : j < 4) : byteW (wv l) j = l.getD j 0 := by
  have h0 := u.get 0; have h1 := u.get 1; have h2 := u.get 2; have h3 := u.get 3
  unfold byteW wv
  have hc : j = 0 ∨ j = 1 ∨ j = 2 ∨ j = 3 := by omega
  rcases hc with rfl | rfl | rfl | rfl
  all_goals
    simp only [Nat.reduceMul, Nat.reduceSub, Int.reducePow, Nat.sub_zero, Nat.mul_zero]
    omega
theorem getD_drop {l : List Int} {a i : Nat} : (l.drop a).getD i 0 = l.getD (a + i) 0 := by
  rw [List.getD_eq_getElem?_getD, List.getD_eq_getElem?_getD, List.getElem?_drop]
theorem ext_getD' {a b : List Int} (h : a.length = b.length) (he : ∀ i, i < a.length → a.getD i 0 = b.getD i 0) : a = b := by
  apply List.ext_getElem h
  intro i h1 h2
  have := he i h1
  rwa [List.getD_eq_getElem?_getD, List.getD_eq_getElem?_getD, List.getElem?_eq_getElem h1, List.getElem?_eq_getElem h2] at this
theorem bytesN_get {l : List Int} {n i : Nat} (h : i < n) : (bytesN l n).getD i 0 = byteW (l.getD (i / 4) 0) (i % 4) := by
  unfold bytesN
  rw [List.getD_eq_getElem?_getD, List.getElem?_map, List.getElem?_range h]; rfl
theorem back_bytes {b : List Int} (u : U8 b) : bytesN (wordsOf b) b.length = b := by
  apply ext_getD' (bytesN_length _ _)
  intro i hi
  rw [bytesN_length] at hi
  rw [bytesN_get hi, wordsOf_get (by omega), byteW_wv ((padded_u8 u).drop _) _ (by omega), getD_drop, show 4 * (i / 4) + i % 4 = i from by omega]
  unfold padded
  exact getD_append_left hi
theorem wv_bytes {l : List Int} (u : U32 l) {n k : Nat} (h : 4 * k + 3 < n) : wv ((bytesN l n).drop (4 * k)) = l.getD k 0 := by
  have hx := u.get k
  unfold wv
  rw [getD_drop, getD_drop, getD_drop, getD_drop, bytesN_get (by omega), bytesN_get (by omega), bytesN_get (by omega), bytesN_get (by omega)]
  rw [show (4 * k + 0) / 4 = k from by omega, show (4 * k + 1) / 4 = k from by omega, show (4 * k + 2) / 4 = k from by omega, show (4 * k + 3) / 4 = k from by omega,
    show (4 * k + 0) % 4 = 0 from by omega, show (4 * k + 1) % 4 = 1 from by omega, show (4 * k + 2) % 4 = 2 from by omega, show (4 * k + 3) % 4 = 3 from by omega]
  generalize l.getD k 0 = x at *
  unfold byteW
  simp only [Nat.reduceMul, Nat.reduceSub, Int.reducePow, Nat.sub_zero, Nat.mul_zero]
  omega
theorem back_words {l : List Int} (u : U32 l) : wordsOf (bytesN l (4 * l.length)) = l := by
  have hl : (bytesN l (4 * l.length)).length = 4 * l.length := bytesN_length _ _
  have hp : padded (bytesN l (4 * l.length)) = bytesN l (4 * l.length) := by
    unfold padded padN
    rw [hl, show (4 - 4 * l.length % 4) % 4 = 0 from by omega, List.replicate_zero, List.append_nil]
  apply ext_getD' (by rw [wordsOf_length, hl]; omega)
  intro i hi
  rw [wordsOf_length, hl] at hi
  rw [wordsOf_get (by rw [hl]; omega), hp]
  exact wv_bytes u (by omega)
theorem bytesN_take (l : List Int) {n k : Nat} (h : k ≤ n) : (bytesN l n).take k = bytesN l k := by
  unfold bytesN
  rw [← List.map_take, List.take_range, Nat.min_eq_left h]
/-! order -/
theorem dgF_mono : ∀ k n m, n ≤ m → dgF k n ≤ dgF k m
  | 0, _, _, _ => Nat.le_refl _
  | k + 1, n, m, h => by
    unfold dgF
    split
    · omega
    · rename_i h1
      rw [if_neg (by omega)]
      have := dgF_mono k (n / 128) (m / 128) (by omega)
      omega
theorem uv_mono {n m : Nat} (h : n ≤ m) : (uv n).length ≤ (uv m).length := by
  rw [uv_length, uv_length]
  have := dgF_mono 9 n m h
  unfold dg; omega
theorem uv_inj {n m : Nat} (hn : n < 18446744073709551616) (hm : m < 18446744073709551616) : uv n = uv m ↔ n = m :=
  ⟨fun h => by have h1 := vl_uv hn; rw [h, vl_uv hm] at h1; omega, fun h => by rw [h]⟩
theorem blob_inj {a b : List Int} (ha : a.length < 18446744073709551616) (hb : b.length < 18446744073709551616) : uv a.length ++ a = uv b.length ++ b ↔ a = b := by
  refine ⟨fun h => ?_, fun h => by rw [h]⟩
  have h1 := gu_uv ha a
  have h2 := gu_uv hb b
  rw [h] at h1
  have e : a.length = b.length := by have := h1.2.1.symm.trans h2.2.1; omega
  rw [e] at h
  exact List.append_cancel_left h
theorem wb_inj {n m : Int} (hn : 0 ≤ n ∧ n < 4294967296) (hm : 0 ≤ m ∧ m < 4294967296) : wb n = wb m → n = m := fun h => by
  unfold wb at h
  injection h with h1 h
  injection h with h2 h
  injection h with h3 h
  injection h with h4 h
  omega
end Go.Proofs.Ytdhcgghdimkdbaa
