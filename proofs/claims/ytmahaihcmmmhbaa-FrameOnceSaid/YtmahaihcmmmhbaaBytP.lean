/-
  Plain: numbers written down, digit by digit; what stands at a place; words.
-/
import Derived.Test.YtmahaihcmmmhbaaGen
import Derived.Lib.BitFns
import Derived.Lib.ItoaNum
namespace Go.Proofs.Ytmahaihcmmmhbaa
/-- all are bytes. -/
def U8 (xs : List Int) : Prop := ∀ x ∈ xs, 0 ≤ x ∧ x < 256
theorem U8.nil : U8 [] := fun _ h => by cases h
theorem U8.get {xs : List Int} (h : U8 xs) (i : Nat) : 0 ≤ xs.getD i 0 ∧ xs.getD i 0 < 256 := by
  rcases Nat.lt_or_ge i xs.length with hi | hi
  · rw [List.getD_eq_getElem?_getD, List.getElem?_eq_getElem hi]; exact h _ (List.getElem_mem _)
  · rw [List.getD_eq_getElem?_getD, List.getElem?_eq_none hi]; simp
theorem U8.cons {x : Int} {xs : List Int} (hx : 0 ≤ x ∧ x < 256) (h : U8 xs) : U8 (x :: xs) := fun y hy => by
  rcases List.mem_cons.1 hy with rfl | hy
  · exact hx
  · exact h y hy
theorem U8.tail {x : Int} {xs : List Int} (h : U8 (x :: xs)) : U8 xs := fun y hy => h y (List.mem_cons_of_mem _ hy)
theorem U8.head {x : Int} {xs : List Int} (h : U8 (x :: xs)) : 0 ≤ x ∧ x < 256 := h x List.mem_cons_self
theorem U8.drop {xs : List Int} (h : U8 xs) (i : Nat) : U8 (xs.drop i) := fun y hy => h y (List.mem_of_mem_drop hy)
theorem U8.take {xs : List Int} (h : U8 xs) (i : Nat) : U8 (xs.take i) := fun y hy => h y (List.mem_of_mem_take hy)
theorem U8.append {xs ys : List Int} (h : U8 xs) (k : U8 ys) : U8 (xs ++ ys) := fun y hy => by
  rcases List.mem_append.1 hy with hy | hy
  · exact h y hy
  · exact k y hy
theorem ints_append {k : IntKind} {xs ys : List Int} : ints k (xs ++ ys) = ints k xs ++ ints k ys := by simp [ints]

/-! numbers -/
/-- digits, the least first; at most k more than one -/
def uvF : Nat → Nat → List Int
  | 0, n => [(n : Int)]
  | k + 1, n => if n < 128 then [(n : Int)] else ((n % 128 + 128 : Nat) : Int) :: uvF k (n / 128)
/-- a number written down -/
def uv (n : Nat) : List Int := uvF 9 n
/-- how many digits ahead of the last -/
def dgF : Nat → Nat → Nat
  | 0, _ => 0
  | k + 1, n => if n < 128 then 0 else dgF k (n / 128) + 1
def dg (n : Nat) : Nat := dgF 9 n
theorem uvF_length : ∀ k n, (uvF k n).length = dgF k n + 1
  | 0, _ => rfl
  | k + 1, n => by
    unfold uvF dgF
    split
    · rfl
    · rw [List.length_cons, uvF_length k]
theorem uv_length (n : Nat) : (uv n).length = dg n + 1 := uvF_length 9 n
theorem dgF_le : ∀ k n, dgF k n ≤ k
  | 0, _ => Nat.le_refl _
  | k + 1, n => by
    unfold dgF
    split
    · omega
    · have := dgF_le k (n / 128); omega
theorem dg_le (n : Nat) : dg n ≤ 9 := dgF_le 9 n
theorem dgF_lo : ∀ k n, 1 ≤ dgF k n → 128 ^ dgF k n ≤ n
  | 0, _, h => by simp [dgF] at h
  | k + 1, n, h => by
    unfold dgF at h ⊢
    split
    · rename_i h1; rw [if_pos h1] at h; omega
    · rename_i h1
      rw [Nat.pow_succ]
      by_cases h2 : 1 ≤ dgF k (n / 128)
      · have := dgF_lo k (n / 128) h2
        omega
      · have : dgF k (n / 128) = 0 := by omega
        rw [this]; omega
theorem dgF_hi : ∀ k n, n < 128 ^ (k + 1) → n < 128 ^ (dgF k n + 1)
  | 0, _, h => h
  | k + 1, n, h => by
    unfold dgF
    split
    · simpa using by assumption
    · have h1 : n / 128 < 128 ^ (k + 1) := by
        rw [Nat.pow_succ] at h; omega
      have := dgF_hi k (n / 128) h1
      rw [Nat.pow_succ]; omega
/-- the i-th byte -/
theorem uvF_get : ∀ k n i, i ≤ dgF k n → (uvF k n).getD i 0 = ((n / 128 ^ i % 128 + 128 : Nat) : Int) ∨ i = dgF k n
  | 0, n, i, h => .inr (by have : dgF 0 n = 0 := rfl; omega)
  | k + 1, n, i, h => by
    unfold uvF dgF at *
    by_cases h1 : n < 128
    · rw [if_pos h1] at h ⊢; right; rw [if_pos h1]; omega
    · rw [if_neg h1] at h ⊢
      rw [if_neg h1]
      cases i with
      | zero => left; simp
      | succ i =>
        rcases uvF_get k (n / 128) i (by omega) with h2 | h2
        · left
          rw [List.getD_cons_succ, h2, Nat.pow_succ, Nat.mul_comm, Nat.div_div_eq_div_mul]
        · right; omega
theorem uvF_last : ∀ k n, (uvF k n).getD (dgF k n) 0 = ((n / 128 ^ dgF k n : Nat) : Int)
  | 0, n => by simp [uvF, dgF]
  | k + 1, n => by
    unfold uvF dgF
    split
    · simp
    · rw [List.getD_cons_succ, uvF_last k, Nat.pow_succ, Nat.mul_comm, Nat.div_div_eq_div_mul]
theorem uv_get {n i : Nat} (h : i < dg n) : (uv n).getD i 0 = ((n / 128 ^ i % 128 + 128 : Nat) : Int) := by
  rcases uvF_get 9 n i (Nat.le_of_lt h) with h1 | h1
  · exact h1
  · exact absurd h1 (Nat.ne_of_lt h)
theorem uv_last (n : Nat) : (uv n).getD (dg n) 0 = ((n / 128 ^ dg n : Nat) : Int) := uvF_last 9 n
theorem u64_lt {n : Nat} (h : n < 18446744073709551616) : n < 128 ^ (9 + 1) := Nat.lt_of_lt_of_le h (by decide)
theorem uv_last_lt {n : Nat} (h : n < 18446744073709551616) : n / 128 ^ dg n < 128 := by
  have := dgF_hi 9 n (u64_lt h)
  rw [Nat.pow_succ] at this
  exact Nat.div_lt_of_lt_mul (by unfold dg; omega)
/-- digits of the code -/
theorem digits_eq {n : Nat} (h : n < 18446744073709551616) : max ((Lib.bitLen n + 6) / 7) 1 = dg n + 1 := by
  have hlo := dgF_lo 9 n
  have hhi := dgF_hi 9 n (u64_lt h)
  show _ = dgF 9 n + 1
  generalize dgF 9 n = d at *
  have e : ∀ k, (128 : Nat) ^ k = 2 ^ (7 * k) := fun k => by rw [Nat.pow_mul]
  by_cases h0 : n = 0
  · subst h0
    have : d = 0 := by
      rcases Nat.eq_zero_or_pos d with h1 | h1
      · exact h1
      · have := hlo h1
        have := Nat.pow_pos (n := d) (show 0 < 128 by omega)
        omega
    subst this
    decide
  · obtain ⟨b1, b2, b3⟩ := Lib.bitLenAux_bounds 64 n (by simpa using h) h0
    show max ((Lib.bitLenAux 64 n + 6) / 7) 1 = d + 1
    generalize Lib.bitLenAux 64 n = b at *
    rw [e] at hhi
    have c1 : b - 1 < 7 * (d + 1) := (Nat.pow_lt_pow_iff_right (show 1 < 2 by omega)).1 (Nat.lt_of_le_of_lt b2 hhi)
    by_cases hd : 1 ≤ d
    · have h1 := hlo hd
      rw [e] at h1
      have c2 : 7 * d < b := (Nat.pow_lt_pow_iff_right (show 1 < 2 by omega)).1 (Nat.lt_of_le_of_lt h1 b3)
      omega
    · omega
/-- the value of digits -/
def vl : List Int → Int
  | [] => 0
  | c :: r => c % 128 + 128 * vl r
theorem vl_uvF : ∀ k n, n < 128 ^ (k + 1) → vl (uvF k n) = n
  | 0, n, h => by
    simp only [uvF, vl]
    simp at h
    omega
  | k + 1, n, h => by
    unfold uvF
    split
    · simp only [vl]; omega
    · have h1 : n / 128 < 128 ^ (k + 1) := by rw [Nat.pow_succ] at h; omega
      simp only [vl]
      rw [vl_uvF k _ h1]
      omega
theorem vl_uv {n : Nat} (h : n < 18446744073709551616) : vl (uv n) = n := vl_uvF 9 n (u64_lt h)
theorem uvF_u8 : ∀ k n, n < 128 ^ (k + 1) → U8 (uvF k n)
  | 0, n, h => U8.cons (by simp at h; omega) U8.nil
  | k + 1, n, h => by
    unfold uvF
    split
    · exact U8.cons (by omega) U8.nil
    · exact U8.cons (by omega) (uvF_u8 k _ (by rw [Nat.pow_succ] at h; omega))
theorem uv_u8 {n : Nat} (h : n < 18446744073709551616) : U8 (uv n) := uvF_u8 9 n (u64_lt h)
/-- the first that is no digit with more behind it -/
def fi : List Int → Nat
  | [] => 0
  | c :: r => if c < 128 then 0 else fi r + 1
theorem fi_le : ∀ l, fi l ≤ l.length
  | [] => Nat.le_refl _
  | c :: r => by
    unfold fi
    split
    · omega
    · have := fi_le r
      simp; omega
theorem fi_uvF : ∀ k n r, n < 128 ^ (k + 1) → fi (uvF k n ++ r) = dgF k n
  | 0, n, r, h => by
    simp at h
    simp only [uvF, dgF, List.singleton_append, fi]
    rw [if_pos (by omega)]
  | k + 1, n, r, h => by
    unfold uvF dgF
    split
    · simp only [List.singleton_append, fi]
      rw [if_pos (by omega)]
    · rw [List.cons_append]
      simp only [fi]
      rw [if_neg (by omega), fi_uvF k _ r (by rw [Nat.pow_succ] at h; omega)]
theorem fi_uv {n : Nat} (h : n < 18446744073709551616) (r : List Int) : fi (uv n ++ r) = dg n := fi_uvF 9 n r (u64_lt h)
/-- all of the first ones have more behind them -/
theorem fi_more : ∀ (l : List Int) i, i < fi l → 128 ≤ l.getD i 0
  | [], i, h => by simp [fi] at h
  | c :: r, i, h => by
    unfold fi at h
    split at h
    · omega
    · cases i with
      | zero => rw [List.getD_cons_zero]; omega
      | succ i => rw [List.getD_cons_succ]; exact fi_more r i (by omega)
theorem fi_less : ∀ (l : List Int), fi l < l.length → l.getD (fi l) 0 < 128
  | [], h => by simp at h
  | c :: r, h => by
    unfold fi at h ⊢
    split
    · rw [List.getD_cons_zero]; assumption
    · rename_i h1
      rw [if_neg h1, List.length_cons] at h
      rw [List.getD_cons_succ]
      exact fi_less r (by omega)
/-- what GetUint tells of what is left -/
def guE (l : List Int) : Int :=
  if fi l = l.length then (if l.length < 10 then 10 else 11)
  else if 10 ≤ fi l ∨ (fi l = 9 ∧ 1 < l.getD (fi l) 0) ∨ (0 < fi l ∧ l.getD (fi l) 0 = 0) then 11 else 0
def guN (l : List Int) : Int := vl (l.take (fi l + 1))
theorem take_of_append {a r : List Int} : (a ++ r).take a.length = a := by simp
theorem getD_append_left {a r : List Int} {i : Nat} (h : i < a.length) : (a ++ r).getD i 0 = a.getD i 0 := by
  simp [List.getD_eq_getElem?_getD, List.getElem?_append_left h]
/-- what was written down is read -/
theorem gu_uv {n : Nat} (h : n < 18446744073709551616) (r : List Int) : guE (uv n ++ r) = 0 ∧ guN (uv n ++ r) = n ∧ fi (uv n ++ r) + 1 = (uv n).length := by
  have h1 := fi_uv h r
  have hl := uv_length n
  refine ⟨?_, ?_, by rw [h1, hl]⟩
  · unfold guE
    rw [h1, getD_append_left (by omega), uv_last]
    rw [if_neg (by rw [List.length_append]; omega), if_neg]
    have hle := dg_le n
    rintro (h2 | ⟨h2, h3⟩ | ⟨h2, h3⟩)
    · omega
    · rw [h2] at h3
      have : n / 128 ^ 9 < 2 := Nat.div_lt_of_lt_mul (by omega)
      omega
    · have := dgF_lo 9 n h2
      have hp : 0 < n / 128 ^ dg n := Nat.div_pos this (Nat.pow_pos (by omega))
      omega
  · unfold guN
    rw [h1, ← hl, take_of_append, vl_uv h]
/-- the beginning of what was written down wants more -/
theorem gu_cut {n k : Nat} (h : n < 18446744073709551616) (hk : k < (uv n).length) : guE ((uv n).take k) = 10 := by
  have hl := uv_length n
  have hle := dg_le n
  have hlen : ((uv n).take k).length = k := by rw [List.length_take]; omega
  have : fi ((uv n).take k) = k := by
    have h1 := fi_le ((uv n).take k)
    rw [hlen] at h1
    rcases Nat.lt_or_ge (fi ((uv n).take k)) k with h2 | h2
    · have h3 := fi_less ((uv n).take k) (by omega)
      rw [List.getD_eq_getElem?_getD, List.getElem?_take_of_lt h2, ← List.getD_eq_getElem?_getD, uv_get (by omega)] at h3
      omega
    · omega
  unfold guE
  rw [this, hlen, if_pos rfl, if_pos (by omega)]
theorem vl_lo : ∀ l, 0 ≤ vl l
  | [] => by simp [vl]
  | c :: r => by
    have := vl_lo r
    simp only [vl]; omega
theorem vl_hi : ∀ l, vl l < 128 ^ l.length
  | [] => by simp [vl]
  | c :: r => by
    have := vl_hi r
    simp only [vl, List.length_cons]
    rw [Int.pow_succ]; omega
/-- digits that are right are those of their value -/
theorem uvF_of : ∀ (k : Nat) (l : List Int), U8 l → fi l < l.length → fi l ≤ k → (0 < fi l → l.getD (fi l) 0 ≠ 0) → uvF k (vl (l.take (fi l + 1))).toNat = l.take (fi l + 1)
  | k, [], _, h, _, _ => by simp at h
  | k, c :: r, hu, h, hk, h0 => by
    have hc := hu.head
    unfold fi at h hk h0 ⊢
    by_cases h1 : c < 128
    · rw [if_pos h1] at h hk h0 ⊢
      simp only [Nat.zero_add, List.take_succ_cons, List.take_zero, vl]
      have e : (c % 128 + 128 * 0).toNat = c.toNat := by omega
      rw [e]
      cases k with
      | zero => simp only [uvF]; congr 1; omega
      | succ k => unfold uvF; rw [if_pos (by omega)]; congr 1; omega
    · rw [if_neg h1] at h hk h0 ⊢
      rw [List.length_cons] at h
      cases k with
      | zero => omega
      | succ k =>
        rw [List.take_succ_cons]
        simp only [vl]
        have hv := vl_lo (r.take (fi r + 1))
        have h0' := h0 (by omega)
        rw [List.getD_cons_succ] at h0'
        have ih := uvF_of k r hu.tail (by omega) (by omega) (fun _ => h0')
        have hpos : 1 ≤ vl (r.take (fi r + 1)) := by
          rcases Int.lt_or_le 0 (vl (r.take (fi r + 1))) with h2 | h2
          · omega
          · exfalso
            have e : vl (r.take (fi r + 1)) = 0 := by omega
            rw [e] at ih
            have e2 : uvF k (0 : Int).toNat = [0] := by cases k <;> rfl
            rw [e2] at ih
            have e3 : (r.take (fi r + 1)).getD (fi r) 0 = r.getD (fi r) 0 := by
              rw [List.getD_eq_getElem?_getD, List.getElem?_take_of_lt (by omega), ← List.getD_eq_getElem?_getD]
            rw [← ih] at e3
            have e4 : ([0] : List Int).getD (fi r) 0 = 0 := by cases fi r <;> rfl
            rw [e4] at e3
            exact h0' e3.symm
        have hd : (c % 128 + 128 * vl (r.take (fi r + 1))).toNat / 128 = (vl (r.take (fi r + 1))).toNat := by omega
        unfold uvF
        rw [if_neg (by omega), hd, ih]
        congr 1; omega
/-- what is read is what was written down -/
theorem gu_back {l : List Int} (hu : U8 l) (h : guE l = 0) : fi l < l.length ∧ fi l ≤ 9 ∧ 0 ≤ guN l ∧ guN l < 18446744073709551616 ∧ uv (guN l).toNat = l.take (fi l + 1) := by
  unfold guE at h
  split at h
  · split at h <;> omega
  · rename_i h1
    split at h
    · omega
    · rename_i h2
      have hle := fi_le l
      have h3 : fi l < l.length := by omega
      have h4 : fi l ≤ 9 := by omega
      have key := uvF_of 9 l hu h3 h4 (fun h5 h6 => h2 (.inr (.inr ⟨h5, h6⟩)))
      refine ⟨h3, h4, vl_lo _, ?_, key⟩
      unfold guN
      rcases Nat.lt_or_ge (fi l) 9 with h5 | h5
      · have h6 := vl_hi (l.take (fi l + 1))
        have h7 : (l.take (fi l + 1)).length = fi l + 1 := by rw [List.length_take]; omega
        rw [h7] at h6
        have h8 : (128 : Int) ^ (fi l + 1) ≤ 128 ^ 9 := by
          have := Nat.pow_le_pow_right (show 0 < 128 by omega) (show fi l + 1 ≤ 9 by omega)
          exact_mod_cast this
        have : (128 : Int) ^ 9 < 18446744073709551616 := by decide
        omega
      · have h6 : fi l = 9 := by omega
        have h7 : l.getD (fi l) 0 ≤ 1 := by
          rcases Int.lt_or_le 1 (l.getD (fi l) 0) with h8 | h8
          · exact absurd (.inr (.inl ⟨h6, h8⟩)) h2
          · exact h8
        rw [h6] at h7 h3 ⊢
        have e : l.take (9 + 1) = l.take 9 ++ [l.getD 9 0] := by
          rw [List.take_succ_eq_append_getElem h3, List.getD_eq_getElem?_getD, List.getElem?_eq_getElem h3]; rfl
        have ap : ∀ (a : List Int) (x : Int), vl (a ++ [x]) = vl a + 128 ^ a.length * (x % 128) := by
          intro a x
          induction a with
          | nil => simp [vl]
          | cons c r ih => simp only [List.cons_append, vl, List.length_cons]; rw [ih, Int.pow_succ, Int.mul_add, Int.mul_comm ((128 : Int) ^ r.length) 128, Int.mul_assoc]; omega
        rw [e, ap]
        have h8 := vl_hi (l.take 9)
        have h9 : (l.take 9).length = 9 := by rw [List.length_take]; omega
        rw [h9] at h8 ⊢
        have h10 := hu.get 9
        have : (128 : Int) ^ 9 = 9223372036854775808 := by decide
        rw [this] at h8 ⊢
        have h11 : l.getD 9 0 % 128 ≤ 1 := by omega
        omega
end Go.Proofs.Ytmahaihcmmmhbaa
