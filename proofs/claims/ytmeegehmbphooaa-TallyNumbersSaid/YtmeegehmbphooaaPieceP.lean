/-
  Plain: words from a place on, sector by sector.
-/
import Derived.Test.YtmeegehmbphooaaNorSpec
namespace Go.Proofs.Ytmeegehmbphooaa
/-- where piece j begins, of 'many' words from 'a' on (its end: where the next one begins) -/
def pcur (a many j : Nat) : Nat := min (a + many) (if j = 0 then a else (a / 64 + j) * 64)
/-- how many pieces there are -/
def pnum (a many : Nat) : Nat := if many = 0 then 0 else (a % 64 + many + 63) / 64
/-- how many words piece j has -/
def plen (a many j : Nat) : Nat := pcur a many (j + 1) - pcur a many j
theorem pcur_zero (a many : Nat) : pcur a many 0 = a := by unfold pcur; simp
theorem pcur_last (a many : Nat) : pcur a many (pnum a many) = a + many := by
  unfold pcur pnum
  split
  · simp; omega
  · rw [if_neg (by omega)]; omega
theorem pcur_le (a many j : Nat) : pcur a many j ≤ a + many := by unfold pcur; omega
theorem pcur_ge (a many j : Nat) : a ≤ pcur a many j := by unfold pcur; split <;> omega
theorem pnum_lt {a many j : Nat} : j < pnum a many ↔ pcur a many j < a + many := by
  unfold pcur pnum
  split
  · simp; split <;> omega
  · split
    · rename_i h1 h2; subst h2; omega
    · omega
theorem plen_eq {a many j : Nat} (h : j < pnum a many) : plen a many j = min (a + many - pcur a many j) (64 - pcur a many j % 64) := by
  have h' := pnum_lt.1 h
  unfold plen
  unfold pcur at h' ⊢
  rw [if_neg (show j + 1 ≠ 0 by omega)]
  split at h'
  · rename_i hj; subst hj; rw [if_pos rfl]; omega
  · rename_i hj; rw [if_neg hj]; omega
theorem pcur_next {a many j : Nat} (h : j < pnum a many) : pcur a many (j + 1) = pcur a many j + plen a many j := by
  have h' := pnum_lt.1 h
  unfold plen
  unfold pcur at h' ⊢
  rw [if_neg (show j + 1 ≠ 0 by omega)]
  split at h'
  · rename_i hj; subst hj; rw [if_pos rfl]; omega
  · rename_i hj; rw [if_neg hj]; omega
theorem plen_pos {a many j : Nat} (h : j < pnum a many) : 1 ≤ plen a many j := by
  have h' := pnum_lt.1 h
  rw [plen_eq h]; omega
theorem plen_le {a many j : Nat} (h : j < pnum a many) : pcur a many j % 64 + plen a many j ≤ 64 := by
  rw [plen_eq h]; omega
end Go.Proofs.Ytmeegehmbphooaa
