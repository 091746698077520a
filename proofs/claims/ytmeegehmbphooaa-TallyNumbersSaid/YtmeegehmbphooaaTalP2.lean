/-
  Plain: a step of a tally.
-/
import Derived.Test.YtmeegehmbphooaaTalP
namespace Go.Proofs.Ytmeegehmbphooaa
namespace DrvS
variable {d : DrvS} {s : NorS}
/-- the words of a drive -/
def fn (d : DrvS) (s : NorS) : Nat → Int := fun i => s.wd (d.base + i)
/-- the sector that is begun next -/
def nextS (f : Nat → Int) : Nat := if (look f).1 = 0 then 1 else 0
/-- a step: the flash then, what it tells -/
def stp (d : DrvS) (s : NorS) : NorS × Int :=
  if 2147483648 ≤ (look (d.fn s)).2 then (s, 5)
  else if 0 ≤ (look (d.fn s)).1 ∧ 0 < room (d.fn s) (offOf (look (d.fn s)).1) then
    (d.wr s ((offOf (look (d.fn s)).1 + room (d.fn s) (offOf (look (d.fn s)).1) : Nat) : Int) [clr (d.fn s (offOf (look (d.fn s)).1 + room (d.fn s) (offOf (look (d.fn s)).1)))],
     d.wrE s ((offOf (look (d.fn s)).1 + room (d.fn s) (offOf (look (d.fn s)).1) : Nat) : Int) [clr (d.fn s (offOf (look (d.fn s)).1 + room (d.fn s) (offOf (look (d.fn s)).1)))])
  else if d.erE s (nextS (d.fn s)) = 0 then
    (d.wr (d.er s (nextS (d.fn s))) ((64 * nextS (d.fn s) : Nat) : Int) [(look (d.fn s)).2 + 1, 4294967294 - (look (d.fn s)).2],
     d.wrE (d.er s (nextS (d.fn s))) ((64 * nextS (d.fn s) : Nat) : Int) [(look (d.fn s)).2 + 1, 4294967294 - (look (d.fn s)).2])
  else (d.er s (nextS (d.fn s)), d.erE s (nextS (d.fn s)))
theorem nextS_lt (f : Nat → Int) : nextS f < 2 := by unfold nextS; split <;> omega
theorem fn_u32 (hs : s.Ok) (i : Nat) : 0 ≤ d.fn s i ∧ d.fn s i < 4294967296 := hs.wd _
theorem cntN_lo (hs : s.Ok) (o : Nat) : 0 ≤ cntN (d.fn s) o := by
  have := (fn_u32 (d := d) hs o).1
  unfold cntN; omega
theorem look_lo (hs : s.Ok) : -1 ≤ (look (d.fn s)).1 ∧ (look (d.fn s)).1 ≤ 1 ∧ 0 ≤ (look (d.fn s)).2 ∧ (look (d.fn s)).2 ≤ 2147483648 + 1984 := by
  have h0 := cntN_lo (d := d) hs 0
  have h1 := cntN_lo (d := d) hs 64
  have z0 := zsum_le (f := d.fn s) (o := 0) 62 (fun i _ => (fn_u32 hs _).1)
  have z1 := zsum_le (f := d.fn s) (o := 64) 62 (fun i _ => (fn_u32 hs _).1)
  rcases look_cases (d.fn s) with ⟨a, b, c, e⟩ | ⟨a, c, b, e⟩ | ⟨a, c, b, e⟩
  · rw [a, b]; omega
  · rw [a, b]
    unfold cntOk at c
    have := of_decide_eq_true c
    unfold cntN at h0 ⊢
    omega
  · rw [a, b]
    unfold cntOk at c
    have := of_decide_eq_true c
    unfold cntN at h1 ⊢
    omega
/-- clearing one bit sets none -/
theorem wand_clr {x : Int} (h1 : 0 < x) (h2 : x < 4294967296) : wand (clr x) x = clr x := by
  obtain ⟨n, rfl⟩ := Int.eq_ofNat_of_zero_le (a := x) (by omega)
  have hn : n ≠ 0 := by omega
  have hl := Nat.log2_self_le hn
  have hu := Nat.lt_log2_self (n := n)
  unfold wand clr
  rw [Int.toNat_natCast]
  have e : ((n : Int) - ((2 ^ n.log2 : Nat) : Int)).toNat = n - 2 ^ n.log2 := by omega
  rw [e]
  generalize n.log2 = k at hl hu
  obtain ⟨r, rfl⟩ : ∃ r, n = 2 ^ k + r := ⟨n - 2 ^ k, by omega⟩
  have hr : r < 2 ^ k := by rw [Nat.pow_succ] at hu; omega
  have e3 : 2 ^ k + r = 2 ^ k ||| r := by have := Nat.two_pow_add_eq_or_of_lt hr 1; rwa [Nat.mul_one] at this
  rw [Nat.add_sub_cancel_left, e3, Nat.and_or_distrib_left, Nat.and_self]
  have z : r &&& 2 ^ k = 0 := by
    apply Nat.eq_of_testBit_eq
    intro i
    rw [Nat.testBit_and, Nat.testBit_two_pow, Nat.zero_testBit]
    by_cases e : k = i
    · subst e; rw [Nat.testBit_lt_two_pow hr]; rfl
    · simp [e]
  rw [z, Nat.zero_or, ← e3]
  omega
end DrvS
end Go.Proofs.Ytmeegehmbphooaa
