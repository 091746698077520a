/-
  Plain: what a tally does, over a drive of two sectors.
-/
import Derived.Test.YtmeegehmbphooaaDrvKeepsP
import Derived.Lib.BitFns
namespace Go.Proofs.Ytmeegehmbphooaa
/-- how many bits of a word are 0 -/
def zer (x : Int) : Nat := Lib.popAux (4294967295 - x).toNat (4294967295 - x).toNat
/-- how many bits of the first j words behind the head are 0 -/
def zsum (f : Nat → Int) (o : Nat) : Nat → Nat
  | 0 => 0
  | j + 1 => zsum f o j + zer (f (o + 2 + j))
/-- does a sector count? -/
def cntOk (f : Nat → Int) (o : Nat) : Bool := decide (f o ≤ 2147483648 ∧ f (o + 1) = 4294967295 - f o)
/-- what it counts -/
def cntN (f : Nat → Int) (o : Nat) : Int := f o + zsum f o 62
/-- which sector is the tally's, and its count -/
def look (f : Nat → Int) : Int × Int :=
  if cntOk f 0 = true then (if cntOk f 64 = true ∧ cntN f 0 < cntN f 64 then (1, cntN f 64) else (0, cntN f 0))
  else if cntOk f 64 = true then (1, cntN f 64) else (-1, 0)
/-- the first word that has a bit; 0: there is none -/
def roomAt (f : Nat → Int) (o : Nat) : Nat → Nat → Nat
  | 0, _ => 0
  | m + 1, i => if f (o + i) = 0 then roomAt f o m (i + 1) else i
def room (f : Nat → Int) (o : Nat) : Nat := roomAt f o 62 2
/-- a word without its highest bit -/
def clr (x : Int) : Int := x - ((2 ^ Nat.log2 x.toNat : Nat) : Int)

theorem pop_add (k : Nat) : ∀ (n y : Nat), k < n → y / 2 ^ k % 2 = 0 → Lib.popAux n (y + 2 ^ k) = Lib.popAux n y + 1 := by
  induction k with
  | zero =>
    intro n y hn hy
    obtain ⟨n, rfl⟩ : ∃ m, n = m + 1 := ⟨n - 1, by omega⟩
    simp only [Lib.popAux, Nat.pow_zero] at hy ⊢
    rw [show (y + 1) / 2 = y / 2 from by omega]
    omega
  | succ k ih =>
    intro n y hn hy
    obtain ⟨n, rfl⟩ : ∃ m, n = m + 1 := ⟨n - 1, by omega⟩
    have e : 2 ^ (k + 1) = 2 * 2 ^ k := by rw [Nat.pow_succ]; omega
    have h1 : (y + 2 ^ (k + 1)) / 2 = y / 2 + 2 ^ k := by omega
    have h2 : (y + 2 ^ (k + 1)) % 2 = y % 2 := by omega
    have h3 : y / 2 / 2 ^ k % 2 = 0 := by rw [Nat.div_div_eq_div_mul, ← e]; exact hy
    simp only [Lib.popAux]
    rw [h1, h2, ih n (y / 2) (by omega) h3]
    omega
theorem pop_hi (m : Nat) : ∀ (n x : Nat), x < 2 ^ n → Lib.popAux (n + m) x = Lib.popAux n x := by
  intro n
  induction n with
  | zero =>
    intro x hx
    have hx : x = 0 := by simpa using hx
    subst hx
    rw [Nat.zero_add]
    have z : ∀ m, Lib.popAux m 0 = 0 := fun m => by
      induction m with
      | zero => rfl
      | succ m ih => simp only [Lib.popAux]; rw [ih]
    rw [z]; rfl
  | succ n ih =>
    intro x hx
    rw [show n + 1 + m = (n + m) + 1 from by omega]
    simp only [Lib.popAux]
    rw [ih (x / 2) (by rw [Nat.pow_succ] at hx; omega)]
theorem zer_eq {x : Int} (h1 : 0 ≤ x) : zer x = Lib.onesCount (4294967295 - x).toNat := by
  unfold zer Lib.onesCount
  have hy : (4294967295 - x).toNat < 2 ^ 32 := by omega
  generalize (4294967295 - x).toNat = y at hy
  rw [show (64 : Nat) = 32 + 32 from rfl, pop_hi 32 32 y hy]
  rcases Nat.lt_or_ge y 32 with h | h
  · have := pop_hi (32 - y) y y Nat.lt_two_pow_self
    rw [show y + (32 - y) = 32 from by omega] at this
    exact this.symm
  · have := pop_hi (y - 32) 32 y hy
    rwa [show 32 + (y - 32) = y from by omega] at this
theorem clr_facts {x : Int} (h1 : 0 < x) (h2 : x < 4294967296) : 0 ≤ clr x ∧ clr x < x ∧ zer (clr x) = zer x + 1 := by
  obtain ⟨n, rfl⟩ := Int.eq_ofNat_of_zero_le (a := x) (by omega)
  have hn : n ≠ 0 := by omega
  have hc0 : 0 ≤ clr (n : Int) := by
    have := Nat.log2_self_le hn
    unfold clr; rw [Int.toNat_natCast]; omega
  rw [zer_eq hc0, zer_eq (by omega)]
  clear hc0
  unfold clr
  rw [Int.toNat_natCast]
  have hl := Nat.log2_self_le hn
  have hu := Nat.lt_log2_self (n := n)
  have hk : n.log2 < 32 := (Nat.log2_lt hn).2 (by omega)
  generalize n.log2 = k at hl hu hk
  have hp : 0 < 2 ^ k := Nat.pow_pos (by omega)
  refine ⟨by omega, by omega, ?_⟩
  have e : (4294967295 - ((n : Int) - ((2 ^ k : Nat) : Int))).toNat = (4294967295 - (n : Int)).toNat + 2 ^ k := by omega
  rw [e]
  unfold Lib.onesCount
  refine pop_add k 64 _ (by omega) ?_
  have e2 : (4294967295 - (n : Int)).toNat = 4294967295 - n := by omega
  rw [e2]
  have hM : 2 ^ (31 - k) * 2 ^ k = 2147483648 := by rw [← Nat.pow_add, show 31 - k + k = 31 from by omega]
  have hu' : n < 2 * 2 ^ k := by rw [Nat.pow_succ] at hu; omega
  have hMp : 0 < 2 ^ (31 - k) := Nat.pow_pos (by omega)
  generalize 2 ^ (31 - k) = M at hM hMp
  generalize 2 ^ k = B at hM hl hu' hp
  obtain ⟨M, rfl⟩ : ∃ m, M = m + 1 := ⟨M - 1, by omega⟩
  have e3 : 4294967295 - n = B * (2 * M) + (2 * B - 1 - n) := by
    have : (M + 1) * B = M * B + B := by rw [Nat.add_mul, Nat.one_mul]
    have h5 : B * (2 * M) = 2 * (M * B) := by rw [Nat.mul_comm B, Nat.mul_assoc]
    rw [h5]
    omega
  rw [e3, Nat.mul_add_div hp, Nat.div_eq_of_lt (by omega)]
  omega
theorem pop_le (n : Nat) : ∀ x, Lib.popAux n x ≤ n := by
  induction n with
  | zero => intro x; simp [Lib.popAux]
  | succ n ih => intro x; have := ih (x / 2); simp only [Lib.popAux]; omega
theorem zer_le {x : Int} (h1 : 0 ≤ x) : zer x ≤ 32 := by
  rw [zer_eq h1]
  unfold Lib.onesCount
  rw [show (64 : Nat) = 32 + 32 from rfl, pop_hi 32 32 _ (by omega)]
  exact pop_le 32 _
theorem zer_zero : zer 0 = 32 := by rw [zer_eq (by decide)]; decide +kernel
theorem zer_ones : zer 4294967295 = 0 := by rw [zer_eq (by decide)]; decide +kernel
/-- all bits are 0: the word is -/
theorem pop_full (n : Nat) : ∀ x, x < 2 ^ n → Lib.popAux n x = n → x = 2 ^ n - 1 := by
  induction n with
  | zero => intro x hx _; simpa using hx
  | succ n ih =>
    intro x hx h
    simp only [Lib.popAux] at h
    have h1 := pop_le n (x / 2)
    have h2 := ih (x / 2) (by rw [Nat.pow_succ] at hx; omega) (by omega)
    rw [Nat.pow_succ] at hx ⊢
    have hp : 0 < 2 ^ n := Nat.pow_pos (by omega)
    omega
theorem zer_full {x : Int} (h1 : 0 ≤ x) (h2 : x < 4294967296) (h : zer x = 32) : x = 0 := by
  rw [zer_eq h1] at h
  unfold Lib.onesCount at h
  rw [show (64 : Nat) = 32 + 32 from rfl, pop_hi 32 32 _ (by omega)] at h
  have := pop_full 32 _ (by omega) h
  omega
section
variable {f g : Nat → Int} {o : Nat}
theorem zsum_congr : ∀ j, (∀ i, i < j → g (o + 2 + i) = f (o + 2 + i)) → zsum g o j = zsum f o j
  | 0, _ => rfl
  | j + 1, h => by
    simp only [zsum]
    rw [zsum_congr j (fun i hi => h i (by omega)), h j (by omega)]
theorem zsum_ones : ∀ j, (∀ i, i < j → f (o + 2 + i) = 4294967295) → zsum f o j = 0
  | 0, _ => rfl
  | j + 1, h => by
    simp only [zsum]
    rw [zsum_ones j (fun i hi => h i (by omega)), h j (by omega), zer_ones]
theorem zsum_le : ∀ j, (∀ i, i < j → 0 ≤ f (o + 2 + i)) → zsum f o j ≤ 32 * j
  | 0, _ => by simp [zsum]
  | j + 1, h => by
    have := zsum_le j (fun i hi => h i (by omega))
    have := zer_le (h j (by omega))
    simp only [zsum]
    omega
theorem zsum_full (h : ∀ i, i < 62 → 0 ≤ f (o + 2 + i) ∧ f (o + 2 + i) < 4294967296) : ∀ j, j ≤ 62 → zsum f o j = 32 * j → ∀ i, i < j → f (o + 2 + i) = 0 := by
  intro j
  induction j with
  | zero => intro _ _ i hi; exact absurd hi (Nat.not_lt_zero _)
  | succ j ih =>
    intro hj hz i hi
    have h1 := zsum_le (f := f) (o := o) j (fun i hi => (h i (by omega)).1)
    have h2 := zer_le (h j (by omega)).1
    simp only [zsum] at hz
    by_cases e : i = j
    · rw [e]
      exact zer_full (h j (by omega)).1 (h j (by omega)).2 (by omega)
    · exact ih (by omega) (by omega) i (by omega)
theorem zsum_zero : ∀ j, (∀ i, i < j → f (o + 2 + i) = 0) → zsum f o j = 32 * j
  | 0, _ => rfl
  | j + 1, h => by
    simp only [zsum]
    rw [zsum_zero j (fun i hi => h i (by omega)), h j (by omega), zer_zero]
    omega
/-- one word has a bit less -/
theorem zsum_clr {k : Nat} (hk : 0 < f (o + 2 + k) ∧ f (o + 2 + k) < 4294967296) (hg : ∀ i, g (o + 2 + i) = if i = k then clr (f (o + 2 + k)) else f (o + 2 + i)) : ∀ j, zsum g o j = zsum f o j + if k < j then 1 else 0
  | 0 => by simp [zsum]
  | j + 1 => by
    simp only [zsum]
    rw [zsum_clr hk hg j, hg j]
    by_cases e : j = k
    · subst e
      rw [if_pos rfl, (clr_facts hk.1 hk.2).2.2, if_neg (by omega), if_pos (by omega)]
      omega
    · rw [if_neg e]
      by_cases e2 : k < j
      · rw [if_pos e2, if_pos (by omega)]; omega
      · rw [if_neg e2, if_neg (by omega)]; omega
/-- words that are of more ones have no more zeros -/
theorem zsum_less : ∀ j, (∀ i, i < j → g (o + 2 + i) = f (o + 2 + i) ∨ g (o + 2 + i) = 4294967295) → zsum g o j ≤ zsum f o j
  | 0, _ => Nat.le_refl _
  | j + 1, h => by
    have h1 := zsum_less j (fun i hi => h i (by omega))
    simp only [zsum]
    rcases h j (by omega) with e | e
    · rw [e]; omega
    · rw [e, zer_ones]; omega
theorem roomAt_spec : ∀ m i, 1 ≤ i → (roomAt f o m i = 0 ∧ ∀ k, i ≤ k → k < i + m → f (o + k) = 0) ∨ (i ≤ roomAt f o m i ∧ roomAt f o m i < i + m ∧ f (o + roomAt f o m i) ≠ 0 ∧ ∀ k, i ≤ k → k < roomAt f o m i → f (o + k) = 0)
  | 0, i, _ => .inl ⟨rfl, fun k h1 h2 => by omega⟩
  | m + 1, i, hi => by
    simp only [roomAt]
    by_cases e : f (o + i) = 0
    · rw [if_pos e]
      rcases roomAt_spec m (i + 1) (by omega) with ⟨h1, h2⟩ | ⟨h1, h2, h3, h4⟩
      · refine .inl ⟨h1, fun k hk1 hk2 => ?_⟩
        by_cases e2 : k = i
        · subst e2; exact e
        · exact h2 k (by omega) (by omega)
      · refine .inr ⟨by omega, by omega, h3, fun k hk1 hk2 => ?_⟩
        by_cases e2 : k = i
        · subst e2; exact e
        · exact h4 k (by omega) (by omega)
    · rw [if_neg e]
      exact .inr ⟨Nat.le_refl _, by omega, e, fun k h1 h2 => by omega⟩
theorem room_spec (f : Nat → Int) (o : Nat) : (room f o = 0 ∧ ∀ k, 2 ≤ k → k < 64 → f (o + k) = 0) ∨ (2 ≤ room f o ∧ room f o < 64 ∧ f (o + room f o) ≠ 0 ∧ ∀ k, 2 ≤ k → k < room f o → f (o + k) = 0) :=
  roomAt_spec 62 2 (by omega)
theorem cntN_congr (h : ∀ i, i < 64 → g (o + i) = f (o + i)) : cntN g o = cntN f o := by
  unfold cntN
  have h0 : g o = f o := h 0 (by omega)
  have h1 : zsum g o 62 = zsum f o 62 := zsum_congr 62 (fun i hi => by have := h (2 + i) (by omega); rwa [← Nat.add_assoc] at this)
  rw [h0, h1]
theorem cntOk_congr (h : ∀ i, i < 64 → g (o + i) = f (o + i)) : cntOk g o = cntOk f o := by
  unfold cntOk
  have h0 : g o = f o := h 0 (by omega)
  rw [h0, h 1 (by omega)]
theorem look_congr (h : ∀ i, i < 128 → g i = f i) : look g = look f := by
  have h0 : ∀ i, i < 64 → g (0 + i) = f (0 + i) := fun i hi => h _ (by omega)
  have h1 : ∀ i, i < 64 → g (64 + i) = f (64 + i) := fun i hi => h _ (by omega)
  unfold look
  rw [cntN_congr h0, cntN_congr h1, cntOk_congr h0, cntOk_congr h1]
theorem room_congr (h : ∀ i, i < 64 → g (o + i) = f (o + i)) : room g o = room f o := by
  have : ∀ m i, i + m ≤ 64 → roomAt g o m i = roomAt f o m i := fun m => by
    induction m with
    | zero => intro i _; rfl
    | succ m ih => intro i hi; simp only [roomAt]; rw [h i (by omega), ih (i + 1) (by omega)]
  exact this 62 2 (by omega)
end
/-- The word at which the tally's sector begins. -/
def offOf (on : Int) : Nat := if on = 1 then 64 else 0
theorem look_cases (f : Nat → Int) : ((look f).1 = -1 ∧ (look f).2 = 0 ∧ cntOk f 0 = false ∧ cntOk f 64 = false) ∨
    ((look f).1 = 0 ∧ cntOk f 0 = true ∧ (look f).2 = cntN f 0 ∧ (cntOk f 64 = true → cntN f 64 ≤ cntN f 0)) ∨
    ((look f).1 = 1 ∧ cntOk f 64 = true ∧ (look f).2 = cntN f 64 ∧ (cntOk f 0 = true → cntN f 0 < cntN f 64)) := by
  unfold look
  cases h0 : cntOk f 0 with
  | true =>
    rw [if_pos rfl]
    by_cases h : cntOk f 64 = true ∧ cntN f 0 < cntN f 64
    · rw [if_pos h]; exact .inr (.inr ⟨rfl, h.1, rfl, fun _ => h.2⟩)
    · rw [if_neg h]; exact .inr (.inl ⟨rfl, rfl, rfl, fun h1 => Int.not_lt.1 (fun h2 => h ⟨h1, h2⟩)⟩)
  | false =>
    rw [if_neg (by simp)]
    cases h1 : cntOk f 64 with
    | true => rw [if_pos rfl]; exact .inr (.inr ⟨rfl, rfl, rfl, fun h => by cases h⟩)
    | false => rw [if_neg (by simp)]; exact .inl ⟨rfl, rfl, rfl, rfl⟩
end Go.Proofs.Ytmeegehmbphooaa
