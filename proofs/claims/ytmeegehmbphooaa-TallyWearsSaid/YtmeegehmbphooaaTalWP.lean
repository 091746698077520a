/-
  Plain: how many words a step changes.
-/
import Derived.Test.YtmeegehmbphooaaTalR
import Derived.Test.YtmeegehmbphooaaSetP
namespace Go.Proofs.Ytmeegehmbphooaa
/-- behind k steps of a fresh tally -/
structure WInv (d : DrvS) (s : NorS) (k : Nat) : Prop where
  c : DrvS.Calm s
  n : (look (d.fn s)).2 = k
  z : k = 0 → (look (d.fn s)).1 = -1
  o : 1 ≤ k → ((look (d.fn s)).1 = 0 ∨ (look (d.fn s)).1 = 1) ∧ zsum (d.fn s) (offOf (look (d.fn s)).1) 62 = (k - 1) % 1985
theorem WInv.step {d : DrvS} {s : NorS} {k : Nat} (h : WInv d s k) (hs : s.Ok) (hd : d.Ok s) (hm : d.many = 2) (hk : k < 10000) :
    (d.stp s).2 = 0 ∧ WInv d (d.stp s).1 (k + 1) ∧ (k % 1985 ≠ 0 → DrvS.StpW d s (d.stp s).1) := by
  have hc : (look (d.fn s)).2 < 2147483648 := by rw [h.n]; omega
  obtain ⟨h1, h2, -, h3⟩ := DrvS.calm_stp h.c hs hd hm hc
  have hu := DrvS.fn_u32 (d := d) hs
  generalize (d.stp s).1 = s' at h2 h3
  by_cases hk0 : k % 1985 = 0
  · -- the other sector is begun
    have hT : DrvS.StpT d s s' := by
      rcases h3 with ⟨o, r, ho, r2, r64, hne, -⟩ | h3
      · exfalso
        rcases Nat.eq_zero_or_pos k with hz | hp
        · have := h.z hz; omega
        · obtain ⟨-, hzs⟩ := h.o hp
          have hoo : offOf (look (d.fn s)).1 = o := by
            unfold offOf
            rcases ho with ⟨a, b⟩ | ⟨a, b⟩ <;> rw [a, b] <;> rfl
          rw [hoo, show (k - 1) % 1985 = 32 * 62 from by omega] at hzs
          have := zsum_full (f := d.fn s) (o := o) (fun i _ => hu _) 62 (by omega) hzs (r - 2) (by omega)
          rw [show o + 2 + (r - 2) = o + r from by omega] at this
          exact hne this
      · exact h3
    have hl := DrvS.stpT_look hs hc hT
    refine ⟨h1, ⟨h2, by rw [hl, h.n]; rfl, fun e => by omega, fun _ => ?_⟩, fun e => absurd hk0 e⟩
    rw [hl]
    have hi := DrvS.nextS_lt (d.fn s)
    have er : ∀ i, i < 62 → d.fn s' (64 * DrvS.nextS (d.fn s) + 2 + i) = 4294967295 := fun i hi' => by
      rw [hT.2]; unfold laidF
      rw [if_neg (by simp only [List.length_cons, List.length_nil]; omega)]
      unfold onesTo
      rw [if_pos (by omega)]
    have hz := zsum_ones (f := d.fn s') (o := 64 * DrvS.nextS (d.fn s)) 62 er
    rcases (by omega : DrvS.nextS (d.fn s) = 0 ∨ DrvS.nextS (d.fn s) = 1) with e | e
    · rw [e] at hz ⊢
      refine ⟨.inl rfl, ?_⟩
      show zsum (d.fn s') 0 62 = (k + 1 - 1) % 1985
      rw [show k + 1 - 1 = k from by omega, hk0]
      simpa using hz
    · rw [e] at hz ⊢
      refine ⟨.inr rfl, ?_⟩
      show zsum (d.fn s') 64 62 = (k + 1 - 1) % 1985
      rw [show k + 1 - 1 = k from by omega, hk0]
      simpa using hz
  · have hp : 1 ≤ k := by omega
    obtain ⟨hon, hzs⟩ := h.o hp
    have hW : DrvS.StpW d s s' := by
      rcases h3 with h3 | h3
      · exact h3
      · exfalso
        rcases h3.1 with e | e
        · omega
        · have := zsum_zero (f := d.fn s) (o := offOf (look (d.fn s)).1) 62 (fun i hi => by
            have := e (2 + i) (by omega) (by omega)
            rwa [← Nat.add_assoc] at this)
          omega
    have hl := DrvS.stpW_look hs hW
    refine ⟨h1, ⟨h2, by rw [hl, h.n]; rfl, fun e => by omega, fun _ => ?_⟩, fun _ => hW⟩
    rw [hl]
    refine ⟨hon, ?_⟩
    obtain ⟨o, r, ho, r2, r64, hne, -, hg⟩ := hW
    have hoo : offOf (look (d.fn s)).1 = o := by
      unfold offOf
      rcases ho with ⟨a, b⟩ | ⟨a, b⟩ <;> rw [a, b] <;> rfl
    rw [hoo] at hzs ⊢
    have hx : 0 < d.fn s (o + 2 + (r - 2)) ∧ d.fn s (o + 2 + (r - 2)) < 4294967296 := by
      rw [show o + 2 + (r - 2) = o + r from by omega]
      have := hu (o + r); omega
    have := zsum_clr (f := d.fn s) (g := d.fn s') (o := o) (k := r - 2) hx (fun i => by
      rw [hg, show o + 2 + (r - 2) = o + r from by omega]
      by_cases e : i = r - 2
      · rw [if_pos (by omega), if_pos e]
      · rw [if_neg (by omega), if_neg e]) 62
    rw [if_pos (by omega)] at this
    show zsum (d.fn s') o 62 = _
    rw [this, hzs]
    omega
/-- how many of the first words are others -/
def chg (f g : Nat → Int) : Nat → Nat
  | 0 => 0
  | i + 1 => chg f g i + if f i = g i then 0 else 1
/-- has a bit risen? -/
def riseB (f g : Nat → Int) : Nat → Bool
  | 0 => false
  | i + 1 => riseB f g i || !(wand (g i) (f i) == g i)
theorem chg_zero {f g : Nat → Int} : ∀ n, chg f g n = 0 → ∀ i, i < n → f i = g i := by
  intro n
  induction n with
  | zero => intro _ i hi; omega
  | succ n ih =>
    intro h i hi
    simp only [chg] at h
    by_cases e : f n = g n
    · rw [if_pos e] at h
      rcases Nat.lt_or_ge i n with h1 | h1
      · exact ih (by omega) i h1
      · rw [show i = n from by omega]; exact e
    · rw [if_neg e] at h; omega
theorem chg_le (f g : Nat → Int) : ∀ n, chg f g n ≤ n
  | 0 => Nat.le_refl _
  | n + 1 => by have := chg_le f g n; simp only [chg]; split <;> omega
theorem chg_one {f g : Nat → Int} {j : Nat} {y : Int} (hy : y ≠ f j) (hg : ∀ i, g i = if i = j then y else f i) : ∀ n, chg f g n = if j < n then 1 else 0
  | 0 => by simp [chg]
  | n + 1 => by
    simp only [chg]
    rw [chg_one hy hg n, hg n]
    by_cases e : n = j
    · subst e
      rw [if_pos rfl, if_neg (by omega), if_neg (fun h => hy h.symm), if_pos (by omega)]
    · rw [if_neg e, if_pos rfl]
      by_cases h : j < n
      · rw [if_pos h, if_pos (by omega)]
      · rw [if_neg h, if_neg (by omega)]
theorem rise_none {f g : Nat → Int} {j : Nat} {y : Int} (hf : ∀ i, 0 ≤ f i) (hy : wand y (f j) = y) (hg : ∀ i, g i = if i = j then y else f i) : ∀ n, riseB f g n = false
  | 0 => rfl
  | n + 1 => by
    simp only [riseB]
    rw [rise_none hf hy hg n, hg n]
    by_cases e : n = j
    · subst e; rw [if_pos rfl, hy]; simp
    · rw [if_neg e, wand_self (hf n)]; simp
/-- what a step changes -/
theorem WInv.words {d : DrvS} {s : NorS} {k : Nat} (h : WInv d s k) (hs : s.Ok) (hd : d.Ok s) (hm : d.many = 2) (hk : k < 10000) :
    (k % 1985 = 0 → 1 ≤ chg (d.fn s) (d.fn (d.stp s).1) 128) ∧ (k % 1985 ≠ 0 → chg (d.fn s) (d.fn (d.stp s).1) 128 = 1 ∧ riseB (d.fn s) (d.fn (d.stp s).1) 128 = false) := by
  obtain ⟨h1, h2, h3⟩ := h.step hs hd hm hk
  refine ⟨fun _ => ?_, fun e => ?_⟩
  · rcases Nat.eq_zero_or_pos (chg (d.fn s) (d.fn (d.stp s).1) 128) with h0 | h0
    · exfalso
      have := look_congr (fun i hi => (chg_zero 128 h0 i hi).symm)
      have n1 := h2.n
      rw [this, h.n] at n1
      omega
    · exact h0
  · obtain ⟨o, r, ho, r2, r64, hne, -, hg⟩ := h3 e
    have hx := DrvS.fn_u32 (d := d) hs (o + r)
    have hcf := clr_facts (x := d.fn s (o + r)) (by omega) hx.2
    refine ⟨?_, rise_none (fun i => (DrvS.fn_u32 hs i).1) (DrvS.wand_clr (by omega) hx.2) hg 128⟩
    rw [chg_one (by omega) hg 128, if_pos (by omega)]
theorem winv0 {d : DrvS} {s : NorS} (h : DrvS.Calm s) (hl : look (d.fn s) = (-1, 0)) : WInv d s 0 :=
  ⟨h, by rw [hl]; rfl, fun _ => by rw [hl], fun e => by omega⟩
end Go.Proofs.Ytmeegehmbphooaa
