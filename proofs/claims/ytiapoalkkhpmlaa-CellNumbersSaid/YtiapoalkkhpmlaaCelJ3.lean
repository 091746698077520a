/-
  Texts of this claim, joined: TalF, Gen, BytP, ByWd, BytW, ByCp, Byt6.
-/
import Derived.Deep.AppendLies
import Derived.Lib.BitFns
import Derived.Lib.ItoaNum
import Derived.Lib.Strings
import Derived.Lib.Slices
import Derived.Lib.Small
import Derived.Lib.Walk
import Derived.BigQuiet
import Derived.Deep.Light
import Derived.Maps.AppendAt
import Derived.ArgAppend
import Derived.Laws.AppendOwnNone
import Derived.Laws.BytesArg
import Derived.Lib.Bytes
import Derived.Deep.OwnRows
import Derived.Test.YtiapoalkkhpmlaaCelJ2
/-
  Plain: a step of a tally that may fail, and a crash behind it.
-/
namespace Go.Proofs.Ytiapoalkkhpmlaa
/-- the sector that is not the tally's has been changed, but counts no more than it did -/
theorem look_drop {f g : Nat → Int} {i : Nat} (hi : i = DrvS.nextS f) (hfar : ∀ k, k < 128 → ¬ (64 * i ≤ k ∧ k < 64 * i + 64) → g k = f k)
    (hs : cntOk g (64 * i) = false ∨ (cntOk f (64 * i) = true ∧ cntN g (64 * i) ≤ cntN f (64 * i))) : (look g).2 = (look f).2 := by
  have hc := look_cases f
  unfold DrvS.nextS at hi
  rcases hc with ⟨h1, h2, h3, h4⟩ | ⟨h1, h2, h3, h4⟩ | ⟨h1, h2, h3, h4⟩
  · rw [h1, if_neg (by omega)] at hi
    subst hi
    have q1 : cntOk g 64 = cntOk f 64 := cntOk_congr (fun k hk => hfar _ (by omega) (by omega))
    have q0 : cntOk g 0 = false := by
      rcases hs with h | h
      · exact h
      · rw [Nat.mul_zero, h3] at h; cases h.1
    rw [h2]
    unfold look
    rw [q0, q1, h4]
    rfl
  · rw [h1, if_pos rfl] at hi
    subst hi
    have q0 : cntOk g 0 = cntOk f 0 := cntOk_congr (fun k hk => hfar _ (by omega) (by omega))
    have n0 : cntN g 0 = cntN f 0 := cntN_congr (fun k hk => hfar _ (by omega) (by omega))
    rw [h3]
    unfold look
    rw [q0, h2, if_pos rfl, n0, if_neg]
    rintro ⟨h5, h6⟩
    rcases hs with h | h
    · rw [Nat.mul_one, h5] at h; cases h
    · rw [Nat.mul_one] at h
      have := h4 h.1
      have := h.2
      omega
  · rw [h1, if_neg (by omega)] at hi
    subst hi
    have q1 : cntOk g 64 = cntOk f 64 := cntOk_congr (fun k hk => hfar _ (by omega) (by omega))
    have n1 : cntN g 64 = cntN f 64 := cntN_congr (fun k hk => hfar _ (by omega) (by omega))
    rw [h3]
    unfold look
    by_cases h0 : cntOk g 0 = true
    · have hlt : cntN g 0 < cntN g 64 := by
        rcases hs with h | h
        · rw [Nat.mul_zero, h0] at h; cases h
        · rw [Nat.mul_zero] at h
          have := h4 h.1
          have := h.2
          rw [n1]
          omega
      rw [if_pos h0, if_pos ⟨by rw [q1]; exact h2, hlt⟩, n1]
    · rw [if_neg h0, q1, if_pos h2, n1]
namespace DrvS
variable {d : DrvS} {s : NorS}
/-- the bases are not 0 -/
def Based (f : Nat → Int) : Prop := 1 ≤ f 0 ∧ 1 ≤ f 64
/-- an armed flash -/
theorem arms_fn (m : Int) : d.fn (s.arms m) = d.fn s := by
  funext k; unfold fn NorS.wd NorS.arms; split <;> rfl
theorem crash_half {ks : List Bool} (h : s.half = -1) : d.fn (s.crash ks) = d.fn s := by
  funext k; unfold fn NorS.wd NorS.crash
  simp only
  rw [if_neg (by rw [h]; decide)]
theorem burn_get (ks : List Bool) (b : Nat) : ∀ (m i : Nat) (l : List Int) (j : Nat), (NorS.burn ks b m i l).getD j 0 = l.getD j 0 ∨ (b + i ≤ j ∧ j < b + i + m ∧ (NorS.burn ks b m i l).getD j 0 = 4294967295)
  | 0, _, _, _ => .inl rfl
  | m + 1, i, l, j => by
    simp only [NorS.burn]
    have ih := burn_get ks b m (i + 1) (if ks.getD i false = true then l.set (b + i) 4294967295 else l) j
    rcases ih with h | ⟨h1, h2, h3⟩
    · rw [h]
      split
      · by_cases e : b + i = j
        · subst e
          by_cases hl : b + i < l.length
          · right
            refine ⟨by omega, by omega, ?_⟩
            simp [List.getD_eq_getElem?_getD, hl]
          · left
            simp [List.getD_eq_getElem?_getD, List.getElem?_set, hl]
        · left
          simp [List.getD_eq_getElem?_getD, List.getElem?_set, e]
      · exact .inl rfl
    · exact .inr ⟨by omega, by omega, h3⟩
end DrvS
end Go.Proofs.Ytiapoalkkhpmlaa
/-
  Plain: a step of a tally on an armed flash, and a crash behind it.
-/
namespace Go.Proofs.Ytiapoalkkhpmlaa
namespace DrvS
variable {d : DrvS} {s : NorS}
theorem fall_sets {a : Nat} {l : List Int} (hw : ∀ i, i < l.length → wand (l.getD i 0) (s.wd (d.base + a + i)) = l.getD i 0) : d.sets s a l = false := by
  unfold sets
  rw [List.any_eq_false]
  intro i hi
  rw [hw i (List.mem_range.1 hi)]; simp
/-- what a half-erased sector comes to -/
theorem crash_burn {ks : List Bool} {i : Nat} (h : s.half = (d.first : Int) + i) (k : Nat) :
    d.fn (s.crash ks) k = d.fn s k ∨ (64 * i ≤ k ∧ k < 64 * i + 64 ∧ d.fn (s.crash ks) k = 4294967295) := by
  have hb : d.base = d.first * 64 := rfl
  have hat : NorS.at_ ((d.first : Int) + i) 0 = (d.first + i) * 64 := by unfold NorS.at_; omega
  have key := burn_get ks ((d.first + i) * 64) 64 0 s.l (d.base + k)
  unfold fn NorS.wd NorS.crash
  simp only
  rw [if_pos (by omega), h, hat]
  rcases key with h1 | ⟨h1, h2, h3⟩
  · exact .inl h1
  · exact .inr ⟨by omega, by omega, h3⟩
theorem fall (hC : Calm s) (hh : s.half = -1) (hs : s.Ok) (hd : d.Ok s) (hm : d.many = 2) (hb : Based (d.fn s)) (hc : (look (d.fn s)).2 ≤ 2147483648)
    {m : Int} (hm0 : 0 ≤ m) (hok : (s.arms m).Ok) (ks : List Bool) :
    Based (d.fn ((d.stp (s.arms m)).1.crash ks)) ∧ (look (d.fn s)).2 ≤ (look (d.fn ((d.stp (s.arms m)).1.crash ks))).2 ∧
    (look (d.fn ((d.stp (s.arms m)).1.crash ks))).2 ≤ (look (d.fn s)).2 + 1 ∧ (look (d.fn ((d.stp (s.arms m)).1.crash ks))).2 ≤ 2147483648 ∧
    ((d.stp (s.arms m)).2 = 0 → (look (d.fn ((d.stp (s.arms m)).1.crash ks))).2 = (look (d.fn s)).2 + 1) := by
  have hu := fn_u32 (d := d) hs
  have hlo := look_lo (d := d) hs
  have hA : (s.arms m).down = false ∧ (s.arms m).n = s.n ∧ (s.arms m).half = -1 ∧ (s.arms m).arm = m := by
    unfold NorS.arms
    rw [if_neg (by rw [hC.dn]; simp)]
    exact ⟨hC.dn, rfl, hh, by show max m 0 = m; omega⟩
  have hf : d.fn (s.arms m) = d.fn s := arms_fn m
  have hd' : d.Ok (s.arms m) := ⟨hd.m, by rw [hA.2.1]; exact hd.n⟩
  generalize s.arms m = t at hok hA hf hd'
  have hut := fn_u32 (d := d) hok
  unfold stp
  rw [hf]
  by_cases hfull : 2147483648 ≤ (look (d.fn s)).2
  · rw [if_pos hfull]
    simp only
    rw [crash_half hA.2.2.1, hf]
    exact ⟨hb, by omega, by omega, by omega, fun h => by omega⟩
  rw [if_neg hfull]
  by_cases hw : 0 ≤ (look (d.fn s)).1 ∧ 0 < room (d.fn s) (offOf (look (d.fn s)).1)
  · rw [if_pos hw]
    simp only
    obtain ⟨o, ho⟩ : ∃ o, offOf (look (d.fn s)).1 = o := ⟨_, rfl⟩
    rw [ho] at hw ⊢
    have ho2 : ((look (d.fn s)).1 = 0 ∧ o = 0) ∨ ((look (d.fn s)).1 = 1 ∧ o = 64) := by
      unfold offOf at ho
      rcases look_on (d := d) hs with h | h | h
      · omega
      · rw [h] at ho; exact .inl ⟨h, by simpa using ho.symm⟩
      · rw [h] at ho; exact .inr ⟨h, by simpa using ho.symm⟩
    obtain ⟨r, hr⟩ : ∃ r, room (d.fn s) o = r := ⟨_, rfl⟩
    have hrs := room_spec (d.fn s) o
    rw [hr] at hw hrs ⊢
    rcases hrs with ⟨h1, -⟩ | ⟨h1, h2, h3, h4⟩
    · omega
    have hx : 0 < d.fn s (o + r) ∧ d.fn s (o + r) < 4294967296 := by have := hu (o + r); omega
    have hset : d.sets t (o + r) [clr (d.fn s (o + r))] = false := fall_sets (fun i hi => by
      have : i = 0 := by simp only [List.length_cons, List.length_nil] at hi; omega
      subst this
      show wand (clr (d.fn s (o + r))) (t.wd (d.base + (o + r) + 0)) = _
      rw [Nat.add_zero, base_wd, hf, wand_clr hx.1 hx.2]; rfl)
    obtain ⟨g1, -, g3, -, g5⟩ := wr_go hA.1 hok hd' (k := o + r) (x := [clr (d.fn s (o + r))]) (by simp only [List.length_cons, List.length_nil]; rw [hm]; omega) hset
    have hdn := NorS.doneN_le t [clr (d.fn s (o + r))].length
    rw [g1, crash_half (by rw [g3]; exact hA.2.2.1)]
    simp only [List.length_cons, List.length_nil, Nat.zero_add] at hdn g5 ⊢
    by_cases hD : t.doneN 1 = 1
    · have hg : ∀ i, d.fn (d.wr t ((o + r : Nat) : Int) [clr (d.fn s (o + r))]) i = if i = o + r then clr (d.fn s (o + r)) else d.fn s i := fun i => by
        show (d.wr t ((o + r : Nat) : Int) [clr (d.fn s (o + r))]).wd (d.base + i) = _
        rw [g5, hD]
        by_cases e : i = o + r
        · rw [if_pos e, if_pos (by omega), e, Nat.sub_self]; rfl
        · rw [if_neg e, if_neg (by omega), base_wd, hf]
      have hl := look_w hu (on := (look (d.fn s)).1) (count := (look (d.fn s)).2) (f := d.fn s) (g := d.fn (d.wr t ((o + r : Nat) : Int) [clr (d.fn s (o + r))])) rfl ho2 h1 h2 h3 (fun i _ => hg i)
      rw [hl]
      refine ⟨?_, by dsimp only; omega, Int.le_refl _, by dsimp only; omega, fun _ => rfl⟩
      unfold Based
      rw [hg 0, hg 64, if_neg (by omega), if_neg (by omega)]
      exact hb
    · have hg : d.fn (d.wr t ((o + r : Nat) : Int) [clr (d.fn s (o + r))]) = d.fn s := by
        funext i
        show (d.wr t ((o + r : Nat) : Int) [clr (d.fn s (o + r))]).wd (d.base + i) = _
        rw [g5, if_neg (by omega), base_wd, hf]
      rw [hg, if_neg hD]
      exact ⟨hb, by omega, by omega, by omega, fun h => by cases h⟩
  rw [if_neg hw]
  have hi := nextS_lt (d.fn s)
  obtain ⟨i, hie⟩ : ∃ i, nextS (d.fn s) = i := ⟨_, rfl⟩
  rw [hie] at hi ⊢
  by_cases he : d.erE t i = 0
  · rw [if_pos he]
    simp only
    obtain ⟨-, -, e3, e4, e5, -, e7⟩ := er_ok hok hd' he
    have hok1 := er_Ok (d := d) hok i
    have hd1 : d.Ok (d.er t i) := ⟨hd.m, by rw [e4]; exact hd'.n⟩
    rw [hf] at e7
    generalize d.er t i = t1 at e3 e4 e5 e7 hok1 hd1
    have hset : d.sets t1 (64 * i) [(look (d.fn s)).2 + 1, 4294967294 - (look (d.fn s)).2] = false := fall_sets (fun j hj => by
      have : j = 0 ∨ j = 1 := by simp only [List.length_cons, List.length_nil] at hj; omega
      have e : t1.wd (d.base + 64 * i + j) = 4294967295 := by
        rw [Nat.add_assoc, base_wd, e7]
        unfold onesTo; rw [if_pos (by omega)]
      rw [e]
      rcases this with rfl | rfl
      · exact wand_full (show 0 ≤ (look (d.fn s)).2 + 1 by omega) (by show (look (d.fn s)).2 + 1 < _; omega)
      · exact wand_full (show 0 ≤ 4294967294 - (look (d.fn s)).2 by omega) (by show 4294967294 - (look (d.fn s)).2 < _; omega))
    obtain ⟨g1, -, g3, -, g5⟩ := wr_go e3 hok1 hd1 (k := 64 * i) (x := [(look (d.fn s)).2 + 1, 4294967294 - (look (d.fn s)).2]) (by simp only [List.length_cons, List.length_nil]; rw [hm]; omega) hset
    have hdn := NorS.doneN_le t1 [(look (d.fn s)).2 + 1, 4294967294 - (look (d.fn s)).2].length
    rw [g1, crash_half (by rw [g3, e5]; exact hA.2.2.1)]
    simp only [List.length_cons, List.length_nil, Nat.zero_add, Nat.reduceAdd] at hdn g5 ⊢
    generalize hq : d.wr t1 ((64 * i : Nat) : Int) [(look (d.fn s)).2 + 1, 4294967294 - (look (d.fn s)).2] = q at g3 g5 ⊢
    have hg : ∀ k, d.fn q k = if 64 * i ≤ k ∧ k < 64 * i + t1.doneN 2 then [(look (d.fn s)).2 + 1, 4294967294 - (look (d.fn s)).2].getD (k - 64 * i) 0 else onesTo (d.fn s) (64 * i) 64 k := fun k => by
      show q.wd (d.base + k) = _
      rw [g5]
      by_cases e : 64 * i ≤ k ∧ k < 64 * i + t1.doneN 2
      · rw [if_pos e, if_pos (by omega), show d.base + k - (d.base + 64 * i) = k - 64 * i from by omega]
      · rw [if_neg e, if_neg (by omega), base_wd, e7]
    have hB : Based (d.fn q) := by
      have one : ∀ o, (o = 0 ∨ o = 64) → 1 ≤ d.fn q o := fun o ho => by
        rw [hg o]
        by_cases e : 64 * i ≤ o ∧ o < 64 * i + t1.doneN 2
        · rw [if_pos e, show o - 64 * i = 0 from by omega]
          show 1 ≤ (look (d.fn s)).2 + 1
          omega
        · rw [if_neg e]
          unfold onesTo
          split
          · decide
          · rcases ho with rfl | rfl
            · exact hb.1
            · exact hb.2
      exact ⟨one 0 (.inl rfl), one 64 (.inr rfl)⟩
    by_cases hD : t1.doneN 2 = 2
    · have hl := look_t (count := (look (d.fn s)).2) (f := d.fn s) (g := d.fn q) (i := i) rfl hie.symm hlo.2.2.1 (by omega) (fun k _ => by
        rw [hg k, hD]; rfl)
      rw [hl]
      exact ⟨hB, by dsimp only; omega, Int.le_refl _, by dsimp only; omega, fun _ => rfl⟩
    · have hl : (look (d.fn q)).2 = (look (d.fn s)).2 := look_drop (i := i) hie.symm (fun k _ hk => by
        rw [hg k, if_neg (by omega)]
        unfold onesTo
        rw [if_neg hk]) (.inl (by
          unfold cntOk
          have w1 : d.fn q (64 * i + 1) = 4294967295 := by
            rw [hg, if_neg (by omega)]
            unfold onesTo
            rw [if_pos (by omega)]
          have w0 : 1 ≤ d.fn q (64 * i) := by
            rcases (by omega : i = 0 ∨ i = 1) with rfl | rfl
            · exact hB.1
            · exact hB.2
          rw [w1]
          exact decide_eq_false (fun h => by omega)))
      rw [hl, if_neg hD]
      exact ⟨hB, by omega, by omega, by omega, fun h => by cases h⟩
  · rw [if_neg he]
    simp only
    have hn := hd'.n
    have hM : 0 ≤ (i : Int) ∧ (i : Int) < d.many := by omega
    have hup : t.up ((d.first : Int) + i) 0 0 = 0 := by
      unfold NorS.up NorS.there
      rw [if_neg (by rw [hA.1]; simp), if_pos]
      simp only [Bool.and_eq_true, decide_eq_true_eq]
      omega
    have hst : ¬ t.steps = true := fun h => he (by
      unfold erE NorS.eraseE
      rw [if_pos hM, if_pos hup, if_pos h])
    have hE : d.er t i = { t.step with half := (d.first : Int) + i } := by
      unfold er NorS.erase
      rw [if_pos hM, if_pos hup, if_neg hst]
    have hfn : d.fn (d.er t i) = d.fn s := by
      funext k
      rw [hE, ← hf]
      show t.step.l.getD _ 0 = t.l.getD _ 0
      rw [NorS.step_l]
    have hbu := crash_burn (d := d) (s := d.er t i) (ks := ks) (i := i) (by rw [hE])
    rw [hfn] at hbu
    generalize d.fn ((d.er t i).crash ks) = g at hbu
    have hB : Based g := by
      refine ⟨?_, ?_⟩
      · rcases hbu 0 with h | ⟨-, -, h⟩
        · rw [h]; exact hb.1
        · rw [h]; decide
      · rcases hbu 64 with h | ⟨-, -, h⟩
        · rw [h]; exact hb.2
        · rw [h]; decide
    have hl : (look g).2 = (look (d.fn s)).2 := look_drop (i := i) hie.symm (fun k _ hk => by
      rcases hbu k with h | ⟨h1, h2, -⟩
      · exact h
      · exact absurd ⟨h1, h2⟩ hk) (by
        cases hck : cntOk g (64 * i) with
        | false => exact .inl rfl
        | true =>
          right
          unfold cntOk at hck
          have hck := of_decide_eq_true hck
          have w0 : 1 ≤ g (64 * i) := by
            rcases (by omega : i = 0 ∨ i = 1) with rfl | rfl
            · exact hB.1
            · exact hB.2
          have a0 : g (64 * i) = d.fn s (64 * i) := by
            rcases hbu (64 * i) with h | ⟨-, -, h⟩
            · exact h
            · omega
          have a1 : g (64 * i + 1) = d.fn s (64 * i + 1) := by
            rcases hbu (64 * i + 1) with h | ⟨-, -, h⟩
            · exact h
            · omega
          refine ⟨by unfold cntOk; rw [← a0, ← a1]; exact decide_eq_true hck, ?_⟩
          unfold cntN
          have := zsum_less (f := d.fn s) (g := g) (o := 64 * i) 62 (fun j _ => by
            rcases hbu (64 * i + 2 + j) with h | ⟨-, -, h⟩
            · exact .inl h
            · exact .inr h)
          omega)
    rw [hl]
    refine ⟨hB, by omega, by omega, by omega, fun h => absurd h he⟩
/-- a step of a flash that is up keeps the bases -/
theorem calm_based (hC : Calm s) (hs : s.Ok) (hd : d.Ok s) (hm : d.many = 2) (hb : Based (d.fn s)) (hc : (look (d.fn s)).2 < 2147483648) : Based (d.fn (d.stp s).1) := by
  obtain ⟨-, -, -, h⟩ := calm_stp hC hs hd hm hc
  have hlo := look_lo (d := d) hs
  generalize (d.stp s).1 = s' at h
  rcases h with ⟨o, r, ho, h2, h3, -, -, hg⟩ | ⟨-, hg⟩
  · unfold Based
    rw [hg 0, hg 64, if_neg (by omega), if_neg (by omega)]
    exact hb
  · have hi := nextS_lt (d.fn s)
    generalize nextS (d.fn s) = i at hg hi
    have one : ∀ o, (o = 0 ∨ o = 64) → 1 ≤ d.fn s' o := fun o ho => by
      rw [hg o]
      unfold laidF
      by_cases e : 64 * i ≤ o ∧ o < 64 * i + [(look (d.fn s)).2 + 1, 4294967294 - (look (d.fn s)).2].length
      · rw [if_pos e, show o - 64 * i = 0 from by simp only [List.length_cons, List.length_nil] at e; omega]
        show 1 ≤ (look (d.fn s)).2 + 1
        omega
      · rw [if_neg e]
        unfold onesTo
        split
        · decide
        · rcases ho with rfl | rfl
          · exact hb.1
          · exact hb.2
    exact ⟨one 0 (.inl rfl), one 64 (.inr rfl)⟩
end DrvS
end Go.Proofs.Ytiapoalkkhpmlaa

/-
  Words at an argument; a word more behind an own row.
-/
namespace Go.Proofs.Ytiapoalkkhpmlaa
open Go.RowKit
theorem ints_take {k : IntKind} {xs : List Int} {n : Nat} : ints k (xs.take n) = (ints k xs).take n := by simp [ints]
theorem Rd.take {w : World} {A : Option Addr} {vs : List Value} (h : Rd w A vs) (n : Nat) : Rd w A (vs.take n) := fun hv => by
  have h0 : vs ≠ [] := fun e => hv (by rw [e]; simp)
  obtain ⟨b, o, e, hc⟩ := h h0
  refine ⟨b, o, e, fun i v hi => hc i v ?_⟩
  rw [List.getElem?_take] at hi
  split at hi
  · exact hi
  · cases hi
theorem below_two {B p q : Nat} (hp : B ≤ p) (hq : B ≤ q) : ∀ k, k < B → ¬ Two p q k := fun k hk h => by
  rcases h with h | h <;> omega
theorem uint32_info : (Try.prog.info? 49).map (fun i => (i.zero, i.size, i.bytes)) = some (some (.int .u32 0), 1, 4) := by kernel_rfl
/-- one word more behind an own row of words -/
theorem append_word {w : World} {ops : Array Oper} {rest : List Oper} {o : Oper} {a : Act} {Q : Exit → Act → World → Prop} (hgd : o.guard = none) (s x : Operand)
    (ho : o.op = .call { callee := .builtin .append, args := #[s, x], argTypes := #[34, 34] })
    (base n b : Nat) (v : Value) (xs : List Int) (y : Int) (hs : a.eval s = v) (hx : a.eval x = .slice (some ⟨b, 0, none⟩) 1 1)
    (hown : w.ownsRow base 49 1 v n (ints .u32 xs)) (hb : Blk w b 49 #[.int .u32 y]) (hn : n ≤ 16777216) (hbase : base ≤ w.heap.size)
    (h : ∀ g cap w', w'.ownsRow base 49 1 (.slice (some ⟨g, 0, none⟩) (n + 1) cap) (n + 1) (ints .u32 (xs ++ [y])) → w.grownBy w' v.ownBlock → wpList Try.prog ops Q rest (a.put o.dst (.slice (some ⟨g, 0, none⟩) (n + 1) cap)) w') :
    wpList Try.prog ops Q (o :: rest) a w := by
  obtain ⟨i0, hi0, hz0, hz1, hz2⟩ := info_parts uint32_info
  refine wpList_append_lies w hgd s x 34 ho base 49 i0 _ 1 4 Try.underlying34 hi0 hz0 hz1 hz2 rfl (by omega) v n (ints .u32 xs) hs hown ⟨b, 0, none⟩ 1 1 [.int .u32 y] hx rfl (World.news_of_block (cs := #[.int .u32 y]) hb) (by simp [Value.oneCell']) (by omega) (by simp [maxLen]; omega) (by omega) hbase w.heap.size rfl (fun g cap w' h1 h2 _ _ => h g cap w' ?_ h2)
  have e : ints .u32 (xs ++ [y]) = ints .u32 xs ++ [.int .u32 y] := by simp [ints]
  rw [e]
  exact h1

theorem Rd.of_own {w : World} {base : Nat} {e : TypeId} {v : Value} {n : Nat} {xs : List Value} (h : w.ownsRow base e 1 v n xs) : ∃ A c, v = .slice A n c ∧ Rd w A xs ∧ (∀ a, A = some a → base ≤ a.block ∧ a.block < w.heap.size) ∧ n ≤ c := by
  rcases h.2 with ⟨rfl, rfl⟩ | ⟨g, cap, cur, rfl, h1, h2, h3, h4, h5, h6⟩
  · refine ⟨none, 0, rfl, ?_, (fun a ha => by cases ha), Nat.le_refl _⟩
    have : xs = [] := List.eq_nil_of_length_eq_zero (by simpa using h.1)
    rw [this]; exact Rd.nil _ _
  · refine ⟨_, _, rfl, (fun _ => ⟨g, 0, rfl, fun i v hv => ?_⟩), (fun a ha => ?_), h3⟩
    · have hi : i < xs.length := (List.getElem?_eq_some_iff.1 hv).1
      have := h.cellAt i (by rw [← h.1]; exact hi)
      rw [Nat.zero_add, this]; exact hv
    · injection ha with ha; subst ha; exact ⟨h1, (h.lt g rfl).2⟩
end Go.Proofs.Ytiapoalkkhpmlaa

/-
  Plain: numbers written down, digit by digit; what stands at a place; words.
-/
namespace Go.Proofs.Ytiapoalkkhpmlaa
/-- all are bytes. -/
def U8 (xs : List Int) : Prop := ∀ x ∈ xs, 0 ≤ x ∧ x < 256
theorem U8.nil : U8 [] := fun _ h => by cases h
theorem U8.get {xs : List Int} (h : U8 xs) (i : Nat) : 0 ≤ xs.getD i 0 ∧ xs.getD i 0 < 256 := by
  rcases Nat.lt_or_ge i xs.length with hi | hi
  · rw [List.getD_eq_getElem?_getD, List.getElem?_eq_getElem hi]; exact h _ (List.getElem_mem _)
  · rw [List.getD_eq_getElem?_getD, List.getElem?_eq_none hi]; simp
theorem U8.cons {x : Int} {xs : List Int} (hx : 0 ≤ x ∧ x < 256) (h : U8 xs) : U8 (x :: xs) := fun y hy => by
  rcases List.mem_cons.1 hy with rfl | hy
  · exact hx
  · exact h y hy
theorem U8.tail {x : Int} {xs : List Int} (h : U8 (x :: xs)) : U8 xs := fun y hy => h y (List.mem_cons_of_mem _ hy)
theorem U8.head {x : Int} {xs : List Int} (h : U8 (x :: xs)) : 0 ≤ x ∧ x < 256 := h x List.mem_cons_self
theorem U8.drop {xs : List Int} (h : U8 xs) (i : Nat) : U8 (xs.drop i) := fun y hy => h y (List.mem_of_mem_drop hy)
theorem U8.take {xs : List Int} (h : U8 xs) (i : Nat) : U8 (xs.take i) := fun y hy => h y (List.mem_of_mem_take hy)
theorem U8.append {xs ys : List Int} (h : U8 xs) (k : U8 ys) : U8 (xs ++ ys) := fun y hy => by
  rcases List.mem_append.1 hy with hy | hy
  · exact h y hy
  · exact k y hy
theorem ints_append {k : IntKind} {xs ys : List Int} : ints k (xs ++ ys) = ints k xs ++ ints k ys := by simp [ints]

/-! numbers -/
/-- digits, the least first; at most k more than one -/
def uvF : Nat → Nat → List Int
  | 0, n => [(n : Int)]
  | k + 1, n => if n < 128 then [(n : Int)] else ((n % 128 + 128 : Nat) : Int) :: uvF k (n / 128)
/-- a number written down -/
def uv (n : Nat) : List Int := uvF 9 n
/-- how many digits ahead of the last -/
def dgF : Nat → Nat → Nat
  | 0, _ => 0
  | k + 1, n => if n < 128 then 0 else dgF k (n / 128) + 1
def dg (n : Nat) : Nat := dgF 9 n
theorem uvF_length : ∀ k n, (uvF k n).length = dgF k n + 1
  | 0, _ => rfl
  | k + 1, n => by
    unfold uvF dgF
    split
    · rfl
    · rw [List.length_cons, uvF_length k]
theorem uv_length (n : Nat) : (uv n).length = dg n + 1 := uvF_length 9 n
theorem dgF_le : ∀ k n, dgF k n ≤ k
  | 0, _ => Nat.le_refl _
  | k + 1, n => by
    unfold dgF
    split
    · omega
    · have := dgF_le k (n / 128); omega
theorem dg_le (n : Nat) : dg n ≤ 9 := dgF_le 9 n
theorem dgF_lo : ∀ k n, 1 ≤ dgF k n → 128 ^ dgF k n ≤ n
  | 0, _, h => by simp [dgF] at h
  | k + 1, n, h => by
    unfold dgF at h ⊢
    split
    · rename_i h1; rw [if_pos h1] at h; omega
    · rename_i h1
      rw [Nat.pow_succ]
      by_cases h2 : 1 ≤ dgF k (n / 128)
      · have := dgF_lo k (n / 128) h2
        omega
      · have : dgF k (n / 128) = 0 := by omega
        rw [this]; omega
theorem dgF_hi : ∀ k n, n < 128 ^ (k + 1) → n < 128 ^ (dgF k n + 1)
  | 0, _, h => h
  | k + 1, n, h => by
    unfold dgF
    split
    · simpa using by assumption
    · have h1 : n / 128 < 128 ^ (k + 1) := by
        rw [Nat.pow_succ] at h; omega
      have := dgF_hi k (n / 128) h1
      rw [Nat.pow_succ]; omega
/-- the i-th byte -/
theorem uvF_get : ∀ k n i, i ≤ dgF k n → (uvF k n).getD i 0 = ((n / 128 ^ i % 128 + 128 : Nat) : Int) ∨ i = dgF k n
  | 0, n, i, h => .inr (by have : dgF 0 n = 0 := rfl; omega)
  | k + 1, n, i, h => by
    unfold uvF dgF at *
    by_cases h1 : n < 128
    · rw [if_pos h1] at h ⊢; right; rw [if_pos h1]; omega
    · rw [if_neg h1] at h ⊢
      rw [if_neg h1]
      cases i with
      | zero => left; simp
      | succ i =>
        rcases uvF_get k (n / 128) i (by omega) with h2 | h2
        · left
          rw [List.getD_cons_succ, h2, Nat.pow_succ, Nat.mul_comm, Nat.div_div_eq_div_mul]
        · right; omega
theorem uvF_last : ∀ k n, (uvF k n).getD (dgF k n) 0 = ((n / 128 ^ dgF k n : Nat) : Int)
  | 0, n => by simp [uvF, dgF]
  | k + 1, n => by
    unfold uvF dgF
    split
    · simp
    · rw [List.getD_cons_succ, uvF_last k, Nat.pow_succ, Nat.mul_comm, Nat.div_div_eq_div_mul]
theorem uv_get {n i : Nat} (h : i < dg n) : (uv n).getD i 0 = ((n / 128 ^ i % 128 + 128 : Nat) : Int) := by
  rcases uvF_get 9 n i (Nat.le_of_lt h) with h1 | h1
  · exact h1
  · exact absurd h1 (Nat.ne_of_lt h)
theorem uv_last (n : Nat) : (uv n).getD (dg n) 0 = ((n / 128 ^ dg n : Nat) : Int) := uvF_last 9 n
theorem u64_lt {n : Nat} (h : n < 18446744073709551616) : n < 128 ^ (9 + 1) := Nat.lt_of_lt_of_le h (by decide)
theorem uv_last_lt {n : Nat} (h : n < 18446744073709551616) : n / 128 ^ dg n < 128 := by
  have := dgF_hi 9 n (u64_lt h)
  rw [Nat.pow_succ] at this
  exact Nat.div_lt_of_lt_mul (by unfold dg; omega)
/-- digits of the code -/
theorem digits_eq {n : Nat} (h : n < 18446744073709551616) : max ((Lib.bitLen n + 6) / 7) 1 = dg n + 1 := by
  have hlo := dgF_lo 9 n
  have hhi := dgF_hi 9 n (u64_lt h)
  show _ = dgF 9 n + 1
  generalize dgF 9 n = d at *
  have e : ∀ k, (128 : Nat) ^ k = 2 ^ (7 * k) := fun k => by rw [Nat.pow_mul]
  by_cases h0 : n = 0
  · subst h0
    have : d = 0 := by
      rcases Nat.eq_zero_or_pos d with h1 | h1
      · exact h1
      · have := hlo h1
        have := Nat.pow_pos (n := d) (show 0 < 128 by omega)
        omega
    subst this
    decide
  · obtain ⟨b1, b2, b3⟩ := Lib.bitLenAux_bounds 64 n (by simpa using h) h0
    show max ((Lib.bitLenAux 64 n + 6) / 7) 1 = d + 1
    generalize Lib.bitLenAux 64 n = b at *
    rw [e] at hhi
    have c1 : b - 1 < 7 * (d + 1) := (Nat.pow_lt_pow_iff_right (show 1 < 2 by omega)).1 (Nat.lt_of_le_of_lt b2 hhi)
    by_cases hd : 1 ≤ d
    · have h1 := hlo hd
      rw [e] at h1
      have c2 : 7 * d < b := (Nat.pow_lt_pow_iff_right (show 1 < 2 by omega)).1 (Nat.lt_of_le_of_lt h1 b3)
      omega
    · omega
/-- the value of digits -/
def vl : List Int → Int
  | [] => 0
  | c :: r => c % 128 + 128 * vl r
theorem vl_uvF : ∀ k n, n < 128 ^ (k + 1) → vl (uvF k n) = n
  | 0, n, h => by
    simp only [uvF, vl]
    simp at h
    omega
  | k + 1, n, h => by
    unfold uvF
    split
    · simp only [vl]; omega
    · have h1 : n / 128 < 128 ^ (k + 1) := by rw [Nat.pow_succ] at h; omega
      simp only [vl]
      rw [vl_uvF k _ h1]
      omega
theorem vl_uv {n : Nat} (h : n < 18446744073709551616) : vl (uv n) = n := vl_uvF 9 n (u64_lt h)
theorem uvF_u8 : ∀ k n, n < 128 ^ (k + 1) → U8 (uvF k n)
  | 0, n, h => U8.cons (by simp at h; omega) U8.nil
  | k + 1, n, h => by
    unfold uvF
    split
    · exact U8.cons (by omega) U8.nil
    · exact U8.cons (by omega) (uvF_u8 k _ (by rw [Nat.pow_succ] at h; omega))
theorem uv_u8 {n : Nat} (h : n < 18446744073709551616) : U8 (uv n) := uvF_u8 9 n (u64_lt h)
/-- the first that is no digit with more behind it -/
def fi : List Int → Nat
  | [] => 0
  | c :: r => if c < 128 then 0 else fi r + 1
theorem fi_le : ∀ l, fi l ≤ l.length
  | [] => Nat.le_refl _
  | c :: r => by
    unfold fi
    split
    · omega
    · have := fi_le r
      simp; omega
theorem fi_uvF : ∀ k n r, n < 128 ^ (k + 1) → fi (uvF k n ++ r) = dgF k n
  | 0, n, r, h => by
    simp at h
    simp only [uvF, dgF, List.singleton_append, fi]
    rw [if_pos (by omega)]
  | k + 1, n, r, h => by
    unfold uvF dgF
    split
    · simp only [List.singleton_append, fi]
      rw [if_pos (by omega)]
    · rw [List.cons_append]
      simp only [fi]
      rw [if_neg (by omega), fi_uvF k _ r (by rw [Nat.pow_succ] at h; omega)]
theorem fi_uv {n : Nat} (h : n < 18446744073709551616) (r : List Int) : fi (uv n ++ r) = dg n := fi_uvF 9 n r (u64_lt h)
/-- all of the first ones have more behind them -/
theorem fi_more : ∀ (l : List Int) i, i < fi l → 128 ≤ l.getD i 0
  | [], i, h => by simp [fi] at h
  | c :: r, i, h => by
    unfold fi at h
    split at h
    · omega
    · cases i with
      | zero => rw [List.getD_cons_zero]; omega
      | succ i => rw [List.getD_cons_succ]; exact fi_more r i (by omega)
theorem fi_less : ∀ (l : List Int), fi l < l.length → l.getD (fi l) 0 < 128
  | [], h => by simp at h
  | c :: r, h => by
    unfold fi at h ⊢
    split
    · rw [List.getD_cons_zero]; assumption
    · rename_i h1
      rw [if_neg h1, List.length_cons] at h
      rw [List.getD_cons_succ]
      exact fi_less r (by omega)
/-- what GetUint tells of what is left -/
def guE (l : List Int) : Int :=
  if fi l = l.length then (if l.length < 10 then 10 else 11)
  else if 10 ≤ fi l ∨ (fi l = 9 ∧ 1 < l.getD (fi l) 0) ∨ (0 < fi l ∧ l.getD (fi l) 0 = 0) then 11 else 0
def guN (l : List Int) : Int := vl (l.take (fi l + 1))
theorem take_of_append {a r : List Int} : (a ++ r).take a.length = a := by simp
theorem getD_append_left {a r : List Int} {i : Nat} (h : i < a.length) : (a ++ r).getD i 0 = a.getD i 0 := by
  simp [List.getD_eq_getElem?_getD, List.getElem?_append_left h]
/-- what was written down is read -/
theorem gu_uv {n : Nat} (h : n < 18446744073709551616) (r : List Int) : guE (uv n ++ r) = 0 ∧ guN (uv n ++ r) = n ∧ fi (uv n ++ r) + 1 = (uv n).length := by
  have h1 := fi_uv h r
  have hl := uv_length n
  refine ⟨?_, ?_, by rw [h1, hl]⟩
  · unfold guE
    rw [h1, getD_append_left (by omega), uv_last]
    rw [if_neg (by rw [List.length_append]; omega), if_neg]
    have hle := dg_le n
    rintro (h2 | ⟨h2, h3⟩ | ⟨h2, h3⟩)
    · omega
    · rw [h2] at h3
      have : n / 128 ^ 9 < 2 := Nat.div_lt_of_lt_mul (by omega)
      omega
    · have := dgF_lo 9 n h2
      have hp : 0 < n / 128 ^ dg n := Nat.div_pos this (Nat.pow_pos (by omega))
      omega
  · unfold guN
    rw [h1, ← hl, take_of_append, vl_uv h]
/-- the beginning of what was written down wants more -/
theorem gu_cut {n k : Nat} (h : n < 18446744073709551616) (hk : k < (uv n).length) : guE ((uv n).take k) = 10 := by
  have hl := uv_length n
  have hle := dg_le n
  have hlen : ((uv n).take k).length = k := by rw [List.length_take]; omega
  have : fi ((uv n).take k) = k := by
    have h1 := fi_le ((uv n).take k)
    rw [hlen] at h1
    rcases Nat.lt_or_ge (fi ((uv n).take k)) k with h2 | h2
    · have h3 := fi_less ((uv n).take k) (by omega)
      rw [List.getD_eq_getElem?_getD, List.getElem?_take_of_lt h2, ← List.getD_eq_getElem?_getD, uv_get (by omega)] at h3
      omega
    · omega
  unfold guE
  rw [this, hlen, if_pos rfl, if_pos (by omega)]
theorem vl_lo : ∀ l, 0 ≤ vl l
  | [] => by simp [vl]
  | c :: r => by
    have := vl_lo r
    simp only [vl]; omega
theorem vl_hi : ∀ l, vl l < 128 ^ l.length
  | [] => by simp [vl]
  | c :: r => by
    have := vl_hi r
    simp only [vl, List.length_cons]
    rw [Int.pow_succ]; omega
/-- digits that are right are those of their value -/
theorem uvF_of : ∀ (k : Nat) (l : List Int), U8 l → fi l < l.length → fi l ≤ k → (0 < fi l → l.getD (fi l) 0 ≠ 0) → uvF k (vl (l.take (fi l + 1))).toNat = l.take (fi l + 1)
  | k, [], _, h, _, _ => by simp at h
  | k, c :: r, hu, h, hk, h0 => by
    have hc := hu.head
    unfold fi at h hk h0 ⊢
    by_cases h1 : c < 128
    · rw [if_pos h1] at h hk h0 ⊢
      simp only [Nat.zero_add, List.take_succ_cons, List.take_zero, vl]
      have e : (c % 128 + 128 * 0).toNat = c.toNat := by omega
      rw [e]
      cases k with
      | zero => simp only [uvF]; congr 1; omega
      | succ k => unfold uvF; rw [if_pos (by omega)]; congr 1; omega
    · rw [if_neg h1] at h hk h0 ⊢
      rw [List.length_cons] at h
      cases k with
      | zero => omega
      | succ k =>
        rw [List.take_succ_cons]
        simp only [vl]
        have hv := vl_lo (r.take (fi r + 1))
        have h0' := h0 (by omega)
        rw [List.getD_cons_succ] at h0'
        have ih := uvF_of k r hu.tail (by omega) (by omega) (fun _ => h0')
        have hpos : 1 ≤ vl (r.take (fi r + 1)) := by
          rcases Int.lt_or_le 0 (vl (r.take (fi r + 1))) with h2 | h2
          · omega
          · exfalso
            have e : vl (r.take (fi r + 1)) = 0 := by omega
            rw [e] at ih
            have e2 : uvF k (0 : Int).toNat = [0] := by cases k <;> rfl
            rw [e2] at ih
            have e3 : (r.take (fi r + 1)).getD (fi r) 0 = r.getD (fi r) 0 := by
              rw [List.getD_eq_getElem?_getD, List.getElem?_take_of_lt (by omega), ← List.getD_eq_getElem?_getD]
            rw [← ih] at e3
            have e4 : ([0] : List Int).getD (fi r) 0 = 0 := by cases fi r <;> rfl
            rw [e4] at e3
            exact h0' e3.symm
        have hd : (c % 128 + 128 * vl (r.take (fi r + 1))).toNat / 128 = (vl (r.take (fi r + 1))).toNat := by omega
        unfold uvF
        rw [if_neg (by omega), hd, ih]
        congr 1; omega
/-- what is read is what was written down -/
theorem gu_back {l : List Int} (hu : U8 l) (h : guE l = 0) : fi l < l.length ∧ fi l ≤ 9 ∧ 0 ≤ guN l ∧ guN l < 18446744073709551616 ∧ uv (guN l).toNat = l.take (fi l + 1) := by
  unfold guE at h
  split at h
  · split at h <;> omega
  · rename_i h1
    split at h
    · omega
    · rename_i h2
      have hle := fi_le l
      have h3 : fi l < l.length := by omega
      have h4 : fi l ≤ 9 := by omega
      have key := uvF_of 9 l hu h3 h4 (fun h5 h6 => h2 (.inr (.inr ⟨h5, h6⟩)))
      refine ⟨h3, h4, vl_lo _, ?_, key⟩
      unfold guN
      rcases Nat.lt_or_ge (fi l) 9 with h5 | h5
      · have h6 := vl_hi (l.take (fi l + 1))
        have h7 : (l.take (fi l + 1)).length = fi l + 1 := by rw [List.length_take]; omega
        rw [h7] at h6
        have h8 : (128 : Int) ^ (fi l + 1) ≤ 128 ^ 9 := by
          have := Nat.pow_le_pow_right (show 0 < 128 by omega) (show fi l + 1 ≤ 9 by omega)
          exact_mod_cast this
        have : (128 : Int) ^ 9 < 18446744073709551616 := by decide
        omega
      · have h6 : fi l = 9 := by omega
        have h7 : l.getD (fi l) 0 ≤ 1 := by
          rcases Int.lt_or_le 1 (l.getD (fi l) 0) with h8 | h8
          · exact absurd (.inr (.inl ⟨h6, h8⟩)) h2
          · exact h8
        rw [h6] at h7 h3 ⊢
        have e : l.take (9 + 1) = l.take 9 ++ [l.getD 9 0] := by
          rw [List.take_succ_eq_append_getElem h3, List.getD_eq_getElem?_getD, List.getElem?_eq_getElem h3]; rfl
        have ap : ∀ (a : List Int) (x : Int), vl (a ++ [x]) = vl a + 128 ^ a.length * (x % 128) := by
          intro a x
          induction a with
          | nil => simp [vl]
          | cons c r ih => simp only [List.cons_append, vl, List.length_cons]; rw [ih, Int.pow_succ, Int.mul_add, Int.mul_comm ((128 : Int) ^ r.length) 128, Int.mul_assoc]; omega
        rw [e, ap]
        have h8 := vl_hi (l.take 9)
        have h9 : (l.take 9).length = 9 := by rw [List.length_take]; omega
        rw [h9] at h8 ⊢
        have h10 := hu.get 9
        have : (128 : Int) ^ 9 = 9223372036854775808 := by decide
        rw [this] at h8 ⊢
        have h11 : l.getD 9 0 % 128 ≤ 1 := by omega
        omega
end Go.Proofs.Ytiapoalkkhpmlaa

/-
  bytes: a word of four bytes; joins of numbers.
-/
namespace Go.Proofs.Ytiapoalkkhpmlaa
open Go.RowKit
theorem wraps_u32 (n : Int) (h₀ : 0 ≤ n) (h₁ : n < 2 ^ 32) : IntKind.u32.wrap n = n := by rw [IntKind.wrap_u32]; omega
theorem wraps_u64 (n : Int) (h₀ : 0 ≤ n) (h₁ : n < 2 ^ 64) : IntKind.u64.wrap n = n := by
  have e : IntKind.u64.wrap n = n % 18446744073709551616 := by simp [IntKind.wrap, IntKind.bits, IntKind.signed]
  rw [e]; omega
theorem u32_join (i : Nat) (x y : Int) (h0 : 0 ≤ x) (h1 : x < 4294967296) (h2 : x % 2 ^ i = 0) (h3 : 0 ≤ y) (h4 : y < 2 ^ i ∧ y < 4294967296) : bits .or .u32 x y = x + y :=
  bits_join .u32 32 (by decide) wraps_u32 i x y h0 h2 (by simpa using h1) h3 h4.1 (by simpa using h4.2)
theorem u64_join (i : Nat) (x y : Int) (h0 : 0 ≤ x) (h1 : x < 18446744073709551616) (h2 : x % 2 ^ i = 0) (h3 : 0 ≤ y) (h4 : y < 2 ^ i ∧ y < 18446744073709551616) : bits .or .u64 x y = x + y :=
  bits_join .u64 64 (by decide) wraps_u64 i x y h0 h2 (by simpa using h1) h3 h4.1 (by simpa using h4.2)
/-- a word's value -/
def wv (l : List Int) : Int := l.getD 0 0 * 16777216 + l.getD 1 0 * 65536 + l.getD 2 0 * 256 + l.getD 3 0
section
variable {w : World} {A : Option Addr} {cp : Nat} {xs : List Int}
theorem word_is (a b c d : Int) (l : List Int) (u : U8 [a, b, c, d]) (hr : Rd w A (ints .u8 (a :: b :: c :: d :: l))) (n : Nat) (hn : 4 ≤ n) :
    Calls Try.prog 72 #[.slice A n cp] w fun e w' => e = .returned (.int .u32 (a * 16777216 + b * 65536 + c * 256 + d)) ∧ ∃ m, w' = w.drewN m := by
  obtain ⟨b0, o0, rfl, hc⟩ := hr (by simp [ints])
  have c0 := hc 0 (.int .u8 a) (by simp [ints])
  have c1 := hc 1 (.int .u8 b) (by simp [ints])
  have c2 := hc 2 (.int .u8 c) (by simp [ints])
  have c3 := hc 3 (.int .u8 d) (by simp [ints])
  rw [Nat.add_zero] at c0
  have k0 : 0 < n := by omega
  have k1 : 1 < n := by omega
  have k2 : 2 < n := by omega
  have k3 : 3 < n := by omega
  have n0 : (0 : Int) < n := by omega
  have n1 : (1 : Int) < n := by omega
  have n2 : (2 : Int) < n := by omega
  have n3 : (3 : Int) < n := by omega
  clear hc hn
  go_enter Try.func72, Try.ntmps72
  go_wp2
  go_quiet (fail)
  go_wp2
  go_ret
  refine ⟨ret_int ?_, _, rfl⟩
  have ua := u a (by simp); have ub := u b (by simp); have uc := u c (by simp); have ud := u d (by simp)
  rw [show a % 4294967296 * 16777216 % 4294967296 = a * 16777216 from by omega, show b % 4294967296 * 65536 % 4294967296 = b * 65536 from by omega, show c % 4294967296 * 256 % 4294967296 = c * 256 from by omega, show d % 4294967296 = d from by omega]
  have e1 := u32_join 24 (a * 16777216) (b * 65536) (by omega) (by omega) (by omega) (by omega) (by omega)
  have e2 := u32_join 16 (a * 16777216 + b * 65536) (c * 256) (by omega) (by omega) (by omega) (by omega) (by omega)
  have e3 := u32_join 8 (a * 16777216 + b * 65536 + c * 256) d (by omega) (by omega) (by omega) (by omega) (by omega)
  rw [e1, e2, e3]
end
end Go.Proofs.Ytiapoalkkhpmlaa

/-
  Rows of bytes: one that is read, one of a call's own; bytes more behind an own row.
-/
namespace Go.Proofs.Ytiapoalkkhpmlaa
open Go.RowKit
/-- bytes at a value -/
def By (w : World) (v : Value) (xs : List Int) : Prop := ∃ A c, v = .slice A xs.length c ∧ Rd w A (ints .u8 xs) ∧ (A = none → c = 0) ∧ xs.length ≤ c ∧ (c : Int) ≤ 9223372036854775807 ∧ U8 xs
/-- bytes in a row of one's own -/
def Ob (w : World) (B : Nat) (v : Value) (xs : List Int) : Prop := w.ownsRow B 5 1 v xs.length (ints .u8 xs) ∧ U8 xs
/-- the block of a value -/
def RowB (v : Value) : Nat → Prop := fun k => v.ownBlock = some k
theorem By.u {w : World} {v : Value} {xs : List Int} (h : By w v xs) : U8 xs := by obtain ⟨_, _, _, _, _, _, _, h⟩ := h; exact h
theorem By.frm1 {S : Nat → Prop} {w w' : World} {v : Value} {xs : List Int} (h : By w v xs) (hf : Frm S w w') (hn : xs ≠ [] → ∀ k, RowB v k → ¬ S k) : By w' v xs := by
  obtain ⟨A, c, rfl, h1, h2, h3, h4, h5⟩ := h
  refine ⟨A, c, rfl, ?_, h2, h3, h4, h5⟩
  by_cases e : xs = []
  · rw [e]; exact Rd.nil _ _
  · exact h1.frm hf (fun a ha => hn e _ (by subst ha; rfl))
theorem By.frm {S : Nat → Prop} {w w' : World} {v : Value} {xs : List Int} (h : By w v xs) (hf : Frm S w w') (hn : ∀ k, RowB v k → ¬ S k) : By w' v xs := h.frm1 hf (fun _ => hn)
theorem By.frm0 {w w' : World} {v : Value} {xs : List Int} (h : By w v xs) (hf : Frm NoB w w') : By w' v xs := h.frm hf (fun _ _ e => e)
theorem By.nil (w : World) : By w (.slice none 0 0) [] := ⟨none, 0, rfl, Rd.nil _ _, fun _ => rfl, Nat.le_refl _, by omega, U8.nil⟩
theorem Ob.nil (w : World) (B : Nat) : Ob w B (.slice none 0 0) [] := ⟨World.ownsRow_nil w _ _ _, U8.nil⟩
theorem Ob.by_ {w : World} {B : Nat} {v : Value} {xs : List Int} (h : Ob w B v xs) : By w v xs := by
  obtain ⟨h1, h2⟩ := h
  rcases h1.2 with ⟨rfl, h3⟩ | ⟨g, cap, cur, rfl, h4, h5, h6, h7, h8, h9⟩
  · have : xs = [] := List.eq_nil_of_length_eq_zero h3
    subst this; exact By.nil w
  · refine ⟨_, cap, rfl, fun _ => ⟨g, 0, rfl, fun i v hv => ?_⟩, (fun e => by cases e), h6, by simp only [maxLen] at h7; omega, h2⟩
    have hi : i < (ints .u8 xs).length := (List.getElem?_eq_some_iff.1 hv).1
    have := h1.cellAt i (by rw [← h1.1]; exact hi)
    rw [Nat.zero_add, this]; exact hv
theorem Ob.frm {S : Nat → Prop} {w w' : World} {B : Nat} {v : Value} {xs : List Int} (h : Ob w B v xs) (hf : Frm S w w') (hn : ∀ k, RowB v k → ¬ S k) : Ob w' B v xs := ⟨own_frm h.1 hf hn, h.2⟩
theorem Ob.frm0 {w w' : World} {B : Nat} {v : Value} {xs : List Int} (h : Ob w B v xs) (hf : Frm NoB w w') : Ob w' B v xs := h.frm hf (fun _ _ e => e)
theorem Ob.lo {w : World} {B : Nat} {v : Value} {xs : List Int} (h : Ob w B v xs) {k : Nat} (hk : RowB v k) : B ≤ k ∧ k < w.heap.size := h.1.lt k hk
theorem Ob.lower {w : World} {B B' : Nat} {v : Value} {xs : List Int} (h : Ob w B v xs) (hB : B' ≤ B) : Ob w B' v xs := by
  refine ⟨⟨h.1.1, ?_⟩, h.2⟩
  rcases h.1.2 with h1 | ⟨g, cap, cur, h1, h2, h3⟩
  · exact .inl h1
  · exact .inr ⟨g, cap, cur, h1, by omega, h3⟩
theorem By.take {w : World} {A : Option Addr} {n c : Nat} {xs : List Int} (h : By w (.slice A n c) xs) {k : Nat} (hk : k ≤ xs.length) : By w (.slice A k c) (xs.take k) := by
  obtain ⟨A', c', e, h1, h2, h3, h4, h5⟩ := h
  injection e with e1 e2 e3
  subst e1 e3
  have hl : (xs.take k).length = k := by rw [List.length_take]; omega
  refine ⟨A, c, by rw [hl], fun hne => ?_, h2, by omega, h4, h5.take k⟩
  obtain ⟨b, o, e, hc⟩ := h1 (ints_ne (by intro e; subst e; simp [ints] at hne))
  refine ⟨b, o, e, fun i v hi => hc i v ?_⟩
  have hik : i < k := by have := (List.getElem?_eq_some_iff.1 hi).1; rwa [ints_length, hl] at this
  rw [← hi]
  simp only [ints, List.map_take]
  rw [List.getElem?_take_of_lt hik]
/-- of a block the first n cells are as they were -/
def Pfx (w w' : World) (g n : Nat) : Prop := ∀ cur t, Blk w g t cur → ∃ cur', Blk w' g t cur' ∧ cur'.size = cur.size ∧ cur'.toList.take n = cur.toList.take n
theorem Pfx.refl (w : World) (g n : Nat) : Pfx w w g n := fun cur t h => ⟨cur, h, rfl, rfl⟩
theorem Pfx.of_frm {S : Nat → Prop} {w w' : World} {g n : Nat} (hf : Frm S w w') (hg : ¬ S g) : Pfx w w' g n := fun cur t h => ⟨cur, h.frm hf hg, rfl, rfl⟩
theorem Pfx.trans {w w1 w2 : World} {g n m : Nat} (h : Pfx w w1 g n) (k : Pfx w1 w2 g m) (hn : n ≤ m) : Pfx w w2 g n := fun cur t hc => by
  obtain ⟨c1, b1, s1, t1⟩ := h cur t hc
  obtain ⟨c2, b2, s2, t2⟩ := k c1 t b1
  refine ⟨c2, b2, s2.trans s1, ?_⟩
  have e := congrArg (List.take n) t2
  rw [List.take_take, List.take_take, Nat.min_eq_left hn] at e
  exact e.trans t1
/-- what an append came to: the row, whose block it is; and the old row is as it was -/
structure Grew (w : World) (B : Nat) (sv v' : Value) (xs : List Int) (w' : World) : Prop where
  o : Ob w' B v' xs
  f : Frm (RowB sv) w w'
  k : ∀ k, RowB v' k → RowB sv k ∨ w.heap.size ≤ k
  p : ∀ g n c, sv = .slice (some ⟨g, 0, none⟩) n c → g < w.heap.size → Pfx w w' g n ∧ ∀ n' c', v' = .slice (some ⟨g, 0, none⟩) n' c' → n ≤ n'
theorem Ob.form {w : World} {B : Nat} {v : Value} {xs : List Int} (h : Ob w B v xs) : v = .slice none 0 0 ∨ ∃ g n c, v = .slice (some ⟨g, 0, none⟩) n c ∧ g < w.heap.size := by
  rcases h.1.2 with ⟨h1, _⟩ | ⟨g, cap, cur, h1, _⟩
  · exact .inl h1
  · exact .inr ⟨g, _, cap, h1, (h.1.lt g (by rw [h1]; rfl)).2⟩
theorem Grew.trans {w w1 w2 : World} {B : Nat} {sv v1 v2 : Value} {xs ys : List Int} (h : Grew w B sv v1 xs w1) (g : Grew w1 B v1 v2 ys w2) : Grew w B sv v2 ys w2 :=
  ⟨g.o, h.f.then_ g.f (fun i hi hk => by
    rcases h.k i hk with h1 | h1
    · exact h1
    · omega), fun k hk => by
    rcases g.k k hk with h1 | h1
    · exact h.k k h1
    · have := h.f.size; right; omega, fun b n c e hb => by
    obtain ⟨p1, l1⟩ := h.p b n c e hb
    have hs := h.f.size
    have far : ¬ RowB v1 b → Pfx w w2 b n ∧ ∀ n' c', v2 = .slice (some ⟨b, 0, none⟩) n' c' → n ≤ n' := fun hn =>
      ⟨p1.trans (Pfx.of_frm g.f hn) (Nat.le_refl n), fun n' c' e2 => by
        rcases g.k b (by rw [e2]; rfl) with h1 | h1
        · exact absurd h1 hn
        · omega⟩
    rcases h.o.form with h1 | ⟨b1, n1, c1, h1, h2⟩
    · exact far (by rw [h1]; intro e; cases e)
    · by_cases hb1 : b1 = b
      · subst hb1
        obtain ⟨p2, l2⟩ := g.p _ _ _ h1 h2
        have := l1 n1 c1 h1
        exact ⟨p1.trans p2 this, fun n' c' e2 => by have := l2 n' c' e2; omega⟩
      · exact far (by rw [h1]; intro e; injection e with e; exact hb1 e)⟩
theorem Grew.frm {w w1 w2 : World} {B : Nat} {sv v1 : Value} {xs : List Int} (h : Grew w B sv v1 xs w1) (hf : Frm NoB w1 w2) : Grew w B sv v1 xs w2 :=
  ⟨h.o.frm0 hf, h.f.trans (hf.mono (fun _ _ e => e.elim)), h.k, fun b n c e hb => ⟨(h.p b n c e hb).1.trans (Pfx.of_frm hf (fun e => e)) (Nat.le_refl n), (h.p b n c e hb).2⟩⟩
theorem Grew.refl {w : World} {B : Nat} {v : Value} {xs : List Int} (h : Ob w B v xs) : Grew w B v v xs w :=
  ⟨h, Frm.refl _ _, fun _ hk => .inl hk, fun b n c e _ => ⟨Pfx.refl _ _ _, fun n' c' e2 => by rw [e] at e2; injection e2 with e3 e4 e5; omega⟩⟩
theorem Grew.pre {w0 w w' : World} {B : Nat} {sv v' : Value} {xs : List Int} (hf : Frm NoB w0 w) (h : Grew w B sv v' xs w') : Grew w0 B sv v' xs w' :=
  ⟨h.o, (hf.mono (fun _ _ e => e.elim)).trans h.f, fun k hk => by
    rcases h.k k hk with h1 | h1
    · exact .inl h1
    · have := hf.size; right; omega, fun b n c e hb => by
    obtain ⟨p1, l1⟩ := h.p b n c e (by have := hf.size; omega)
    exact ⟨(Pfx.of_frm hf (fun e => e)).trans p1 (Nat.le_refl n), l1⟩⟩
/-- the old row is as it was -/
theorem Grew.old {w w' : World} {B : Nat} {sv v' : Value} {xs ys : List Int} (h : Grew w B sv v' ys w') (ho : Ob w B sv xs) : Ob w' B sv xs := by
  refine ⟨⟨ho.1.1, ?_⟩, ho.2⟩
  rcases ho.1.2 with h1 | ⟨g, cap, cur, h1, h2, h3, h4, h5, h6, h7⟩
  · exact .inl h1
  · have hlt := (ho.1.lt g (by rw [h1]; rfl)).2
    obtain ⟨p, _⟩ := h.p g _ cap h1 hlt
    obtain ⟨c', b', s', t'⟩ := p cur _ h3
    refine .inr ⟨g, cap, c', h1, h2, b', h4, h5, s'.trans h6, ?_⟩
    rw [Nat.mul_one] at h7 ⊢
    exact t'.trans h7
/-- behind a row of none all is new -/
theorem Grew.new {w w' : World} {B : Nat} {v' : Value} {xs : List Int} (h : Grew w B (.slice none 0 0) v' xs w') : Frm NoB w w' := h.f.mono (fun k _ e => by cases e)
/-- nothing below B is another one -/
theorem Grew.below {w0 w w' : World} {B : Nat} {sv v' : Value} {xs ys : List Int} (h : Grew w B sv v' xs w') (ho : Ob w B sv ys) (hf : Frm NoB w0 w) (hB : w0.heap.size ≤ B) : Frm NoB w0 w' :=
  hf.then_ h.f (fun i hi hk => by have := (ho.lo hk).1; omega)
theorem uint8_info : (Try.prog.info? 5).map (fun i => (i.zero, i.size, i.bytes)) = some (some (.int .u8 0), 1, 1) := by kernel_rfl
set_option maxRecDepth 100000 in
/-- bytes more -/
theorem append_bytes {w : World} {ops : Array Oper} {rest : List Oper} {o : Oper} {a : Act} {Q : Exit → Act → World → Prop} (hgd : o.guard = none) (s x : Operand)
    (ho : o.op = .call { callee := .builtin .append, args := #[s, x], argTypes := #[28, 28] })
    (base : Nat) (v vx : Value) (xs ys : List Int) (hs : a.eval s = v) (hx : a.eval x = vx) (hown : Ob w base v xs) (hy : By w vx ys) (hl : xs.length + ys.length ≤ 16777216) (hbase : base ≤ w.heap.size)
    (h : ∀ v' w', Grew w base v v' (xs ++ ys) w' → wpList Try.prog ops Q rest (a.put o.dst v') w') :
    wpList Try.prog ops Q (o :: rest) a w := by
  obtain ⟨i0, hi0, hz0, hz1, hz2⟩ := info_parts uint8_info
  obtain ⟨A, c, rfl, h1, h2, h3, h4, h5⟩ := hy
  cases A with
  | none =>
    obtain rfl := h2 rfl
    have e : ys = [] := List.eq_nil_of_length_eq_zero (by omega)
    subst e
    refine wpList_append_own_none hgd s x 28 ho base 5 i0 1 Try.underlying28 hi0 v _ _ hs hown.1 hx ?_
    refine h v w ?_
    rw [List.append_nil]
    exact Grew.refl hown
  | some ad =>
    have hnews : ∀ j u, (ints .u8 ys)[j]? = some u → w.cell? (ad.add j) = some u := fun j u hu => by
      obtain ⟨b, o1, e, hc⟩ := h1 (fun e => by rw [e] at hu; cases hu)
      injection e with e
      subst e
      rw [addr_add]
      exact hc j u hu
    have hone : ∀ u ∈ ints .u8 ys, u.oneCell' = true := fun u hu => by
      unfold ints at hu
      obtain ⟨y, _, rfl⟩ := List.mem_map.1 hu
      rfl
    rcases hown.1.2 with ⟨e1, e2⟩ | ⟨g, cap, cur, e1, e2, e3, e4, e5, e6, e7⟩
    · refine wpList_append_own_at w hgd s x 28 ho base 5 i0 _ 1 1 Try.underlying28 hi0 hz0 hz1 hz2 rfl (by omega) v xs.length (ints .u8 xs) hs hown.1 ad ys.length c (ints .u8 ys) hx (by rw [ints_length, Nat.mul_one]) hnews hone (by simp only [maxLen]; omega) (by omega) hbase (fun v' w' k1 k2 _ k3 => h v' w' ⟨⟨?_, hown.2.append h5⟩, ?_, fun k hk => ?_, fun g n c e hb => by rw [e1] at e; cases e⟩)
      · rw [List.length_append, ints_append]; exact k1
      · exact (Frm.refl _ w).grown k2 (fun g hg _ => hg)
      · rcases k3 with k3 | k3
        · exact .inl (by unfold RowB at hk ⊢; rw [← k3]; exact hk)
        · right
          unfold RowB at hk
          rw [k3] at hk
          injection hk with hk
          omega
    · subst e1
      have hgl := (hown.1.lt g rfl).2
      rw [Nat.mul_one] at e6 e7
      have hwr : ∀ v' w', (Builtin.append_ #[28, 28] o.type #[.slice (some ⟨g, 0, none⟩) xs.length cap, .slice (some ad) ys.length c]).run Try.prog w = .ok v' w' → Grew w base (.slice (some ⟨g, 0, none⟩) xs.length cap) v' (xs ++ ys) w' → wpList Try.prog ops Q (o :: rest) a w := fun v' w' hr hg => by
        refine wpList_plain hgd fun K hK => ?_
        unfold Oper.wp execOp
        simp only [ho, resolve, invoke, builtin, Sem.run_bind, Sem.run_pure, Result.andThen_ok, List.map_toArray, List.map_cons, List.map_nil, hs, hx, hr]
        exact hK _ _ (h v' w' hg)
      by_cases hroom : xs.length + ys.length ≤ cap
      · have hr := run_append_room (P := Try.prog) w 28 o.type 5 i0 Try.underlying28 hi0 g xs.length cap cur e3 ad ys.length c (ints .u8 ys) (by rw [ints_length, hz1, Nat.mul_one]) hnews hone hroom (by rw [ints_length, hz1, e6]; omega)
        rw [hz1, Nat.mul_one, ints_length] at hr
        have hb := Blk.setRow (w := w) e3 (cur.toList.take xs.length ++ ints .u8 ys ++ cur.toList.drop (xs.length + ys.length)).toArray
        have hfr : Frm (RowB (.slice (some ⟨g, 0, none⟩) xs.length cap)) w (w.setRow g (cur.toList.take xs.length ++ ints .u8 ys ++ cur.toList.drop (xs.length + ys.length)).toArray) := (Frm.refl _ w).setRow (.inl (by rfl)) _
        have hcl : cur.toList.length = cap := by rw [Array.length_toList, e6]
        refine hwr _ _ hr ⟨⟨⟨by rw [ints_length, Nat.mul_one], .inr ⟨g, cap, _, by rw [List.length_append], e2, hb, by rw [List.length_append]; exact hroom, e5, ?_, ?_⟩⟩, hown.2.append h5⟩, hfr, fun k hk => .inl hk, fun g' n c e _ => ?_⟩
        · rw [List.size_toArray, List.length_append, List.length_append, List.length_take, List.length_drop, ints_length, hcl]; omega
        · rw [Nat.mul_one, e7, ints_append]
          have hl3 : (xs ++ ys).length = (ints IntKind.u8 xs ++ ints IntKind.u8 ys).length := by rw [List.length_append, List.length_append, ints_length, ints_length]
          rw [hl3]; exact List.take_left
        · injection e with e9 e10 e11
          injection e9 with e9
          injection e9 with e9
          subst e9 e10 e11
          refine ⟨fun cur2 t2 hc2 => ?_, fun n' c' e => by injection e with _ e12 _; omega⟩
          have hcc : cur2 = cur ∧ t2 = 5 := by
            have q := hc2.symm.trans e3
            injection q with q
            injection q with q1 q2
            exact ⟨q1, q2⟩
          obtain ⟨rfl, rfl⟩ := hcc
          refine ⟨_, hb, ?_, ?_⟩
          · rw [List.size_toArray, List.length_append, List.length_append, List.length_take, List.length_drop, ints_length, hcl, e6]; omega
          · show List.take xs.length (cur2.toList.take xs.length ++ ints .u8 ys ++ cur2.toList.drop (xs.length + ys.length)) = _
            rw [List.append_assoc, List.take_append_of_le_length (by rw [List.length_take, hcl]; omega), List.take_take, Nat.min_self]
      · have holds : ∀ j u, (ints .u8 xs)[j]? = some u → w.cell? ((⟨g, 0, none⟩ : Addr).add j) = some u := hown.1.cells (g := g) rfl
        obtain ⟨v', w', hr, k1, k2⟩ := run_append_arg_grows (P := Try.prog) w 28 o.type 5 i0 _ 1 1 Try.underlying28 hi0 hz0 hz1 hz2 rfl (by omega) ⟨g, 0, none⟩ xs.length cap (ints .u8 xs) (by rw [ints_length, Nat.mul_one]) holds ad ys.length c (ints .u8 ys) (by rw [ints_length, Nat.mul_one]) hnews (by omega) (by simp only [maxLen]; omega) (by omega)
        have ho' : Ob w' w.heap.size v' (xs ++ ys) := ⟨by rw [List.length_append, ints_append]; exact k1, hown.2.append h5⟩
        have hf : Frm NoB w w' := (Frm.refl _ w).grown k2 (fun g hg _ => by cases hg)
        refine hwr _ _ hr ⟨ho'.lower hbase, hf.mono (fun _ _ e => e.elim), fun k hk => .inr (ho'.lo hk).1, fun g' n c e hb => ⟨Pfx.of_frm hf (fun e => e), fun n' c' e2 => ?_⟩⟩
        have := (ho'.lo (k := g') (by rw [e2]; rfl)).1
        omega
/-- bytes that were just laid -/
theorem by_lit (w : World) (ys : List Int) (u : U8 ys) (hl : ys.length ≤ 16777216) (cs : Array Value) (hcs : cs = (ints .u8 ys).toArray) (n : Nat) (hn : ys.length = n) : By (w.alloc (.cells cs 5)) (.slice (some ⟨w.heap.size, 0, none⟩) n n) ys := by
  subst hcs hn
  refine ⟨_, _, rfl, fun _ => ⟨w.heap.size, 0, rfl, fun i v hv => ?_⟩, (fun e => by cases e), Nat.le_refl _, by omega, u⟩
  rw [Nat.zero_add, (Blk.new w 5 (ints .u8 ys).toArray).cell i]
  simpa using hv
end Go.Proofs.Ytiapoalkkhpmlaa

/-
  CopyBytes.
-/
namespace Go.Proofs.Ytiapoalkkhpmlaa
open Go.RowKit
theorem take_next {l : List Int} {j : Nat} (h : j < l.length) : l.take j ++ [l.getD j 0] = l.take (j + 1) := by
  rw [List.take_succ_eq_append_getElem h, List.getD_eq_getElem?_getD, List.getElem?_eq_getElem h]; rfl
section
variable {w : World} {B : Nat} {sv vx : Value} {xs ys : List Int}
def GrewPost (w : World) (B : Nat) (sv : Value) (ys : List Int) (e : Ending) (w' : World) : Prop := ∃ v', e = .returned v' ∧ Grew w B sv v' ys w'
theorem copyBytes_is (hy : By w vx ys) (hl : ys.length ≤ 16777216) :
    Calls Try.prog 10 #[vx] w (GrewPost w w.heap.size (.slice none 0 0) ys) := by
  have HY := hide hy
  obtain ⟨A, c, rfl, -⟩ := hy
  go_enter Try.func10, Try.ntmps10
  go_wp2_with (at_builtin; refine append_bytes rfl (.tmp 4) (.tmp 5) rfl w.heap.size _ _ [] ys rfl rfl (Ob.nil _ _) HY.out (by simpa using hl) (Nat.le_refl _) ?_; intro v' w' hg)
  go_ret
  exact ⟨v', rfl, hg⟩
end
end Go.Proofs.Ytiapoalkkhpmlaa

/-
  Strings of bytes; SameBytes; bytes: Bytes.
-/
namespace Go.Proofs.Ytiapoalkkhpmlaa
open Go.RowKit
set_option maxRecDepth 100000 in
/-- the string of bytes -/
theorem By.string {w : World} {v : Value} {xs : List Int} (h : By w v xs) : (convert 28 9 v).run Try.prog w = .ok (.string (strOfNums xs)) w := by
  obtain ⟨A, c, rfl, hr, hz, hlc, hc, hu⟩ := h
  cases A with
  | none =>
    have h0 : xs.length = 0 := by have := hz rfl; omega
    obtain rfl : xs = [] := List.eq_nil_of_length_eq_zero h0
    exact run_convert_bytes_nil w 28 5 Try.underlying28 Try.underlying5 0 c 9 Try.underlying9
  | some a =>
    by_cases he : xs = []
    · subst he
      have hl : (loadCells a 0).run Try.prog w = .ok (([] : List Int).map (Value.int .u8)).toArray w := by
        simpa using run_loadCells_list (P := Try.prog) w a [] (fun j v hj => by cases hj)
      show (convert 28 9 (.slice (some a) 0 c)).run Try.prog w = _
      rw [run_convert_bytes_string w 28 9 5 _ 0 c Try.underlying28 Try.underlying5 Try.underlying9, run_bytesToString w a 0 c [] hl, foldl_push_bytes]
      rfl
    · obtain ⟨b, o, e, hcl⟩ := hr (ints_ne he)
      injection e with e
      subst e
      exact run_convert_bytes_arg w 28 5 Try.underlying28 Try.underlying5 b o xs.length c xs rfl (fun i hi => hcl i _ (ints_get hi)) 9 Try.underlying9
theorem byte_inj {x y : Int} (hx : 0 ≤ x ∧ x < 256) (hy : 0 ≤ y ∧ y < 256) (h : UInt8.ofNat x.toNat = UInt8.ofNat y.toNat) : x = y := by
  have := congrArg UInt8.toNat h
  simp only [UInt8.toNat_ofNat'] at this
  omega
theorem str_list (xs : List Int) : (strOfNums xs).data.toList = xs.map fun n => UInt8.ofNat n.toNat := rfl
theorem map_inj : ∀ {xs ys : List Int}, U8 xs → U8 ys → xs.map (fun n => UInt8.ofNat n.toNat) = ys.map (fun n => UInt8.ofNat n.toNat) → xs = ys
  | [], [], _, _, _ => rfl
  | [], _ :: _, _, _, h => by simp at h
  | _ :: _, [], _, _, h => by simp at h
  | x :: xs, y :: ys, hx, hy, h => by
    rw [List.map_cons, List.map_cons] at h
    injection h with h1 h2
    rw [byte_inj hx.head hy.head h1, map_inj hx.tail hy.tail h2]
theorem str_inj {xs ys : List Int} (hx : U8 xs) (hy : U8 ys) : strOfNums xs = strOfNums ys ↔ xs = ys :=
  ⟨fun h => map_inj hx hy (by have := congrArg (fun s : ByteArray => s.data.toList) h; exact this), fun h => by rw [h]⟩
theorem str_eq {xs ys : List Int} (hx : U8 xs) (hy : U8 ys) : ((strOfNums xs).toList == (strOfNums ys).toList) = decide (xs = ys) := by
  rw [Lib.strOfNums_toList, Lib.strOfNums_toList]
  by_cases h : xs = ys
  · subst h; simp
  · rw [decide_eq_false h, beq_eq_false_iff_ne]
    exact fun e => h (map_inj hx hy e)
section
variable {w : World} {v v' : Value} {xs ys : List Int}
theorem sameBytes_is (hx : By w v xs) (hy : By w v' ys) : Calls Try.prog 16 #[v, v'] w fun e w' => e = .returned (.bool (decide (xs = ys))) ∧ ∃ m, w' = w.drewN m := by
  have h1 := hx.string
  have h2 := hy.string
  have U1 := hide hx.u
  have U2 := hide hy.u
  clear hx hy
  go_enter Try.func16, Try.ntmps16
  go_wp2
  go_ret
  exact ⟨ret_bool (str_eq U1.out U2.out), 0, rfl⟩
/-- of n bytes the first j are those of a row, the others 0 -/
def rowTo (f : Nat → Int) (n j : Nat) : List Int := (List.range n).map fun i => if i < j then f i else 0
theorem rowTo_length (f : Nat → Int) (n j : Nat) : (rowTo f n j).length = n := by simp [rowTo]
theorem rowTo_all (f : Nat → Int) (n : Nat) : rowTo f n n = (List.range n).map f := by
  unfold rowTo
  apply List.map_congr_left
  intro i hi
  rw [if_pos (List.mem_range.1 hi)]
theorem rowTo_zero (f : Nat → Int) (n : Nat) : rowTo f n 0 = List.replicate n 0 := by
  unfold rowTo
  apply List.ext_getElem
  · simp
  · intro i h1 h2; simp
theorem rowTo_set (f : Nat → Int) (n j : Nat) (t : IntKind) : (ints t (rowTo f n j)).toArray.setIfInBounds j (.int t (f j)) = (ints t (rowTo f n (j + 1))).toArray := by
  apply Array.ext'
  simp only [Array.toList_setIfInBounds]
  apply List.ext_getElem
  · simp [ints, rowTo]
  · intro i h1 h2
    simp only [ints, rowTo, List.map_map, List.length_set, List.length_map, List.length_range] at h1 ⊢
    rw [List.getElem_set]
    by_cases e : j = i
    · subst e; simp
    · rw [if_neg e]
      simp only [List.getElem_map, List.getElem_range, Function.comp]
      by_cases q : i < j
      · rw [if_pos q, if_pos (by omega)]
      · rw [if_neg q, if_neg (by omega)]
/-- a byte of a word -/
def byteW (x : Int) (j : Nat) : Int := x / 2 ^ (24 - 8 * j) % 256
theorem byteW_u8 (x : Int) (j : Nat) : 0 ≤ byteW x j ∧ byteW x j < 256 := by unfold byteW; omega
/-- the first bytes of words -/
def bytesN (l : List Int) (n : Nat) : List Int := (List.range n).map fun i => byteW (l.getD (i / 4) 0) (i % 4)
theorem bytesN_length (l : List Int) (n : Nat) : (bytesN l n).length = n := by simp [bytesN]
theorem bytesN_u8 (l : List Int) (n : Nat) : U8 (bytesN l n) := fun x hx => by
  obtain ⟨i, _, rfl⟩ := List.mem_map.1 hx
  exact byteW_u8 _ _
def ByRel (w : World) (l : List Int) (n : Nat) (i : Value) (wr : World) : Prop := ∃ j : Nat, j ≤ n ∧ i = .int .i64 j ∧ Blk wr w.heap.size 5 (ints .u8 (rowTo (fun i => byteW (l.getD (i / 4) 0) (i % 4)) n j)).toArray ∧ Frm NoB w wr
/-- what Bytes tells -/
def byE (l : List Int) (n : Int) : Int := if n < 0 then 2 else if 4 * (l.length : Int) < n then 10 else 0
def BysPost (w : World) (l : List Int) (n : Int) (e : Ending) (w' : World) : Prop := ∃ v', e = .returned (.tuple #[v', .int .i64 (byE l n)]) ∧ Grew w w.heap.size (.slice none 0 0) v' (if byE l n = 0 then bytesN l n.toNat else []) w'
theorem bys_bad {l : List Int} {n k : Int} (h : byE l n = k) (hk : k ≠ 0) (w : World) : BysPost w l n (.returned (.tuple #[.slice none 0 0, .int .i64 k])) w := by
  refine ⟨.slice none 0 0, by rw [h], ?_⟩
  rw [if_neg (by rw [h]; exact hk)]
  exact Grew.refl (Ob.nil _ _)
set_option maxRecDepth 100000 in
set_option maxHeartbeats 1000000 in
theorem bytes_is (A : Option Addr) (cp : Nat) (l : List Int) (hr : Rd w A (ints .u32 l)) (hu : U32 l) (hl : l.length ≤ 16777216) (n : Int) (hn : -9223372036854775808 ≤ n ∧ n ≤ 9223372036854775807) :
    Calls Try.prog 78 #[.slice A l.length cp, .int .i64 n] w (BysPost w l n) := by
  obtain ⟨n0, n1⟩ := hn
  by_cases h1 : n < 0
  · have E : Hid (byE l n = 2) := by show _ = _; unfold byE; rw [if_pos h1]
    clear hr hu
    go_enter Try.func78, Try.ntmps78
    go_wp2
    go_ret2
    exact bys_bad E.out (by decide) _
  · by_cases h2 : 4 * (l.length : Int) < n
    · have E : Hid (byE l n = 10) := by show _ = _; unfold byE; rw [if_neg h1, if_pos h2]
      clear hr hu
      go_enter Try.func78, Try.ntmps78
      go_wp2
      go_ret2
      exact bys_bad E.out (by decide) _
    · have E : Hid (byE l n = 0) := by show _ = _; unfold byE; rw [if_neg h1, if_neg h2]
      obtain ⟨m, rfl⟩ := Int.eq_ofNat_of_zero_le (a := n) (by omega)
      have hm : m ≤ 4 * l.length := by omega
      have HM := hide hm
      have HR := hide hr
      have HU := hide hu
      have hm2 : m ≤ 67108864 := by omega
      have hm0 : 0 ≤ (m : Int) := by omega
      clear hr hu n0 n1 h2
      obtain ⟨i0, hi0, hz0, hz1, hz2⟩ := info_parts uint8_info
      go_enter Try.func78, Try.ntmps78
      go_wp2_with (at_make; refine wpList_make_row w rfl (.tmp 15) (.tmp 15) 28 rfl 5 i0 (.int .u8 0) Try.underlying28 hi0 hz0 hz1 rfl .i64 .i64 m rfl rfl (by rw [hz2]; omega) (by omega) ?_)
      have HB0 : Hid (Blk (w.alloc (.cells (madeCells #[.int .u8 0] m) 5)) w.heap.size 5 (ints .u8 (rowTo (fun i => byteW (l.getD (i / 4) 0) (i % 4)) m 0)).toArray) := by
        have h := Blk.new w 5 (madeCells #[.int .u8 0] m)
        have e : madeCells #[.int .u8 0] m = (ints .u8 (rowTo (fun i => byteW (l.getD (i / 4) 0) (i % 4)) m 0)).toArray := by
          rw [rowTo_zero]
          apply Array.ext
          · simp [madeCells, ints]
          · intro i h1 h2
            simp [madeCells, ints, Nat.mod_one]
        rw [e] at h
        rw [e]; exact h
      have HF0 := hide ((Frm.refl NoB w).alloc (.cells (madeCells #[.int .u8 0] m) 5))
      generalize w.alloc (.cells (madeCells #[.int .u8 0] m) 5) = w1 at *
      generalize hg : w.heap.size = g at *
      go_loopw [19] (fun i wr => ByRel w l m i wr) (fun i _ => m - (intOf i).toNat)
      case atStart => exact ⟨0, by omega, rfl, by rw [hg]; exact HB0.out, HF0.out⟩
      case round =>
        obtain ⟨j, hj, rfl, hB, hF⟩ := hrel
        have HF := hide hF
        rw [hg] at hB
        have HB := hide hB
        clear hF
        by_cases hlt : j < m
        · have hq : j / 4 < l.length := by omega
          obtain ⟨b, o, rfl, hc⟩ := HR.out (ints_ne (by intro e; rw [e] at hq; simp at hq))
          have hc1 := hc (j / 4) _ (ints_get hq)
          have c1 := (HF.out.cell (World.block_lt_of_cell? w _ hc1) (fun e => e)).trans hc1
          have hx := HU.out.get (j / 4)
          have hsz : j < (ints IntKind.u8 (rowTo (fun i => byteW (l.getD (i / 4) 0) (i % 4)) m j)).toArray.size := by simp [ints, rowTo]; exact hlt
          obtain ⟨old, c2⟩ : ∃ old, wr.cell? ⟨g, j, none⟩ = some old := ⟨_, (hB.cell j).trans (Array.getElem?_eq_getElem hsz)⟩
          have c3 := hB.frozen j
          have i0 : (0 : Int) ≤ ((j / 4 : Nat) : Int) := by omega
          have i1 : ((j / 4 : Nat) : Int) < (l.length : Int) := by omega
          have q1 : Int.tdiv (j : Int) 4 = ((j / 4 : Nat) : Int) := by rw [Int.tdiv_eq_ediv_of_nonneg (by omega)]; omega
          have HN : Hid (∀ y, y = byteW (l.getD (j / 4) 0) (j % 4) → Blk (wr.setCell ⟨g, j, none⟩ (.int .u8 y)) g 5 (ints .u8 (rowTo (fun i => byteW (l.getD (i / 4) 0) (i % 4)) m (j + 1))).toArray) := fun y hy => by
            have := HB.out.set_ j (.int .u8 y)
            rw [hy, rowTo_set (fun i => byteW (l.getD (i / 4) 0) (i % 4))] at this
            rw [hy]; exact this
          have HF1 : Hid (∀ y, Frm NoB w (wr.setCell ⟨g, j, none⟩ y)) := fun y => HF.out.setNew (by omega) j y
          generalize l.getD (j / 4) 0 = x at *
          clear hc hc1 hB hsz
          have h4 : j % 4 = 0 ∨ j % 4 = 1 ∨ j % 4 = 2 ∨ j % 4 = 3 := by omega
          have j0 : (0 : Int) ≤ (j : Int) := by omega
          have j1 : (j : Int) < (m : Int) := by omega
          obtain ⟨k, hk⟩ : ∃ k, j % 4 = k := ⟨_, rfl⟩
          have q2 : Int.tmod (j : Int) 4 = (k : Int) := by rw [Int.tmod_eq_emod_of_nonneg (by omega)]; omega
          rw [hk] at HN h4
          clear hk
          rcases h4 with rfl | rfl | rfl | rfl
          all_goals
            go_wp2
            go_roundw
            case rel =>
              refine ⟨j + 1, by omega, by go_num, ?_, HF1.out _⟩
              rw [hg]
              refine HN.out _ ?_
              unfold byteW
              simp
              try omega
            case measure => simp [intOf]; omega
        · obtain rfl : j = m := by omega
          go_wp2
          go_ret2
          refine ⟨_, by rw [E.out]; rfl, ?_⟩
          rw [if_pos E.out, Int.toNat_natCast]
          have hb := HB.out
          rw [rowTo_all] at hb
          have hbl := bytesN_length l j
          refine ⟨⟨?_, bytesN_u8 _ _⟩, HF.out.mono (fun _ _ e => e.elim), fun k hk => ?_, fun g n c e => by cases e⟩
          · rw [hbl]
            exact ⟨by rw [ints_length, hbl, Nat.mul_one], .inr ⟨g, j, _, rfl, by omega, hb, Nat.le_refl _, by simp only [maxLen]; omega, by simp [ints], by
              rw [Nat.mul_one]
              rw [List.take_of_length_le (by simp [ints])]; rfl⟩⟩
          · right
            have hk2 : some g = some k := hk
            injection hk2 with hk2
            omega
end
end Go.Proofs.Ytiapoalkkhpmlaa
