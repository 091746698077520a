/-
  Plain: a step of a tally that may fail, and a crash behind it.
-/
import Derived.Test.YtmeegehmbphooaaTalR
namespace Go.Proofs.Ytmeegehmbphooaa
/-- the sector that is not the tally's has been changed, but counts no more than it did -/
theorem look_drop {f g : Nat → Int} {i : Nat} (hi : i = DrvS.nextS f) (hfar : ∀ k, k < 128 → ¬ (64 * i ≤ k ∧ k < 64 * i + 64) → g k = f k)
    (hs : cntOk g (64 * i) = false ∨ (cntOk f (64 * i) = true ∧ cntN g (64 * i) ≤ cntN f (64 * i))) : (look g).2 = (look f).2 := by
  have hc := look_cases f
  unfold DrvS.nextS at hi
  rcases hc with ⟨h1, h2, h3, h4⟩ | ⟨h1, h2, h3, h4⟩ | ⟨h1, h2, h3, h4⟩
  · rw [h1, if_neg (by omega)] at hi
    subst hi
    have q1 : cntOk g 64 = cntOk f 64 := cntOk_congr (fun k hk => hfar _ (by omega) (by omega))
    have q0 : cntOk g 0 = false := by
      rcases hs with h | h
      · exact h
      · rw [Nat.mul_zero, h3] at h; cases h.1
    rw [h2]
    unfold look
    rw [q0, q1, h4]
    rfl
  · rw [h1, if_pos rfl] at hi
    subst hi
    have q0 : cntOk g 0 = cntOk f 0 := cntOk_congr (fun k hk => hfar _ (by omega) (by omega))
    have n0 : cntN g 0 = cntN f 0 := cntN_congr (fun k hk => hfar _ (by omega) (by omega))
    rw [h3]
    unfold look
    rw [q0, h2, if_pos rfl, n0, if_neg]
    rintro ⟨h5, h6⟩
    rcases hs with h | h
    · rw [Nat.mul_one, h5] at h; cases h
    · rw [Nat.mul_one] at h
      have := h4 h.1
      have := h.2
      omega
  · rw [h1, if_neg (by omega)] at hi
    subst hi
    have q1 : cntOk g 64 = cntOk f 64 := cntOk_congr (fun k hk => hfar _ (by omega) (by omega))
    have n1 : cntN g 64 = cntN f 64 := cntN_congr (fun k hk => hfar _ (by omega) (by omega))
    rw [h3]
    unfold look
    by_cases h0 : cntOk g 0 = true
    · have hlt : cntN g 0 < cntN g 64 := by
        rcases hs with h | h
        · rw [Nat.mul_zero, h0] at h; cases h
        · rw [Nat.mul_zero] at h
          have := h4 h.1
          have := h.2
          rw [n1]
          omega
      rw [if_pos h0, if_pos ⟨by rw [q1]; exact h2, hlt⟩, n1]
    · rw [if_neg h0, q1, if_pos h2, n1]
namespace DrvS
variable {d : DrvS} {s : NorS}
/-- the bases are not 0 -/
def Based (f : Nat → Int) : Prop := 1 ≤ f 0 ∧ 1 ≤ f 64
/-- an armed flash -/
theorem arms_fn (m : Int) : d.fn (s.arms m) = d.fn s := by
  funext k; unfold fn NorS.wd NorS.arms; split <;> rfl
theorem crash_half {ks : List Bool} (h : s.half = -1) : d.fn (s.crash ks) = d.fn s := by
  funext k; unfold fn NorS.wd NorS.crash
  simp only
  rw [if_neg (by rw [h]; decide)]
theorem burn_get (ks : List Bool) (b : Nat) : ∀ (m i : Nat) (l : List Int) (j : Nat), (NorS.burn ks b m i l).getD j 0 = l.getD j 0 ∨ (b + i ≤ j ∧ j < b + i + m ∧ (NorS.burn ks b m i l).getD j 0 = 4294967295)
  | 0, _, _, _ => .inl rfl
  | m + 1, i, l, j => by
    simp only [NorS.burn]
    have ih := burn_get ks b m (i + 1) (if ks.getD i false = true then l.set (b + i) 4294967295 else l) j
    rcases ih with h | ⟨h1, h2, h3⟩
    · rw [h]
      split
      · by_cases e : b + i = j
        · subst e
          by_cases hl : b + i < l.length
          · right
            refine ⟨by omega, by omega, ?_⟩
            simp [List.getD_eq_getElem?_getD, hl]
          · left
            simp [List.getD_eq_getElem?_getD, List.getElem?_set, hl]
        · left
          simp [List.getD_eq_getElem?_getD, List.getElem?_set, e]
      · exact .inl rfl
    · exact .inr ⟨by omega, by omega, h3⟩
end DrvS
end Go.Proofs.Ytmeegehmbphooaa
/-
  Plain: a step of a tally on an armed flash, and a crash behind it.
-/
namespace Go.Proofs.Ytmeegehmbphooaa
namespace DrvS
variable {d : DrvS} {s : NorS}
theorem fall_sets {a : Nat} {l : List Int} (hw : ∀ i, i < l.length → wand (l.getD i 0) (s.wd (d.base + a + i)) = l.getD i 0) : d.sets s a l = false := by
  unfold sets
  rw [List.any_eq_false]
  intro i hi
  rw [hw i (List.mem_range.1 hi)]; simp
/-- what a half-erased sector comes to -/
theorem crash_burn {ks : List Bool} {i : Nat} (h : s.half = (d.first : Int) + i) (k : Nat) :
    d.fn (s.crash ks) k = d.fn s k ∨ (64 * i ≤ k ∧ k < 64 * i + 64 ∧ d.fn (s.crash ks) k = 4294967295) := by
  have hb : d.base = d.first * 64 := rfl
  have hat : NorS.at_ ((d.first : Int) + i) 0 = (d.first + i) * 64 := by unfold NorS.at_; omega
  have key := burn_get ks ((d.first + i) * 64) 64 0 s.l (d.base + k)
  unfold fn NorS.wd NorS.crash
  simp only
  rw [if_pos (by omega), h, hat]
  rcases key with h1 | ⟨h1, h2, h3⟩
  · exact .inl h1
  · exact .inr ⟨by omega, by omega, h3⟩
theorem fall (hC : Calm s) (hh : s.half = -1) (hs : s.Ok) (hd : d.Ok s) (hm : d.many = 2) (hb : Based (d.fn s)) (hc : (look (d.fn s)).2 ≤ 2147483648)
    {m : Int} (hm0 : 0 ≤ m) (hok : (s.arms m).Ok) (ks : List Bool) :
    Based (d.fn ((d.stp (s.arms m)).1.crash ks)) ∧ (look (d.fn s)).2 ≤ (look (d.fn ((d.stp (s.arms m)).1.crash ks))).2 ∧
    (look (d.fn ((d.stp (s.arms m)).1.crash ks))).2 ≤ (look (d.fn s)).2 + 1 ∧ (look (d.fn ((d.stp (s.arms m)).1.crash ks))).2 ≤ 2147483648 ∧
    ((d.stp (s.arms m)).2 = 0 → (look (d.fn ((d.stp (s.arms m)).1.crash ks))).2 = (look (d.fn s)).2 + 1) := by
  have hu := fn_u32 (d := d) hs
  have hlo := look_lo (d := d) hs
  have hA : (s.arms m).down = false ∧ (s.arms m).n = s.n ∧ (s.arms m).half = -1 ∧ (s.arms m).arm = m := by
    unfold NorS.arms
    rw [if_neg (by rw [hC.dn]; simp)]
    exact ⟨hC.dn, rfl, hh, by show max m 0 = m; omega⟩
  have hf : d.fn (s.arms m) = d.fn s := arms_fn m
  have hd' : d.Ok (s.arms m) := ⟨hd.m, by rw [hA.2.1]; exact hd.n⟩
  generalize s.arms m = t at hok hA hf hd'
  have hut := fn_u32 (d := d) hok
  unfold stp
  rw [hf]
  by_cases hfull : 2147483648 ≤ (look (d.fn s)).2
  · rw [if_pos hfull]
    simp only
    rw [crash_half hA.2.2.1, hf]
    exact ⟨hb, by omega, by omega, by omega, fun h => by omega⟩
  rw [if_neg hfull]
  by_cases hw : 0 ≤ (look (d.fn s)).1 ∧ 0 < room (d.fn s) (offOf (look (d.fn s)).1)
  · rw [if_pos hw]
    simp only
    obtain ⟨o, ho⟩ : ∃ o, offOf (look (d.fn s)).1 = o := ⟨_, rfl⟩
    rw [ho] at hw ⊢
    have ho2 : ((look (d.fn s)).1 = 0 ∧ o = 0) ∨ ((look (d.fn s)).1 = 1 ∧ o = 64) := by
      unfold offOf at ho
      rcases look_on (d := d) hs with h | h | h
      · omega
      · rw [h] at ho; exact .inl ⟨h, by simpa using ho.symm⟩
      · rw [h] at ho; exact .inr ⟨h, by simpa using ho.symm⟩
    obtain ⟨r, hr⟩ : ∃ r, room (d.fn s) o = r := ⟨_, rfl⟩
    have hrs := room_spec (d.fn s) o
    rw [hr] at hw hrs ⊢
    rcases hrs with ⟨h1, -⟩ | ⟨h1, h2, h3, h4⟩
    · omega
    have hx : 0 < d.fn s (o + r) ∧ d.fn s (o + r) < 4294967296 := by have := hu (o + r); omega
    have hset : d.sets t (o + r) [clr (d.fn s (o + r))] = false := fall_sets (fun i hi => by
      have : i = 0 := by simp only [List.length_cons, List.length_nil] at hi; omega
      subst this
      show wand (clr (d.fn s (o + r))) (t.wd (d.base + (o + r) + 0)) = _
      rw [Nat.add_zero, base_wd, hf, wand_clr hx.1 hx.2]; rfl)
    obtain ⟨g1, -, g3, -, g5⟩ := wr_go hA.1 hok hd' (k := o + r) (x := [clr (d.fn s (o + r))]) (by simp only [List.length_cons, List.length_nil]; rw [hm]; omega) hset
    have hdn := NorS.doneN_le t [clr (d.fn s (o + r))].length
    rw [g1, crash_half (by rw [g3]; exact hA.2.2.1)]
    simp only [List.length_cons, List.length_nil, Nat.zero_add] at hdn g5 ⊢
    by_cases hD : t.doneN 1 = 1
    · have hg : ∀ i, d.fn (d.wr t ((o + r : Nat) : Int) [clr (d.fn s (o + r))]) i = if i = o + r then clr (d.fn s (o + r)) else d.fn s i := fun i => by
        show (d.wr t ((o + r : Nat) : Int) [clr (d.fn s (o + r))]).wd (d.base + i) = _
        rw [g5, hD]
        by_cases e : i = o + r
        · rw [if_pos e, if_pos (by omega), e, Nat.sub_self]; rfl
        · rw [if_neg e, if_neg (by omega), base_wd, hf]
      have hl := look_w hu (on := (look (d.fn s)).1) (count := (look (d.fn s)).2) (f := d.fn s) (g := d.fn (d.wr t ((o + r : Nat) : Int) [clr (d.fn s (o + r))])) rfl ho2 h1 h2 h3 (fun i _ => hg i)
      rw [hl]
      refine ⟨?_, by dsimp only; omega, Int.le_refl _, by dsimp only; omega, fun _ => rfl⟩
      unfold Based
      rw [hg 0, hg 64, if_neg (by omega), if_neg (by omega)]
      exact hb
    · have hg : d.fn (d.wr t ((o + r : Nat) : Int) [clr (d.fn s (o + r))]) = d.fn s := by
        funext i
        show (d.wr t ((o + r : Nat) : Int) [clr (d.fn s (o + r))]).wd (d.base + i) = _
        rw [g5, if_neg (by omega), base_wd, hf]
      rw [hg, if_neg hD]
      exact ⟨hb, by omega, by omega, by omega, fun h => by cases h⟩
  rw [if_neg hw]
  have hi := nextS_lt (d.fn s)
  obtain ⟨i, hie⟩ : ∃ i, nextS (d.fn s) = i := ⟨_, rfl⟩
  rw [hie] at hi ⊢
  by_cases he : d.erE t i = 0
  · rw [if_pos he]
    simp only
    obtain ⟨-, -, e3, e4, e5, -, e7⟩ := er_ok hok hd' he
    have hok1 := er_Ok (d := d) hok i
    have hd1 : d.Ok (d.er t i) := ⟨hd.m, by rw [e4]; exact hd'.n⟩
    rw [hf] at e7
    generalize d.er t i = t1 at e3 e4 e5 e7 hok1 hd1
    have hset : d.sets t1 (64 * i) [(look (d.fn s)).2 + 1, 4294967294 - (look (d.fn s)).2] = false := fall_sets (fun j hj => by
      have : j = 0 ∨ j = 1 := by simp only [List.length_cons, List.length_nil] at hj; omega
      have e : t1.wd (d.base + 64 * i + j) = 4294967295 := by
        rw [Nat.add_assoc, base_wd, e7]
        unfold onesTo; rw [if_pos (by omega)]
      rw [e]
      rcases this with rfl | rfl
      · exact wand_full (show 0 ≤ (look (d.fn s)).2 + 1 by omega) (by show (look (d.fn s)).2 + 1 < _; omega)
      · exact wand_full (show 0 ≤ 4294967294 - (look (d.fn s)).2 by omega) (by show 4294967294 - (look (d.fn s)).2 < _; omega))
    obtain ⟨g1, -, g3, -, g5⟩ := wr_go e3 hok1 hd1 (k := 64 * i) (x := [(look (d.fn s)).2 + 1, 4294967294 - (look (d.fn s)).2]) (by simp only [List.length_cons, List.length_nil]; rw [hm]; omega) hset
    have hdn := NorS.doneN_le t1 [(look (d.fn s)).2 + 1, 4294967294 - (look (d.fn s)).2].length
    rw [g1, crash_half (by rw [g3, e5]; exact hA.2.2.1)]
    simp only [List.length_cons, List.length_nil, Nat.zero_add, Nat.reduceAdd] at hdn g5 ⊢
    generalize hq : d.wr t1 ((64 * i : Nat) : Int) [(look (d.fn s)).2 + 1, 4294967294 - (look (d.fn s)).2] = q at g3 g5 ⊢
    have hg : ∀ k, d.fn q k = if 64 * i ≤ k ∧ k < 64 * i + t1.doneN 2 then [(look (d.fn s)).2 + 1, 4294967294 - (look (d.fn s)).2].getD (k - 64 * i) 0 else onesTo (d.fn s) (64 * i) 64 k := fun k => by
      show q.wd (d.base + k) = _
      rw [g5]
      by_cases e : 64 * i ≤ k ∧ k < 64 * i + t1.doneN 2
      · rw [if_pos e, if_pos (by omega), show d.base + k - (d.base + 64 * i) = k - 64 * i from by omega]
      · rw [if_neg e, if_neg (by omega), base_wd, e7]
    have hB : Based (d.fn q) := by
      have one : ∀ o, (o = 0 ∨ o = 64) → 1 ≤ d.fn q o := fun o ho => by
        rw [hg o]
        by_cases e : 64 * i ≤ o ∧ o < 64 * i + t1.doneN 2
        · rw [if_pos e, show o - 64 * i = 0 from by omega]
          show 1 ≤ (look (d.fn s)).2 + 1
          omega
        · rw [if_neg e]
          unfold onesTo
          split
          · decide
          · rcases ho with rfl | rfl
            · exact hb.1
            · exact hb.2
      exact ⟨one 0 (.inl rfl), one 64 (.inr rfl)⟩
    by_cases hD : t1.doneN 2 = 2
    · have hl := look_t (count := (look (d.fn s)).2) (f := d.fn s) (g := d.fn q) (i := i) rfl hie.symm hlo.2.2.1 (by omega) (fun k _ => by
        rw [hg k, hD]; rfl)
      rw [hl]
      exact ⟨hB, by dsimp only; omega, Int.le_refl _, by dsimp only; omega, fun _ => rfl⟩
    · have hl : (look (d.fn q)).2 = (look (d.fn s)).2 := look_drop (i := i) hie.symm (fun k _ hk => by
        rw [hg k, if_neg (by omega)]
        unfold onesTo
        rw [if_neg hk]) (.inl (by
          unfold cntOk
          have w1 : d.fn q (64 * i + 1) = 4294967295 := by
            rw [hg, if_neg (by omega)]
            unfold onesTo
            rw [if_pos (by omega)]
          have w0 : 1 ≤ d.fn q (64 * i) := by
            rcases (by omega : i = 0 ∨ i = 1) with rfl | rfl
            · exact hB.1
            · exact hB.2
          rw [w1]
          exact decide_eq_false (fun h => by omega)))
      rw [hl, if_neg hD]
      exact ⟨hB, by omega, by omega, by omega, fun h => by cases h⟩
  · rw [if_neg he]
    simp only
    have hn := hd'.n
    have hM : 0 ≤ (i : Int) ∧ (i : Int) < d.many := by omega
    have hup : t.up ((d.first : Int) + i) 0 0 = 0 := by
      unfold NorS.up NorS.there
      rw [if_neg (by rw [hA.1]; simp), if_pos]
      simp only [Bool.and_eq_true, decide_eq_true_eq]
      omega
    have hst : ¬ t.steps = true := fun h => he (by
      unfold erE NorS.eraseE
      rw [if_pos hM, if_pos hup, if_pos h])
    have hE : d.er t i = { t.step with half := (d.first : Int) + i } := by
      unfold er NorS.erase
      rw [if_pos hM, if_pos hup, if_neg hst]
    have hfn : d.fn (d.er t i) = d.fn s := by
      funext k
      rw [hE, ← hf]
      show t.step.l.getD _ 0 = t.l.getD _ 0
      rw [NorS.step_l]
    have hbu := crash_burn (d := d) (s := d.er t i) (ks := ks) (i := i) (by rw [hE])
    rw [hfn] at hbu
    generalize d.fn ((d.er t i).crash ks) = g at hbu
    have hB : Based g := by
      refine ⟨?_, ?_⟩
      · rcases hbu 0 with h | ⟨-, -, h⟩
        · rw [h]; exact hb.1
        · rw [h]; decide
      · rcases hbu 64 with h | ⟨-, -, h⟩
        · rw [h]; exact hb.2
        · rw [h]; decide
    have hl : (look g).2 = (look (d.fn s)).2 := look_drop (i := i) hie.symm (fun k _ hk => by
      rcases hbu k with h | ⟨h1, h2, -⟩
      · exact h
      · exact absurd ⟨h1, h2⟩ hk) (by
        cases hck : cntOk g (64 * i) with
        | false => exact .inl rfl
        | true =>
          right
          unfold cntOk at hck
          have hck := of_decide_eq_true hck
          have w0 : 1 ≤ g (64 * i) := by
            rcases (by omega : i = 0 ∨ i = 1) with rfl | rfl
            · exact hB.1
            · exact hB.2
          have a0 : g (64 * i) = d.fn s (64 * i) := by
            rcases hbu (64 * i) with h | ⟨-, -, h⟩
            · exact h
            · omega
          have a1 : g (64 * i + 1) = d.fn s (64 * i + 1) := by
            rcases hbu (64 * i + 1) with h | ⟨-, -, h⟩
            · exact h
            · omega
          refine ⟨by unfold cntOk; rw [← a0, ← a1]; exact decide_eq_true hck, ?_⟩
          unfold cntN
          have := zsum_less (f := d.fn s) (g := g) (o := 64 * i) 62 (fun j _ => by
            rcases hbu (64 * i + 2 + j) with h | ⟨-, -, h⟩
            · exact .inl h
            · exact .inr h)
          omega)
    rw [hl]
    refine ⟨hB, by omega, by omega, by omega, fun h => absurd h he⟩
/-- a step of a flash that is up keeps the bases -/
theorem calm_based (hC : Calm s) (hs : s.Ok) (hd : d.Ok s) (hm : d.many = 2) (hb : Based (d.fn s)) (hc : (look (d.fn s)).2 < 2147483648) : Based (d.fn (d.stp s).1) := by
  obtain ⟨-, -, -, h⟩ := calm_stp hC hs hd hm hc
  have hlo := look_lo (d := d) hs
  generalize (d.stp s).1 = s' at h
  rcases h with ⟨o, r, ho, h2, h3, -, -, hg⟩ | ⟨-, hg⟩
  · unfold Based
    rw [hg 0, hg 64, if_neg (by omega), if_neg (by omega)]
    exact hb
  · have hi := nextS_lt (d.fn s)
    generalize nextS (d.fn s) = i at hg hi
    have one : ∀ o, (o = 0 ∨ o = 64) → 1 ≤ d.fn s' o := fun o ho => by
      rw [hg o]
      unfold laidF
      by_cases e : 64 * i ≤ o ∧ o < 64 * i + [(look (d.fn s)).2 + 1, 4294967294 - (look (d.fn s)).2].length
      · rw [if_pos e, show o - 64 * i = 0 from by simp only [List.length_cons, List.length_nil] at e; omega]
        show 1 ≤ (look (d.fn s)).2 + 1
        omega
      · rw [if_neg e]
        unfold onesTo
        split
        · decide
        · rcases ho with rfl | rfl
          · exact hb.1
          · exact hb.2
    exact ⟨one 0 (.inl rfl), one 64 (.inr rfl)⟩
end DrvS
end Go.Proofs.Ytmeegehmbphooaa
