/-
  Plain: steps of a tally on a flash that is up, and not armed.
-/
import Derived.Test.YtmeegehmbphooaaTalP3
namespace Go.Proofs.Ytmeegehmbphooaa
theorem NorS.Ok.withL {s : NorS} (h : s.Ok) {l : List Int} (hl : l.length = 64 * s.n) (hu : U32 l) : ({ s with l := l } : NorS).Ok :=
  ⟨hl, h.n1, h.n2, h.g0, h.g1, h.a0, h.a1, h.h0, h.h1, hu⟩
theorem NorS.Ok.withHalf {s : NorS} (h : s.Ok) {x : Int} (h0 : -1 ≤ x) (h1 : x < s.n) : ({ s with half := x } : NorS).Ok :=
  ⟨h.len, h.n1, h.n2, h.g0, h.g1, h.a0, h.a1, h0, h1, h.u⟩
theorem NorS.Ok.erase' {s : NorS} (h : s.Ok) (sec : Int) : (s.erase sec).Ok := by
  have hl : (NorS.lay s.l (NorS.at_ sec 0) (List.replicate 64 4294967295)).length = 64 * s.step.n := by rw [NorS.lay_length, NorS.step_n]; exact h.len
  have hu := NorS.lay_u32 (List.replicate 64 4294967295) (fun x hx => by rw [List.eq_of_mem_replicate hx]; omega) s.l (NorS.at_ sec 0) h.u
  unfold NorS.erase
  generalize NorS.lay s.l (NorS.at_ sec 0) (List.replicate 64 4294967295) = l at hl hu
  by_cases hup : s.up sec 0 0 = 0
  · rw [if_pos hup]
    obtain ⟨h1, h2, h3, h4, h5⟩ := NorS.up_zero hup
    by_cases hs : s.steps = true
    · rw [if_pos hs]; exact h.step.withL hl hu
    · rw [if_neg hs]; exact h.step.withHalf (by omega) (by rw [NorS.step_n]; exact h3)
  · rw [if_neg hup]; exact h
namespace DrvS
variable {d : DrvS} {s : NorS}
theorem er_Ok (h : s.Ok) (sec : Int) : (d.er s sec).Ok := by
  unfold er; split
  · exact h.erase' _
  · exact h
theorem wr_Ok (h : s.Ok) (a : Int) (l : List Int) : (d.wr s a l).Ok := by
  unfold wr
  split
  · split
    · exact h
    · exact NorS.Ok.prog' l s _ h
  · exact h
theorem stp_Ok (h : s.Ok) : (d.stp s).1.Ok := by
  unfold stp
  split
  · exact h
  · split
    · exact wr_Ok h _ _
    · split
      · exact wr_Ok (er_Ok h _) _ _
      · exact er_Ok h _
theorem wrn (d : DrvS) (s : NorS) (a : Int) (l : List Int) : (d.wr s a l).n = s.n := by
  unfold wr
  split
  · split
    · rfl
    · exact (NorS.prog_same l s _).1
  · rfl
theorem ern (d : DrvS) (s : NorS) (k : Int) : (d.er s k).n = s.n := by
  unfold er NorS.erase
  split
  · split
    · split
      · exact NorS.step_n s
      · exact NorS.step_n s
    · rfl
  · rfl
theorem stp_n : (d.stp s).1.n = s.n := by
  unfold stp
  split
  · rfl
  · split
    · exact wrn _ _ _ _
    · split
      · rw [wrn, ern]
      · exact ern _ _ _
/-- the word of one bit less -/
theorem look_w {f g : Nat → Int} {on count : Int} {o r : Nat} (hu : ∀ i, 0 ≤ f i ∧ f i < 4294967296) (hl : look f = (on, count)) (ho : (on = 0 ∧ o = 0) ∨ (on = 1 ∧ o = 64)) (hr2 : 2 ≤ r) (hr64 : r < 64) (hx : f (o + r) ≠ 0)
    (hg : ∀ i, i < 128 → g i = if i = o + r then clr (f (o + r)) else f i) : look g = (on, count + 1) := by
  have hpos : 0 < f (o + r) ∧ f (o + r) < 4294967296 := by have := hu (o + r); omega
  -- the sector that is written
  have hs : cntOk g o = cntOk f o ∧ cntN g o = cntN f o + 1 := by
    have e0 : g o = f o := by rw [hg o (by omega), if_neg (by omega)]
    have e1 : g (o + 1) = f (o + 1) := by rw [hg (o + 1) (by omega), if_neg (by omega)]
    refine ⟨by unfold cntOk; rw [e0, e1], ?_⟩
    have hz : ∀ j, j ≤ 62 → zsum g o j = zsum f o j + if r - 2 < j then 1 else 0 := by
      intro j
      induction j with
      | zero => intro _; simp [zsum]
      | succ j ih =>
        intro hj
        simp only [zsum]
        rw [ih (by omega), hg (o + 2 + j) (by omega)]
        by_cases e : j = r - 2
        · rw [if_pos (show o + 2 + j = o + r by omega), (clr_facts hpos.1 hpos.2).2.2, if_neg (by omega), if_pos (by omega), show o + 2 + j = o + r from by omega]
          omega
        · rw [if_neg (show ¬ o + 2 + j = o + r by omega)]
          by_cases e2 : r - 2 < j
          · rw [if_pos e2, if_pos (by omega)]; omega
          · rw [if_neg e2, if_neg (by omega)]; omega
    unfold cntN
    rw [e0, hz 62 (by omega), if_pos (by omega)]
    omega
  have hother : ∀ o', (o' = 0 ∨ o' = 64) → o' ≠ o → cntOk g o' = cntOk f o' ∧ cntN g o' = cntN f o' := fun o' h1 h2 =>
    ⟨cntOk_congr (fun i hi => by rw [hg _ (by omega), if_neg (by omega)]), cntN_congr (fun i hi => by rw [hg _ (by omega), if_neg (by omega)])⟩
  have hc := look_cases f
  rw [hl] at hc
  simp only at hc
  rcases ho with ⟨rfl, rfl⟩ | ⟨rfl, rfl⟩
  · obtain ⟨q1, q2⟩ := hother 64 (.inr rfl) (by omega)
    rcases hc with ⟨h, -⟩ | ⟨-, h1, h2, h3⟩ | ⟨h, -⟩
    · omega
    · unfold look
      rw [hs.1, h1, if_pos rfl, q1, q2, hs.2, if_neg (fun h => by have := h3 h.1; have := h.2; omega), h2]
    · omega
  · obtain ⟨q1, q2⟩ := hother 0 (.inl rfl) (by omega)
    rcases hc with ⟨h, -⟩ | ⟨h, -⟩ | ⟨-, h1, h2, h3⟩
    · omega
    · omega
    · unfold look
      rw [q1, q2, hs.1, h1, hs.2]
      by_cases h0 : cntOk f 0 = true
      · rw [if_pos h0, if_pos ⟨rfl, by have := h3 h0; omega⟩, h2]
      · rw [if_neg h0, if_pos rfl, h2]
/-- a sector that is begun -/
theorem look_t {f g : Nat → Int} {count : Int} {i : Nat} (hl : (look f).2 = count) (hon : i = nextS f) (h0 : 0 ≤ count) (h1 : count < 2147483648)
    (hg : ∀ k, k < 128 → g k = laidF (onesTo f (64 * i) 64) (64 * i) [count + 1, 4294967294 - count] k) : look g = ((i : Int), count + 1) := by
  have hi : i < 2 := by rw [hon]; exact nextS_lt f
  have e0 : g (64 * i) = count + 1 := by
    rw [hg _ (by omega)]; unfold laidF
    rw [if_pos ⟨by omega, by simp only [List.length_cons, List.length_nil]; omega⟩, Nat.sub_self]; rfl
  have e1 : g (64 * i + 1) = 4294967294 - count := by
    rw [hg _ (by omega)]; unfold laidF
    rw [if_pos ⟨by omega, by simp only [List.length_cons, List.length_nil]; omega⟩, show 64 * i + 1 - 64 * i = 1 from by omega]; rfl
  have er : ∀ k, k < 62 → g (64 * i + 2 + k) = 4294967295 := fun k hk => by
    rw [hg _ (by omega)]; unfold laidF
    rw [if_neg (by simp only [List.length_cons, List.length_nil]; omega)]
    unfold onesTo
    rw [if_pos (by omega)]
  have ok : cntOk g (64 * i) = true := by unfold cntOk; rw [e0, e1]; exact decide_eq_true ⟨by omega, by omega⟩
  have cn : cntN g (64 * i) = count + 1 := by unfold cntN; rw [e0, zsum_ones 62 er]; omega
  have far : ∀ k, k < 128 → ¬ (64 * i ≤ k ∧ k < 64 * i + 64) → g k = f k := fun k hk hn => by
    rw [hg k hk]; unfold laidF
    rw [if_neg (by simp only [List.length_cons, List.length_nil]; omega)]
    unfold onesTo
    rw [if_neg hn]
  have hc := look_cases f
  unfold nextS at hon
  rcases (by omega : i = 0 ∨ i = 1) with rfl | rfl
  · have hon' : ¬ (look f).1 = 0 := fun h => by rw [if_pos h] at hon; omega
    have q1 : cntOk g 64 = cntOk f 64 := cntOk_congr (fun k hk => far _ (by omega) (by omega))
    have q2 : cntN g 64 = cntN f 64 := cntN_congr (fun k hk => far _ (by omega) (by omega))
    unfold look
    rw [Nat.mul_zero] at ok cn
    rw [ok, if_pos rfl, cn, q1, q2]
    rw [if_neg]
    · rfl
    · rintro ⟨h2, h3⟩
      rcases hc with ⟨_, _, _, h4⟩ | ⟨h4, _⟩ | ⟨_, _, h4, _⟩
      · rw [h4] at h2; cases h2
      · exact hon' h4
      · omega
  · have hon' : (look f).1 = 0 := by
      by_cases h : (look f).1 = 0
      · exact h
      · rw [if_neg h] at hon; omega
    have q1 : cntOk g 0 = cntOk f 0 := cntOk_congr (fun k hk => far _ (by omega) (by omega))
    have q2 : cntN g 0 = cntN f 0 := cntN_congr (fun k hk => far _ (by omega) (by omega))
    rcases hc with ⟨h4, _⟩ | ⟨_, h4, h5, _⟩ | ⟨h4, _⟩
    · omega
    · unfold look
      rw [Nat.mul_one] at ok cn
      rw [q1, h4, if_pos rfl, ok, cn, q2, if_pos ⟨rfl, by omega⟩]; rfl
    · omega
end DrvS
end Go.Proofs.Ytmeegehmbphooaa
