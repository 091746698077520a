/-
  Plain: a tally of the statements, step by step, to the second turn.
-/
import Derived.Test.YtmeegehmbphooaaTalOwn
import Derived.Test.YtmeegehmbphooaaTalF
import Derived.Test.YtmeegehmbphooaaTalFal
namespace Go.Proofs.Ytmeegehmbphooaa
/-- behind k steps, in its first sector -/
structure PA (s : NorS) (k : Nat) : Prop where
  c : DrvS.Calm s
  l : look (tmD.fn s) = (0, (k : Int))
  f0 : tmD.fn s 0 = 1
  f1 : tmD.fn s 1 = 4294967294
  h : ∀ i, 64 ≤ i → i < 128 → tmD.fn s i = 4294967295
  z : zsum (tmD.fn s) 0 62 = k - 1
  k1 : 1 ≤ k
  ok : s.Ok
  dk : tmD.Ok s
  hf : s.half = -1
  g : s.guard = 0
  n : s.n = 3
structure PB (s : NorS) (k : Nat) : Prop where
  c : DrvS.Calm s
  l : look (tmD.fn s) = (1, (k : Int))
  f0 : tmD.fn s 64 = 1986
  f1 : tmD.fn s 65 = 4294965309
  z : zsum (tmD.fn s) 64 62 = k - 1986
  k1 : 1986 ≤ k
  ok : s.Ok
  dk : tmD.Ok s
  hf : s.half = -1
  g : s.guard = 0
  n : s.n = 3
structure PC (s : NorS) : Prop where
  c : DrvS.Calm s
  l : look (tmD.fn s) = (0, 3971)
  f0 : tmD.fn s 0 = 3971
  f1 : tmD.fn s 1 = 4294963324
  h : ∀ i, 2 ≤ i → i < 64 → tmD.fn s i = 4294967295
  ok : s.Ok
  dk : tmD.Ok s
  hf : s.half = -1
  g : s.guard = 0
  n : s.n = 3
theorem prog_guard (xs : List Int) : ∀ (s : NorS) (i : Nat), (s.prog i xs).guard = s.guard := by
  induction xs with
  | nil => intro s i; rfl
  | cons x r ih =>
    intro s i
    have hg : s.step.guard = s.guard := by unfold NorS.step; split <;> rfl
    show (if s.steps = true then _ else _ : NorS).guard = _
    split
    · rw [ih]; exact hg
    · exact hg
theorem wr_guard (d : DrvS) (s : NorS) (a : Int) (l : List Int) : (d.wr s a l).guard = s.guard := by
  unfold DrvS.wr
  split
  · split
    · rfl
    · exact prog_guard l s _
  · rfl
theorem er_guard (d : DrvS) (s : NorS) (k : Int) : (d.er s k).guard = s.guard := by
  have hg : s.step.guard = s.guard := by unfold NorS.step; split <;> rfl
  unfold DrvS.er NorS.erase
  split
  · split
    · split
      · exact hg
      · exact hg
    · rfl
  · rfl
theorem stp_guard (d : DrvS) (s : NorS) : (d.stp s).1.guard = s.guard := by
  unfold DrvS.stp
  split
  · rfl
  · split
    · exact wr_guard _ _ _ _
    · split
      · rw [wr_guard, er_guard]
      · exact er_guard _ _ _
theorem pa1 : PA tm1 1 := by
  obtain ⟨-, hC, hl, hf⟩ := tm1_facts
  have hh : tm1.half = -1 := (DrvS.calm_stp tm0_calm tm0_ok tmD_ok rfl (by rw [tm0_look]; decide)).2.2.1
  refine ⟨hC, hl, by rw [hf 0 (by omega)]; rfl, by rw [hf 1 (by omega)]; rfl, fun i h1 h2 => by rw [hf i h2, if_neg (by omega), if_neg (by omega)], ?_, by omega, tm1_ok, tmD_ok1, hh, stp_guard _ _, DrvS.stp_n⟩
  exact zsum_ones 62 (fun i hi => by rw [hf _ (by omega), if_neg (by omega), if_neg (by omega)])
theorem StpW.z {d : DrvS} {s s' : NorS} (hs : s.Ok) (h : DrvS.StpW d s s') {o : Nat} (ho : offOf (look (d.fn s)).1 = o) : zsum (d.fn s') o 62 = zsum (d.fn s) o 62 + 1 ∧ (∀ i, (i < o + 2 ∨ o + 64 ≤ i) → d.fn s' i = d.fn s i) ∧ zsum (d.fn s) o 62 ≠ 32 * 62 := by
  have hu := DrvS.fn_u32 (d := d) hs
  obtain ⟨o', r, ho', r2, r64, hne, -, hg⟩ := h
  have hoo : o' = o := by
    rw [← ho]; unfold offOf
    rcases ho' with ⟨a, b⟩ | ⟨a, b⟩ <;> rw [a, b] <;> rfl
  subst hoo
  have hx : 0 < d.fn s (o' + 2 + (r - 2)) ∧ d.fn s (o' + 2 + (r - 2)) < 4294967296 := by
    rw [show o' + 2 + (r - 2) = o' + r from by omega]
    have := hu (o' + r); omega
  have := zsum_clr (f := d.fn s) (g := d.fn s') (o := o') (k := r - 2) hx (fun i => by
    rw [hg, show o' + 2 + (r - 2) = o' + r from by omega]
    by_cases e : i = r - 2
    · rw [if_pos (by omega), if_pos e]
    · rw [if_neg (by omega), if_neg e]) 62
  rw [if_pos (by omega)] at this
  refine ⟨this, fun i hi => by rw [hg, if_neg (by omega)], fun hz => hne ?_⟩
  have := zsum_full (f := d.fn s) (o := o') (fun i _ => hu _) 62 (by omega) hz (r - 2) (by omega)
  rwa [show o' + 2 + (r - 2) = o' + r from by omega] at this
theorem StpT.z {d : DrvS} {s s' : NorS} (h : DrvS.StpT d s s') (hon : (look (d.fn s)).1 ≠ -1) : zsum (d.fn s) (offOf (look (d.fn s)).1) 62 = 32 * 62 := by
  rcases h.1 with e | e
  · exact absurd e hon
  · exact zsum_zero 62 (fun i hi => by
      have := e (2 + i) (by omega) (by omega)
      rwa [← Nat.add_assoc] at this)
theorem PA.step {s : NorS} {k : Nat} (h : PA s k) (hk : k < 1985) : (tmD.stp s).2 = 0 ∧ PA (tmD.stp s).1 (k + 1) := by
  have hc : (look (tmD.fn s)).2 < 2147483648 := by rw [h.l]; show (k : Int) < _; omega
  have ho : offOf (look (tmD.fn s)).1 = 0 := by rw [h.l]; rfl
  obtain ⟨h1, h2, hh, h3⟩ := DrvS.calm_stp h.c h.ok h.dk rfl hc
  have hW : DrvS.StpW tmD s (tmD.stp s).1 := by
    rcases h3 with h3 | h3
    · exact h3
    · have := StpT.z h3 (by rw [h.l]; simp)
      rw [ho, h.z] at this
      omega
  obtain ⟨z1, z2, -⟩ := StpW.z h.ok hW ho
  have hl := DrvS.stpW_look h.ok hW
  have := h.k1
  refine ⟨h1, h2, by rw [hl, h.l]; rfl, by rw [z2 0 (by omega)]; exact h.f0, by rw [z2 1 (by omega)]; exact h.f1, fun i i1 i2 => by rw [z2 i (by omega)]; exact h.h i i1 i2, by rw [z1, h.z]; omega, by omega, DrvS.stp_Ok h.ok, ⟨h.dk.m, by rw [DrvS.stp_n]; exact h.dk.n⟩, by rw [hh]; exact h.hf, by rw [stp_guard]; exact h.g, by rw [DrvS.stp_n]; exact h.n⟩
theorem PA.zero {s : NorS} (h : PA s 1985) : ∀ i, 2 ≤ i → i < 64 → tmD.fn s i = 0 := fun i i1 i2 => by
  have := zsum_full (f := tmD.fn s) (o := 0) (fun i _ => DrvS.fn_u32 h.ok _) 62 (by omega) (by rw [h.z]) (i - 2) (by omega)
  rwa [show 0 + 2 + (i - 2) = i from by omega] at this
theorem PA.turn {s : NorS} (h : PA s 1985) : (tmD.stp s).2 = 0 ∧ PB (tmD.stp s).1 1986 := by
  have hc : (look (tmD.fn s)).2 < 2147483648 := by rw [h.l]; decide
  have ho : offOf (look (tmD.fn s)).1 = 0 := by rw [h.l]; rfl
  obtain ⟨h1, h2, hh, h3⟩ := DrvS.calm_stp h.c h.ok h.dk rfl hc
  have hT : DrvS.StpT tmD s (tmD.stp s).1 := by
    rcases h3 with h3 | h3
    · exact absurd (by rw [h.z]) (StpW.z h.ok h3 ho).2.2
    · exact h3
  have hn : DrvS.nextS (tmD.fn s) = 1 := by unfold DrvS.nextS; rw [h.l]; rfl
  have hl := DrvS.stpT_look h.ok hc hT
  rw [hn, h.l] at hl
  have hf := hT.2
  rw [hn, h.l] at hf
  refine ⟨h1, h2, by rw [hl]; rfl, by rw [hf]; rfl, by rw [hf]; rfl, ?_, by omega, DrvS.stp_Ok h.ok, ⟨h.dk.m, by rw [DrvS.stp_n]; exact h.dk.n⟩, by rw [hh]; exact h.hf, by rw [stp_guard]; exact h.g, by rw [DrvS.stp_n]; exact h.n⟩
  exact zsum_ones 62 (fun i hi => by
    rw [hf]; unfold laidF
    rw [if_neg (by simp only [List.length_cons, List.length_nil]; omega)]
    unfold onesTo
    rw [if_pos (by omega)])
theorem PB.step {s : NorS} {k : Nat} (h : PB s k) (hk : k < 3970) : (tmD.stp s).2 = 0 ∧ PB (tmD.stp s).1 (k + 1) := by
  have hc : (look (tmD.fn s)).2 < 2147483648 := by rw [h.l]; show (k : Int) < _; omega
  have ho : offOf (look (tmD.fn s)).1 = 64 := by rw [h.l]; rfl
  obtain ⟨h1, h2, hh, h3⟩ := DrvS.calm_stp h.c h.ok h.dk rfl hc
  have := h.k1
  have hW : DrvS.StpW tmD s (tmD.stp s).1 := by
    rcases h3 with h3 | h3
    · exact h3
    · have := StpT.z h3 (by rw [h.l]; simp)
      rw [ho, h.z] at this
      omega
  obtain ⟨z1, z2, -⟩ := StpW.z h.ok hW ho
  have hl := DrvS.stpW_look h.ok hW
  refine ⟨h1, h2, by rw [hl, h.l]; rfl, by rw [z2 64 (by omega)]; exact h.f0, by rw [z2 65 (by omega)]; exact h.f1, by rw [z1, h.z]; omega, by omega, DrvS.stp_Ok h.ok, ⟨h.dk.m, by rw [DrvS.stp_n]; exact h.dk.n⟩, by rw [hh]; exact h.hf, by rw [stp_guard]; exact h.g, by rw [DrvS.stp_n]; exact h.n⟩
theorem PB.turn {s : NorS} (h : PB s 3970) : (tmD.stp s).2 = 0 ∧ PC (tmD.stp s).1 := by
  have hc : (look (tmD.fn s)).2 < 2147483648 := by rw [h.l]; decide
  have ho : offOf (look (tmD.fn s)).1 = 64 := by rw [h.l]; rfl
  obtain ⟨h1, h2, hh, h3⟩ := DrvS.calm_stp h.c h.ok h.dk rfl hc
  have hT : DrvS.StpT tmD s (tmD.stp s).1 := by
    rcases h3 with h3 | h3
    · exact absurd (by rw [h.z]) (StpW.z h.ok h3 ho).2.2
    · exact h3
  have hn : DrvS.nextS (tmD.fn s) = 0 := by unfold DrvS.nextS; rw [h.l]; rfl
  have hl := DrvS.stpT_look h.ok hc hT
  rw [hn, h.l] at hl
  have hf := hT.2
  rw [hn, h.l] at hf
  refine ⟨h1, h2, by rw [hl]; rfl, by rw [hf]; rfl, by rw [hf]; rfl, fun i i1 i2 => ?_, DrvS.stp_Ok h.ok, ⟨h.dk.m, by rw [DrvS.stp_n]; exact h.dk.n⟩, by rw [hh]; exact h.hf, by rw [stp_guard]; exact h.g, by rw [DrvS.stp_n]; exact h.n⟩
  rw [hf]; unfold laidF
  rw [if_neg (by simp only [List.length_cons, List.length_nil]; omega)]
  unfold onesTo
  rw [if_pos (by omega)]
/-- the power fails at once -/
theorem PC.fail {s : NorS} (h : PC s) (hok : (s.arms 0).Ok) : (tmD.stp (s.arms 0)).2 = 40 ∧ (tmD.stp (s.arms 0)).1.down = true ∧ (tmD.stp (s.arms 0)).1.half = -1 ∧ tmD.fn (tmD.stp (s.arms 0)).1 = tmD.fn s ∧ (tmD.stp (s.arms 0)).1.guard = 0 ∧ (tmD.stp (s.arms 0)).1.n = 3 := by
  have hgn : (tmD.stp (s.arms 0)).1.guard = 0 ∧ (tmD.stp (s.arms 0)).1.n = 3 := by
    rw [stp_guard, DrvS.stp_n]
    unfold NorS.arms
    split
    · exact ⟨h.g, h.n⟩
    · exact ⟨h.g, h.n⟩
  have hA : (s.arms 0).down = false ∧ (s.arms 0).half = -1 ∧ (s.arms 0).arm = 0 ∧ (s.arms 0).n = s.n := by
    unfold NorS.arms
    rw [if_neg (by rw [h.c.dn]; simp)]
    exact ⟨h.c.dn, h.hf, rfl, rfl⟩
  refine ⟨?_, ?_, ?_, ?_, hgn⟩
  all_goals
    have hf : tmD.fn (s.arms 0) = tmD.fn s := DrvS.arms_fn 0
    have hd' : tmD.Ok (s.arms 0) := ⟨h.dk.m, by rw [hA.2.2.2]; exact h.dk.n⟩
    clear hgn
    generalize s.arms 0 = t at hok hA hf hd'
    have hr : room (tmD.fn s) 0 = 2 := by
      show (if tmD.fn s (0 + 2) = 0 then _ else 2) = 2
      rw [Nat.zero_add, h.h 2 (by omega) (by omega), if_neg (by decide)]
    have ho : offOf (look (tmD.fn s)).1 = 0 := by rw [h.l]; rfl
    unfold DrvS.stp
    rw [hf, ho, hr, h.l, if_neg (by decide), if_pos (by decide)]
    simp only [Nat.zero_add]
    have hset : tmD.sets t (2 : Nat) [clr (tmD.fn s 2)] = false := DrvS.fall_sets (fun i hi => by
      have : i = 0 := by simp only [List.length_cons, List.length_nil] at hi; omega
      subst this
      show wand (clr (tmD.fn s 2)) (t.wd (tmD.base + 2 + 0)) = _
      rw [Nat.add_zero, DrvS.base_wd, hf, h.h 2 (by omega) (by omega)]
      exact DrvS.wand_clr (by decide) (by decide))
    obtain ⟨g1, g2, g3, -, g5⟩ := DrvS.wr_go hA.1 hok hd' (k := 2) (x := [clr (tmD.fn s 2)]) (by simp only [List.length_cons, List.length_nil]; decide) hset
    have hD : t.doneN [clr (tmD.fn s 2)].length = 0 := by
      unfold NorS.doneN
      rw [hA.2.2.1]; rfl
    rw [hD] at g1 g2 g5
  · rw [g1]; rfl
  · rw [g2]; rfl
  · rw [g3]; exact hA.2.1
  · funext i
    show (tmD.wr t ((2 : Nat) : Int) [clr (tmD.fn s 2)]).wd (tmD.base + i) = _
    rw [g5, if_neg (by omega), DrvS.base_wd, hf]
/-- another hand's words -/
theorem look_rw {f g : Nat → Int} (hl : look f = (0, 3971)) (h0 : g 0 = 2147483648) (h1 : g 1 = 2147483647) (hr : ∀ i, 2 ≤ i → i < 64 → g i = 4294967295) (hh : ∀ i, 64 ≤ i → i < 128 → g i = f i) : look g = (0, 2147483648) := by
  have c0 : cntOk g 0 = true := by unfold cntOk; rw [h0, Nat.zero_add, h1]; rfl
  have hz : zsum g 0 62 = 0 := zsum_ones 62 (fun i hi => hr _ (by omega) (by omega))
  have n0 : cntN g 0 = 2147483648 := by unfold cntN; rw [hz, h0]; rfl
  have c1 : cntOk g 64 = cntOk f 64 := cntOk_congr (fun i hi => hh _ (by omega) (by omega))
  have n1 : cntN g 64 = cntN f 64 := cntN_congr (fun i hi => hh _ (by omega) (by omega))
  have hc := look_cases f
  rw [hl] at hc
  rcases hc with ⟨h, -⟩ | ⟨-, -, h2, h3⟩ | ⟨h, -⟩
  · cases h
  · unfold look
    rw [c0, if_pos rfl, n0, if_neg]
    rintro ⟨h4, h5⟩
    rw [c1] at h4
    have := h3 h4
    have h2 : (3971 : Int) = cntN f 0 := h2
    omega
  · cases h
theorem rw_facts {t : NorS} {f : Nat → Int} (hC : DrvS.Calm t) (hok : t.Ok) (hn : t.n = 3) (hg : t.guard = 0) (hf : tmD.fn t = f) (hl : look f = (0, 3971)) (hr : ∀ i, 2 ≤ i → i < 64 → f i = 4294967295) :
    t.rewriteE 1 0 [2147483648, 2147483647] = 0 ∧ DrvS.Calm (t.rewrite 1 0 [2147483648, 2147483647]) ∧ tmD.Ok (t.rewrite 1 0 [2147483648, 2147483647]) ∧ look (tmD.fn (t.rewrite 1 0 [2147483648, 2147483647])) = (0, 2147483648) := by
  have hE : t.rewriteE 1 0 [2147483648, 2147483647] = 0 := by
    unfold NorS.rewriteE NorS.there
    rw [hg, hn]; rfl
  have hR : t.rewrite 1 0 [2147483648, 2147483647] = { t with l := NorS.lay t.l (NorS.at_ 1 0) [2147483648, 2147483647] } := by
    unfold NorS.rewrite
    rw [if_pos hE]
  have hlen := hok.len
  have hw : ∀ k, tmD.fn (t.rewrite 1 0 [2147483648, 2147483647]) k = if k < 2 then [2147483648, 2147483647].getD k 0 else f k := fun k => by
    have key := lay_at [2147483648, 2147483647] t.l 64 (64 + k) (by simp only [List.length_cons, List.length_nil]; omega)
    rw [hR, ← hf]
    show (NorS.lay t.l 64 [2147483648, 2147483647]).getD (64 + k) 0 = if k < 2 then [2147483648, 2147483647].getD k 0 else t.l.getD (64 + k) 0
    rw [key]
    simp only [List.length_cons, List.length_nil]
    by_cases h : k < 2
    · rw [if_pos h, if_pos (by omega), show 64 + k - 64 = k from by omega]
    · rw [if_neg h, if_neg (by omega)]
  refine ⟨hE, by rw [hR]; exact ⟨hC.dn, hC.ar⟩, ⟨by decide, by rw [hR]; show 1 + 2 ≤ t.n; omega⟩, ?_⟩
  exact look_rw hl (by rw [hw]; rfl) (by rw [hw]; rfl) (fun i h1 h2 => by rw [hw, if_neg (by omega)]; exact hr i h1 h2) (fun i h1 h2 => by rw [hw, if_neg (by omega)])
end Go.Proofs.Ytmeegehmbphooaa
/-
  The fixed examples of the chapter come out as written: the walk.
-/
namespace Go.Proofs.Ytmeegehmbphooaa
open Go.RowKit
def NmRel1 (w : World) (p q c gd g : Nat) (x : Value) (wr : World) : Prop := ∃ (k : Nat) (s : NorS), 1 ≤ k ∧ k ≤ 1986 ∧ x = .int .i64 k ∧ OwnT w wr p q c gd g tmD s ∧ ((k = 1 ∧ s = tm0) ∨ (2 ≤ k ∧ PA s (k - 1)))
def NmRel2 (w : World) (p q c gd g : Nat) (x : Value) (wr : World) : Prop := ∃ (k : Nat) (s : NorS), 1987 ≤ k ∧ k ≤ 3972 ∧ x = .int .i64 k ∧ OwnT w wr p q c gd g tmD s ∧ ((k ≤ 3971 ∧ PB s (k - 1)) ∨ (k = 3972 ∧ PC s))
theorem nm_step1 {s : NorS} {k : Nat} (h : (k = 1 ∧ s = tm0) ∨ (2 ≤ k ∧ PA s (k - 1))) (hk : k < 1986) : (tmD.stp s).2 = 0 ∧ PA (tmD.stp s).1 k := by
  rcases h with ⟨rfl, rfl⟩ | ⟨h1, h2⟩
  · exact ⟨tm1_facts.1, pa1⟩
  · have := h2.step (by omega)
    rwa [show k - 1 + 1 = k from by omega] at this
theorem nm_step2 {s : NorS} {k : Nat} (h : (k ≤ 3971 ∧ PB s (k - 1)) ∨ (k = 3972 ∧ PC s)) (hk1 : 1987 ≤ k) (hk : k < 3972) : (tmD.stp s).2 = 0 ∧ (look (tmD.fn (tmD.stp s).1)).2 = k ∧ ((k + 1 ≤ 3971 ∧ PB (tmD.stp s).1 (k + 1 - 1)) ∨ (k + 1 = 3972 ∧ PC (tmD.stp s).1)) := by
  rcases h with ⟨_, h2⟩ | ⟨h1, _⟩
  · by_cases e : k = 3971
    · subst e
      obtain ⟨h3, h4⟩ := h2.turn
      exact ⟨h3, by rw [h4.l]; rfl, .inr ⟨rfl, h4⟩⟩
    · have := h2.step (by omega)
      rw [show k - 1 + 1 = k from by omega] at this
      exact ⟨this.1, by rw [this.2.l], .inl ⟨by omega, this.2⟩⟩
  · omega
theorem nm_two {g0 g1 : Int} {s : NorS} {a : Nat} (h0 : tmD.fn s a = g0) (h1 : tmD.fn s (a + 1) = g1) : ∀ i, i < [g0, g1].length → tmD.fn s (a + i) = [g0, g1].getD i 0 := fun i hi => by
  simp only [List.length_cons, List.length_nil] at hi
  rcases (by omega : i = 0 ∨ i = 1) with rfl | rfl
  · exact h0
  · exact h1
set_option maxRecDepth 100000 in
set_option maxHeartbeats 16000000 in
theorem tallyNumbers_is (w : World) : Calls Try.prog 8 #[] w fun e w' => e = .returned (.bool true) ∧ Frm NoB w w' := by
  go_enter Try.func8, Try.ntmps8
  go_wp2_with fail
  refine (made_is w).mono ?_
  rintro e w1 ⟨p, q, c, gd, g, rfl, hT, -⟩
  have HT := hide hT
  clear hT
  go_wp2_with fail
  go_loopw [5] (fun x wr => NmRel1 w p q c gd g x wr) (fun i _ => 1986 - (intOf i).toNat)
  case atStart => exact ⟨1, tm0, by omega, by omega, rfl, HT.out, .inl ⟨rfl, rfl⟩⟩
  case round =>
    clear HT
    obtain ⟨k, s, hk1, hk, rfl, hT, hI⟩ := hrel
    have HT := hide hT
    have HI := hide hI
    clear hT hI
    by_cases hkn : k < 1986
    · have HST := hide (nm_step1 HI.out hkn)
      have t1 : decide ((k : Int) ≤ 1985) = true := decide_eq_true (by omega)
      go_wp2_with fail
      refine (ownt_step HT.out HST.out.1).mono ?_
      rintro e w2 ⟨rfl, hT2, -⟩
      have HT2 := hide hT2
      clear hT2 HT
      go_wp2_with fail
      refine (ownt_count HT2.out).mono ?_
      rintro e w' ⟨he, rfl⟩
      rw [HST.out.2.l] at he
      subst he
      go_wp2
      go_roundw
      case rel => exact ⟨k + 1, _, by omega, by omega, by go_num, HT2.out, .inr ⟨by omega, HST.out.2⟩⟩
      case measure => simp [intOf]; omega
    · obtain rfl : k = 1986 := by omega
      have HA : Hid (PA s 1985) := by
        rcases HI.out with ⟨h, _⟩ | ⟨_, h⟩
        · cases h
        · exact h
      clear HI
      go_wp2_with fail
      refine (ownd_reads 2 [0, 0] HT.out.o HT.out.dr HT.out.dk (by simp) _ rfl _ rfl true (reads_true (a := 2) HA.out.ok HA.out.dk HA.out.c.dn (by decide) (nm_two (HA.out.zero 2 (by omega) (by omega)) (HA.out.zero 3 (by omega) (by omega))))).mono ?_
      rintro e w3 ⟨rfl, -, hF⟩
      have HT3 := hide (HT.out.frm hF)
      clear hF HT
      go_wp2_with fail
      refine (ownd_reads 63 [0] HT3.out.o HT3.out.dr HT3.out.dk (by simp) _ rfl _ rfl true (reads_true (a := 63) HA.out.ok HA.out.dk HA.out.c.dn (by decide) (fun i hi => by
        simp only [List.length_cons, List.length_nil] at hi
        obtain rfl : i = 0 := by omega
        exact HA.out.zero 63 (by omega) (by omega)))).mono ?_
      rintro e w4 ⟨rfl, -, hF⟩
      have HT4 := hide (HT3.out.frm hF)
      clear hF HT3
      go_wp2_with fail
      refine (dblank_is 64 64 HT4.out.dr HT4.out.o.n HT4.out.dk).mono ?_
      rintro e w5 ⟨he, hF⟩
      rw [show tmD.blank s 64 64 = true from DrvS.calm_blank (a := 64) (m := 64) HA.out.c HA.out.ok HA.out.dk (by decide) (fun i hi => by
        rw [Nat.add_assoc]
        exact HA.out.h (64 + i) (by omega) (by omega))] at he
      subst he
      have HT5 := hide (HT4.out.frm hF)
      clear hF HT4
      have HST := hide HA.out.turn
      go_wp2_with fail
      refine (ownt_step HT5.out HST.out.1).mono ?_
      rintro e w6 ⟨rfl, hT6, -⟩
      have HT6 := hide hT6
      have HB := hide HST.out.2
      clear hT6 HT5 HST HA
      generalize (tmD.stp s).1 = s2 at HT6 HB
      go_wp2_with fail
      refine (ownd_reads 64 [1986, 4294965309] HT6.out.o HT6.out.dr HT6.out.dk (by simp) _ rfl _ rfl true (reads_true (a := 64) HB.out.ok HB.out.dk HB.out.c.dn (by decide) (nm_two HB.out.f0 HB.out.f1))).mono ?_
      rintro e w7 ⟨rfl, -, hF⟩
      have HT7 := hide (HT6.out.frm hF)
      clear hF HT6
      go_wp2_with fail
      refine (ownt_count HT7.out).mono ?_
      rintro e w' ⟨he, rfl⟩
      rw [HB.out.l] at he
      subst he
      go_wp2_with fail
      go_loopw [7] (fun x wr => NmRel2 w p q c gd g x wr) (fun i _ => 3972 - (intOf i).toNat)
      case atStart => exact ⟨1987, s2, by omega, by omega, rfl, HT7.out, .inl ⟨by omega, HB.out⟩⟩
      case round =>
        clear HT7 HB
        obtain ⟨k, s, hk1, hk, rfl, hT, hI⟩ := hrel
        have HT := hide hT
        have HI := hide hI
        clear hT hI
        by_cases hkn : k < 3972
        · have HST := hide (nm_step2 HI.out hk1 hkn)
          have t1 : decide ((k : Int) ≤ 3971) = true := decide_eq_true (by omega)
          go_wp2_with fail
          refine (ownt_step HT.out HST.out.1).mono ?_
          rintro e w2 ⟨rfl, hT2, -⟩
          have HT2 := hide hT2
          clear hT2 HT
          go_wp2_with fail
          refine (ownt_count HT2.out).mono ?_
          rintro e w' ⟨he, rfl⟩
          rw [HST.out.2.1] at he
          subst he
          go_wp2
          go_roundw
          case rel => exact ⟨k + 1, _, by omega, by omega, by go_num, HT2.out, HST.out.2.2⟩
          case measure => simp [intOf]; omega
        · obtain rfl : k = 3972 := by omega
          have HC : Hid (PC s) := by
            rcases HI.out with ⟨h, _⟩ | ⟨_, h⟩
            · omega
            · exact h
          clear HI
          go_wp2_with fail
          refine (ownt_open HT.out.o HT.out.dr HT.out.dk rfl HC.out.c.dn).mono ?_
          rintro e w8 ⟨g2, rfl, hT2, -, hF⟩
          have HU := hide hT2
          have HT8 := hide (HT.out.frm hF)
          clear hT2 hF HT
          go_wp2_with fail
          refine (ownt_count HU.out).mono ?_
          rintro e w' ⟨he, rfl⟩
          rw [HC.out.l] at he
          subst he
          clear HU
          go_wp2_with fail
          refine (ownd_reads 0 [3971, 4294963324] HT8.out.o HT8.out.dr HT8.out.dk (by simp) _ rfl _ rfl true (reads_true (a := 0) HC.out.ok HC.out.dk HC.out.c.dn (by decide) (nm_two HC.out.f0 HC.out.f1))).mono ?_
          rintro e w9 ⟨rfl, -, hF⟩
          have HT9 := hide (HT8.out.frm hF)
          clear hF HT8
          go_wp2_with fail
          refine (dblank_is 2 62 HT9.out.dr HT9.out.o.n HT9.out.dk).mono ?_
          rintro e w10 ⟨he, hF⟩
          rw [show tmD.blank s 2 62 = true from DrvS.calm_blank (a := 2) (m := 62) HC.out.c HC.out.ok HC.out.dk (by decide) (fun i hi => by
            rw [Nat.add_assoc]
            exact HC.out.h (2 + i) (by omega) (by omega))] at he
          subst he
          have HT10 := hide (HT9.out.frm hF)
          clear hF HT9
          go_wp2_with fail
          refine (dpart_is 0 1 HT10.out.dr (by decide) (by omega) (by decide)).mono ?_
          rintro e w11 ⟨gp, rfl, hP, -, hF⟩
          have HP := hide hP
          have HT11 := hide (HT10.out.frm hF)
          clear hP hF HT10
          go_wp2_with fail
          refine (topen_arg HP.out (by show 1 ≠ 2; decide) (by show 1 ≤ 1; decide)).mono ?_
          rintro e w' ⟨rfl, rfl⟩
          clear HP
          go_wp2_with fail
          refine (topen_no (.pointer none) (.inl rfl)).mono ?_
          rintro e w' ⟨rfl, rfl⟩
          go_wp2_with fail
          refine (ownt_arm 0 HT11.out (by omega)).mono ?_
          rintro e w12 ⟨rfl, hT12⟩
          have HFL := hide (HC.out.fail hT12.o.n.ok)
          have HT12 := hide hT12
          clear hT12 HT11
          go_wp2_with fail
          refine (tstep_is HT12.out.t HT12.out.dr HT12.out.o.n HT12.out.dk HT12.out.m).mono ?_
          rintro e w13 ⟨he, hN, -, hO, hF⟩
          rw [HFL.out.1] at he
          subst he
          have HO : Hid (∃ f' on' count', TalAt w13 g gd f' on' count' true) := hO (by rw [HFL.out.1]; decide) (by rw [HFL.out.1]; decide)
          have HN : Hid (Own w w13 p q c (tmD.stp (s.arms 0)).1) := ⟨hN, HT12.out.o.tri hF HT12.out.g0, HT12.out.o.p0, HT12.out.o.q0⟩
          have HD := hide (HT12.out.dr.frm hF (HT12.out.dr.tri HT12.out.o.n HT12.out.t))
          have HK : Hid (tmD.Ok (tmD.stp (s.arms 0)).1) := ⟨by decide, by rw [HFL.out.2.2.2.2.2]; decide⟩
          clear hN hO hF HT12
          generalize (tmD.stp (s.arms 0)).1 = s3 at HFL HN HK
          obtain ⟨f', on', count', hO⟩ := HO.out
          have HO := hide hO
          clear hO
          go_wp2_with fail
          refine (tover_is HO.out).mono ?_
          rintro e w' ⟨rfl, rfl⟩
          go_wp2_with fail
          refine (tstep_over HO.out).mono ?_
          rintro e w' ⟨rfl, rfl⟩
          clear HO
          go_wp2_with fail
          refine (topen_down HD.out HN.out.n HK.out rfl HFL.out.2.1).mono ?_
          rintro e w14 ⟨rfl, hF⟩
          have HN14 := hide (HN.out.frm hF)
          have HD14 := hide (HD.out.frm hF (fun e => e))
          clear hF HN HD
          go_wp2_with fail
          refine (owndr_crash none 0 [] HN14.out HD14.out (Rd.nil _ _) (fun e => (e rfl).elim) (by simp)).mono ?_
          rintro e w15 ⟨rfl, hN, hD⟩
          have HN15 := hide hN
          have HD15 := hide hD
          have HS : Hid (DrvS.Calm (s3.crash []) ∧ (s3.crash []).n = 3 ∧ (s3.crash []).guard = 0 ∧ tmD.fn (s3.crash []) = tmD.fn s ∧ tmD.Ok (s3.crash [])) :=
            ⟨DrvS.calm_crash _ _, HFL.out.2.2.2.2.2, HFL.out.2.2.2.2.1, by rw [DrvS.crash_half HFL.out.2.2.1]; exact HFL.out.2.2.2.1, ⟨by decide, by rw [show (s3.crash []).n = 3 from HFL.out.2.2.2.2.2]; decide⟩⟩
          clear hN hD HN14 HD14 HFL HK
          generalize s3.crash [] = s4 at HN15 HS
          go_wp2_with fail
          refine (ownt_open HN15.out HD15.out HS.out.2.2.2.2 rfl HS.out.1.dn).mono ?_
          rintro e w16 ⟨g3, rfl, hT, -, -⟩
          have HV : Hid (TalAt w16 g3 gd (tmD.fn s4) (look (tmD.fn s4)).1 (look (tmD.fn s4)).2 false) := hT.t
          have HN16 := hide hT.o
          have HD16 := hide hT.dr
          clear hT HN15 HD15
          have HRW := hide (rw_facts HS.out.1 HN16.out.n.ok HS.out.2.1 HS.out.2.2.1 HS.out.2.2.2.1 HC.out.l HC.out.h)
          go_wp2_with fail
          refine (rewrite_at 1 0 _ 2 2 [2147483648, 2147483647] rfl (HN16.out.alloc (.cells #[.int .u32 2147483648, .int .u32 2147483647] 37)).n (rd_lit w16 [.int .u32 2147483648, .int .u32 2147483647] _) (by intro x hx; simp at hx; omega) (by simp)).mono ?_
          rintro e w17 ⟨he, hN, hF⟩
          rw [HRW.out.1] at he
          subst he
          have hA16 := HN16.out.alloc (.cells #[.int .u32 2147483648, .int .u32 2147483647] 37)
          have hDA := HD16.out.frm ((Frm.refl NoB w16).alloc (.cells #[.int .u32 2147483648, .int .u32 2147483647] 37)) (fun e => e)
          have hVA := HV.out.frm ((Frm.refl NoB w16).alloc (.cells #[.int .u32 2147483648, .int .u32 2147483647] 37)) (fun e => e)
          have hne := hDA.ne hA16.n
          have HN17 := hide (hA16.step hN hF)
          have HD17 := hide (hDA.frm hF (fun e => e.elim hne.1 hne.2))
          have HV17 := hide (hVA.frm hF (hVA.two hA16.n))
          clear hN hF hA16 hDA hVA hne HN16 HD16 HV
          have HR2 := hide HRW.out.2
          clear HRW
          generalize s4.rewrite 1 0 [2147483648, 2147483647] = s5 at HN17 HR2
          go_wp2_with fail
          refine (ownt_open HN17.out HD17.out HR2.out.2.1 rfl HR2.out.1.dn).mono ?_
          rintro e w18 ⟨g4, rfl, hT, -, hF⟩
          have HT18 := hide hT
          have HV18 := hide (HV17.out.frm hF (fun e => e))
          clear hT hF HN17 HD17 HV17
          go_wp2_with fail
          refine (tcount_is HV18.out).mono ?_
          rintro e w' ⟨he, rfl⟩
          rw [HS.out.2.2.2.1, HC.out.l] at he
          subst he
          clear HV18
          go_wp2_with fail
          refine (ownt_count HT18.out).mono ?_
          rintro e w' ⟨he, rfl⟩
          rw [HR2.out.2.2] at he
          subst he
          have HF5 : Hid ((tmD.stp s5).2 = 5) := by
            show _ = _
            unfold DrvS.stp
            rw [HR2.out.2.2, if_pos (by decide)]
          go_wp2_with fail
          refine (tstep_is HT18.out.t HT18.out.dr HT18.out.o.n HT18.out.dk HT18.out.m).mono ?_
          rintro e w19 ⟨he, -, hO, -, hF⟩
          rw [HF5.out] at he
          subst he
          have HO := hide (hO (.inr HF5.out))
          have HFF := hide (HT18.out.o.tri hF HT18.out.g0)
          clear hO hF HT18
          go_wp2_with fail
          refine (tover_is HO.out).mono ?_
          rintro e w' ⟨rfl, rfl⟩
          go_wp2_with fail
          refine (awake_is _).mono ?_
          rintro e wz ⟨rfl, hz⟩
          go_wp2
          go_ret
          exact ⟨rfl, HFF.out.trans hz⟩
end Go.Proofs.Ytmeegehmbphooaa
