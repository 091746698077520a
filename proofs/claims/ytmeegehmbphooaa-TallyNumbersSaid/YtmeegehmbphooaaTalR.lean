/-
  Plain: a step of a tally on a flash that is up, and not armed, comes to one more.
-/
import Derived.Test.YtmeegehmbphooaaTalQ
namespace Go.Proofs.Ytmeegehmbphooaa
namespace DrvS
variable {d : DrvS} {s : NorS}
/-- one word has a bit less -/
def StpW (d : DrvS) (s s' : NorS) : Prop := ∃ o r, (((look (d.fn s)).1 = 0 ∧ o = 0) ∨ ((look (d.fn s)).1 = 1 ∧ o = 64)) ∧ 2 ≤ r ∧ r < 64 ∧ d.fn s (o + r) ≠ 0 ∧ (∀ k, 2 ≤ k → k < r → d.fn s (o + k) = 0) ∧ (∀ i, d.fn s' i = if i = o + r then clr (d.fn s (o + r)) else d.fn s i)
/-- the other sector is begun -/
def StpT (d : DrvS) (s s' : NorS) : Prop := ((look (d.fn s)).1 = -1 ∨ ∀ k, 2 ≤ k → k < 64 → d.fn s (offOf (look (d.fn s)).1 + k) = 0) ∧
  ∀ k, d.fn s' k = laidF (onesTo (d.fn s) (64 * nextS (d.fn s)) 64) (64 * nextS (d.fn s)) [(look (d.fn s)).2 + 1, 4294967294 - (look (d.fn s)).2] k
theorem look_on (hs : s.Ok) : (look (d.fn s)).1 = -1 ∨ (look (d.fn s)).1 = 0 ∨ (look (d.fn s)).1 = 1 := by
  have := look_lo (d := d) hs; omega
theorem base_wd (k : Nat) : s.wd (d.base + k) = d.fn s k := rfl
theorem calm_stp (hC : Calm s) (hs : s.Ok) (hd : d.Ok s) (hm : d.many = 2) (hc : (look (d.fn s)).2 < 2147483648) :
    (d.stp s).2 = 0 ∧ Calm (d.stp s).1 ∧ (d.stp s).1.half = s.half ∧ (StpW d s (d.stp s).1 ∨ StpT d s (d.stp s).1) := by
  have hlo := look_lo (d := d) hs
  have hu := fn_u32 (d := d) hs
  unfold stp
  rw [if_neg (by omega)]
  by_cases hw : 0 ≤ (look (d.fn s)).1 ∧ 0 < room (d.fn s) (offOf (look (d.fn s)).1)
  · rw [if_pos hw]
    obtain ⟨o, ho⟩ : ∃ o, offOf (look (d.fn s)).1 = o := ⟨_, rfl⟩
    rw [ho] at hw ⊢
    have ho2 : ((look (d.fn s)).1 = 0 ∧ o = 0) ∨ ((look (d.fn s)).1 = 1 ∧ o = 64) := by
      unfold offOf at ho
      rcases look_on (d := d) hs with h | h | h
      · omega
      · rw [h] at ho; exact .inl ⟨h, by simpa using ho.symm⟩
      · rw [h] at ho; exact .inr ⟨h, by simpa using ho.symm⟩
    obtain ⟨r, hr⟩ : ∃ r, room (d.fn s) o = r := ⟨_, rfl⟩
    have hrs := room_spec (d.fn s) o
    rw [hr] at hw hrs ⊢
    rcases hrs with ⟨h1, -⟩ | ⟨h1, h2, h3, h4⟩
    · omega
    · have hx : 0 < d.fn s (o + r) ∧ d.fn s (o + r) < 4294967296 := by have := hu (o + r); omega
      have key := calm_wr hC hs hd (a := o + r) (l := [clr (d.fn s (o + r))]) (by simp only [List.length_cons, List.length_nil]; rw [hm]; omega) (fun i hi => by
        have : i = 0 := by simp only [List.length_cons, List.length_nil] at hi; omega
        subst this
        show wand (clr (d.fn s (o + r))) (s.wd (d.base + (o + r) + 0)) = _
        rw [Nat.add_zero, base_wd, wand_clr hx.1 hx.2]; rfl)
      have hok := wr_ok hs hd key.1
      refine ⟨key.1, key.2.1, hok.2.2.2.2.1, .inl ⟨o, r, ho2, h1, h2, h3, h4, fun i => ?_⟩⟩
      rw [hok.2.2.2.2.2 i]
      unfold laidF
      simp only [List.length_cons, List.length_nil]
      by_cases e : i = o + r
      · rw [if_pos e, if_pos (by omega), e, Nat.sub_self]; rfl
      · rw [if_neg e, if_neg (by omega)]
  · rw [if_neg hw]
    have hi := nextS_lt (d.fn s)
    have hcond : (look (d.fn s)).1 = -1 ∨ ∀ k, 2 ≤ k → k < 64 → d.fn s (offOf (look (d.fn s)).1 + k) = 0 := by
      rcases look_on (d := d) hs with h | h | h
      · exact .inl h
      all_goals
        refine .inr ?_
        rcases room_spec (d.fn s) (offOf (look (d.fn s)).1) with ⟨_, h2⟩ | ⟨h1, _⟩
        · exact h2
        · exact absurd ⟨by omega, by omega⟩ hw
    have ker := calm_er hC hs hd (k := nextS (d.fn s)) (by omega)
    have eok := er_ok hs hd ker.1
    rw [if_pos ker.1]
    have hs1 := er_Ok (d := d) hs (nextS (d.fn s))
    have hd1 : d.Ok (d.er s (nextS (d.fn s))) := ⟨hd.m, by rw [ker.2.2.1]; exact hd.n⟩
    have key := calm_wr ker.2.1 hs1 hd1 (a := 64 * nextS (d.fn s)) (l := [(look (d.fn s)).2 + 1, 4294967294 - (look (d.fn s)).2]) (by simp only [List.length_cons, List.length_nil]; rw [hm]; omega) (fun i hi' => by
      have : i = 0 ∨ i = 1 := by simp only [List.length_cons, List.length_nil] at hi'; omega
      have e : (d.er s (nextS (d.fn s))).wd (d.base + 64 * nextS (d.fn s) + i) = 4294967295 := by
        rw [Nat.add_assoc, base_wd, eok.2.2.2.2.2.2]
        unfold onesTo; rw [if_pos (by omega)]
      rw [e]
      rcases this with rfl | rfl
      · exact wand_full (show 0 ≤ (look (d.fn s)).2 + 1 by omega) (by show (look (d.fn s)).2 + 1 < _; omega)
      · exact wand_full (show 0 ≤ 4294967294 - (look (d.fn s)).2 by omega) (by show 4294967294 - (look (d.fn s)).2 < _; omega))
    have hok := wr_ok hs1 hd1 key.1
    refine ⟨key.1, key.2.1, by rw [hok.2.2.2.2.1, eok.2.2.2.2.1], .inr ⟨hcond, fun k => ?_⟩⟩
    rw [hok.2.2.2.2.2 k]
    unfold laidF
    rw [eok.2.2.2.2.2.2 k]
theorem stpW_look {s' : NorS} (hs : s.Ok) (h : StpW d s s') : look (d.fn s') = ((look (d.fn s)).1, (look (d.fn s)).2 + 1) := by
  obtain ⟨o, r, ho, h2, h3, h4, h5, h6⟩ := h
  exact look_w (fn_u32 hs) rfl ho h2 h3 h4 (fun i _ => h6 i)
theorem stpT_look {s' : NorS} (hs : s.Ok) (hc : (look (d.fn s)).2 < 2147483648) (h : StpT d s s') : look (d.fn s') = ((nextS (d.fn s) : Int), (look (d.fn s)).2 + 1) :=
  look_t rfl rfl (look_lo hs).2.2.1 hc (fun k _ => h.2 k)
theorem calm_count (hC : Calm s) (hs : s.Ok) (hd : d.Ok s) (hm : d.many = 2) (hc : (look (d.fn s)).2 < 2147483648) :
    (d.stp s).2 = 0 ∧ Calm (d.stp s).1 ∧ (look (d.fn (d.stp s).1)).2 = (look (d.fn s)).2 + 1 := by
  obtain ⟨h1, h2, _, h3⟩ := calm_stp hC hs hd hm hc
  refine ⟨h1, h2, ?_⟩
  rcases h3 with h3 | h3
  · rw [stpW_look hs h3]
  · rw [stpT_look hs hc h3]
end DrvS
end Go.Proofs.Ytmeegehmbphooaa
