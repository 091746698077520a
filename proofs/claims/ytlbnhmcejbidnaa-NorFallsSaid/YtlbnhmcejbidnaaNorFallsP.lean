/-
  Plain: a bit that is 0 is 1 again by an erasing alone.
-/
import Derived.Test.YtlbnhmcejbidnaaNorStepsP
namespace Go.Proofs.Ytlbnhmcejbidnaa
namespace NorS
theorem prog_fall (xs : List Int) : ∀ {b : NorS} (i m : Nat), b.Up → m < xs.length →
    (prog (b.armed m) i xs).l = andL b.l i (xs.take m) ∧ (prog (b.armed m) i xs).half = -1 ∧ (prog (b.armed m) i xs).n = b.n ∧ (prog (b.armed m) i xs).guard = b.guard := by
  induction xs with
  | nil => intro b i m h hm; simp at hm
  | cons x r ih =>
    intro b i m h hm
    cases m with
    | zero =>
      have e : prog (b.armed ((0 : Nat) : Int)) i (x :: r) = (b.armed ((0 : Nat) : Int)).step := rfl
      rw [e]
      refine ⟨by rw [step_l]; rfl, ?_, by rw [step_n]; rfl, by rw [step_guard]; rfl⟩
      exact h.h
    | succ m =>
      have e1 : prog (b.armed ((m + 1 : Nat) : Int)) i (x :: r) = prog ((b.put i (wand (b.wd i) x)).armed (m : Int)) (i + 1) r := by
        rw [show prog (b.armed ((m + 1 : Nat) : Int)) i (x :: r) = if (b.armed ((m + 1 : Nat) : Int)).steps = true then prog ((b.armed ((m + 1 : Nat) : Int)).step.put i (wand ((b.armed ((m + 1 : Nat) : Int)).wd i) x)) (i + 1) r else (b.armed ((m + 1 : Nat) : Int)).step from rfl, if_pos (armed_steps (by omega)), armed_step (by omega)]
        rw [show ((m + 1 : Nat) : Int) - 1 = m from by omega]
        rfl
      have hu : (b.put i (wand (b.wd i) x)).Up := ⟨h.d, h.a, h.h⟩
      have hm' : m < r.length := by simpa using hm
      rw [e1]
      exact ih (i + 1) m hu hm'
theorem crash_half (s : NorS) (ks : List Bool) (h : s.half = -1) : s.crash ks = { s with down := false, arm := -1, half := -1 } := by
  unfold crash
  rw [if_neg (by rw [h]; decide)]
/-- the power fails behind r steps -/
structure Falls (b : NorS) (S : Int) (K : Nat) (xs : List Int) (r : Nat) : Prop where
  le : xs.length ≤ r → (b.armed r).programE S K xs = 0 ∧ ((b.armed r).program S K xs).down = false
  gt : r < xs.length → (b.armed r).programE S K xs = 40 ∧ ((b.armed r).program S K xs).down = true
  cr : ∀ ks, ((b.armed r).program S K xs).crash ks = b.mid (andL b.l (at_ S K) (xs.take r))
theorem Up.falls {b : NorS} (h : b.Up) {S : Int} {K : Nat} {xs : List Int} (r : Nat) (hu : b.up S K xs.length = 0) : Falls b S K xs r := by
  have hup : (b.armed r).up S K xs.length = b.up S K xs.length := rfl
  have pa : (b.armed r).program S K xs = NorS.prog (b.armed r) (at_ S K) xs := by unfold NorS.program; rw [hup, if_pos hu]
  have ea : (b.armed r).programE S K xs = if NorS.progs (b.armed r) xs = true then 0 else 40 := by unfold NorS.programE; rw [hup, if_pos hu]
  obtain ⟨q1, q2⟩ := prog_armed xs (at_ S K) (r : Int) h (by omega)
  have h1 := h.d; have h2 := h.a; have h3 := h.h
  refine ⟨fun hl => ?_, fun hl => ?_, fun ks => ?_⟩
  · obtain ⟨r1, r2⟩ := q1 (by omega)
    refine ⟨by rw [ea, r2]; rfl, ?_⟩
    rw [pa, r1, (h.prog xs _).1]
    exact h.d
  · obtain ⟨r1, r2⟩ := q2 (by omega)
    exact ⟨by rw [ea, r1]; rfl, by rw [pa]; exact r2⟩
  · rcases Nat.lt_or_ge r xs.length with hl | hl
    · obtain ⟨g1, g2, g3, g4⟩ := prog_fall xs (at_ S K) r h hl
      rw [pa, crash_half _ _ g2]
      generalize NorS.prog (b.armed r) (at_ S K) xs = z at g1 g2 g3 g4
      unfold NorS.mid
      rw [← g1]
      cases z; cases b; simp_all
    · obtain ⟨r1, r2⟩ := q1 (by omega)
      rw [pa, r1, (h.prog xs _).1, List.take_of_length_le hl, crash_half _ _ (by exact h.h)]
      unfold NorS.mid armed
      cases b; simp_all
theorem Up.erased {b : NorS} (h : b.Up) {S : Int} (hu : b.up S 0 0 = 0) (h0 : 0 ≤ S) :
    (b.armed 0).eraseE S = 40 ∧ ∀ ks, ((b.armed 0).erase S).crash ks = b.mid (burn ks (at_ S 0) 64 0 b.l) := by
  have hup : (b.armed 0).up S 0 0 = b.up S 0 0 := rfl
  refine ⟨by unfold NorS.eraseE; rw [hup, if_pos hu]; rfl, fun ks => ?_⟩
  have pa : (b.armed 0).erase S = { (b.armed 0).step with half := S } := by unfold NorS.erase; rw [hup, if_pos hu]; rfl
  have h1 := h.d; have h2 := h.a; have h3 := h.h
  rw [pa]
  unfold NorS.crash
  rw [if_pos (by exact h0)]
  show ({ n := b.n, l := burn ks (at_ S 0) 64 0 b.l, guard := b.guard, arm := -1, down := false, half := -1 } : NorS) = _
  unfold NorS.mid
  cases b; simp_all
theorem burn_get (ks : List Bool) (base : Nat) : ∀ (m i : Nat) (l : List Int) (j : Nat), base + i + m ≤ l.length →
    (burn ks base m i l).getD j 0 = if base + i ≤ j ∧ j < base + i + m ∧ ks.getD (j - base) false = true then 4294967295 else l.getD j 0 := by
  intro m
  induction m with
  | zero => intro i l j h; rw [burn, if_neg (by omega)]
  | succ m ih =>
    intro i l j h
    rw [burn, ih _ _ _ (by split <;> (try simp) <;> omega)]
    by_cases e : base + i = j
    · subst e
      rw [if_neg (by omega)]
      rw [show base + i - base = i from by omega]
      by_cases hk : ks.getD i false = true
      · rw [if_pos hk, if_pos ⟨by omega, by omega, hk⟩, getD_set _ _ _ _ (by omega), if_pos rfl]
      · rw [if_neg hk, if_neg (fun h => hk h.2.2)]
    · have e2 : (if ks.getD i false = true then l.set (base + i) 4294967295 else l).getD j 0 = l.getD j 0 := by
        split
        · rw [getD_set _ _ _ _ (by omega), if_neg e]
        · rfl
      rw [e2]
      by_cases hc : base + (i + 1) ≤ j ∧ j < base + (i + 1) + m ∧ ks.getD (j - base) false = true
      · rw [if_pos hc, if_pos ⟨by omega, by omega, hc.2.2⟩]
      · rw [if_neg hc, if_neg (fun h => hc ⟨by omega, by omega, h.2.2⟩)]
/-- the words of four sectors -/
theorem sector_wd {s : NorS} (hd : s.down = false) (hn : s.n = 4) {i j : Nat} (hi : i < 4) (hj : j < 64) : (s.sector i).getD j 0 = s.l.getD (i * 64 + j) 0 := by
  have hu : s.up i 0 1 = 0 := by
    unfold up there
    rw [hd, hn]
    simp; omega
  rw [← sector_get hu hj]
  unfold read
  rw [up_same hj, if_pos hu]
  unfold wd at_
  rw [Int.toNat_natCast, Int.toNat_natCast]
theorem Up.fall_wd {b : NorS} (h : b.Up) (hn : b.n = 4) (hl : b.l.length = 256) {S K : Nat} {ys : List Int} (hS : S < 4) (hK : K + ys.length ≤ 64) {i j : Nat} (hi : i < 4) (hj : j < 64) :
    ((b.mid (andL b.l (at_ S K) ys)).sector i).getD j 0 = if i = S ∧ K ≤ j ∧ j < K + ys.length then wand ((b.sector i).getD j 0) (ys.getD (j - K) 0) else (b.sector i).getD j 0 := by
  rw [sector_wd h.d hn hi hj, sector_wd (s := b.mid (andL b.l (at_ S K) ys)) h.d hn hi hj]
  show (andL b.l (at_ S K) ys).getD (i * 64 + j) 0 = _
  have ea : at_ (S : Int) (K : Int) = S * 64 + K := by unfold at_; rw [Int.toNat_natCast, Int.toNat_natCast]
  rw [ea, andL_get _ _ _ _ (by omega)]
  by_cases hc : i = S ∧ K ≤ j ∧ j < K + ys.length
  · obtain ⟨rfl, h1, h2⟩ := hc
    rw [if_pos (by omega), if_pos ⟨rfl, h1, h2⟩, show i * 64 + j - (i * 64 + K) = j - K from by omega]
  · rw [if_neg (by omega), if_neg hc]
theorem Up.burn_wd {b : NorS} (h : b.Up) (hn : b.n = 4) (hl : b.l.length = 256) {S : Nat} (ks : List Bool) (hS : S < 4) {i j : Nat} (hi : i < 4) (hj : j < 64) :
    ((b.mid (burn ks (at_ S 0) 64 0 b.l)).sector i).getD j 0 = if i = S ∧ ks.getD j false = true then 4294967295 else (b.sector i).getD j 0 := by
  rw [sector_wd h.d hn hi hj, sector_wd (s := b.mid (burn ks (at_ S 0) 64 0 b.l)) h.d hn hi hj]
  show (burn ks (at_ S 0) 64 0 b.l).getD (i * 64 + j) 0 = _
  have ea : at_ (S : Int) 0 = S * 64 := by unfold at_; rw [Int.toNat_natCast]; rfl
  rw [ea, burn_get _ _ _ _ _ _ (by omega)]
  by_cases hc : i = S ∧ ks.getD j false = true
  · obtain ⟨rfl, h1⟩ := hc
    rw [if_pos ⟨by omega, by omega, by rw [show i * 64 + j - i * 64 = j from by omega]; exact h1⟩, if_pos ⟨rfl, h1⟩]
  · rw [if_neg (fun hh => hc ?_), if_neg hc]
    obtain ⟨h1, h2, h3⟩ := hh
    have e : i = S := by omega
    subst e
    exact ⟨rfl, by rw [show i * 64 + j - i * 64 = j from by omega] at h3; exact h3⟩
end NorS
end Go.Proofs.Ytlbnhmcejbidnaa
