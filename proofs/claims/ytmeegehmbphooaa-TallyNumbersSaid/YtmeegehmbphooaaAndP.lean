/-
  Plain: a flash that is up, and not armed: what is programmed.
-/
import Derived.Test.YtmeegehmbphooaaNor8
namespace Go.Proofs.Ytmeegehmbphooaa
namespace NorS
/-- words and-ed onto a list from i on -/
def andL : List Int → Nat → List Int → List Int
  | l, _, [] => l
  | l, i, x :: r => andL (l.set i (wand (l.getD i 0) x)) (i + 1) r
theorem andL_length (xs : List Int) : ∀ (l : List Int) (i : Nat), (andL l i xs).length = l.length := by
  induction xs with
  | nil => intro l i; rfl
  | cons x r ih => intro l i; rw [andL, ih]; simp
theorem getD_set (l : List Int) (i j : Nat) (x : Int) (hi : i < l.length) : (l.set i x).getD j 0 = if i = j then x else l.getD j 0 := by
  simp only [List.getD_eq_getElem?_getD, List.getElem?_set]
  split
  · rename_i h; subst h; simp
  · rfl
theorem andL_get (xs : List Int) : ∀ (l : List Int) (i j : Nat), i + xs.length ≤ l.length →
    (andL l i xs).getD j 0 = if i ≤ j ∧ j < i + xs.length then wand (l.getD j 0) (xs.getD (j - i) 0) else l.getD j 0 := by
  induction xs with
  | nil => intro l i j h; rw [andL, if_neg (show ¬ (i ≤ j ∧ j < i + ([] : List Int).length) from by simp only [List.length_nil]; omega)]
  | cons x r ih =>
    intro l i j h
    simp only [List.length_cons] at h ⊢
    rw [andL, ih _ _ _ (by simp; omega), getD_set _ _ _ _ (by omega)]
    by_cases e : i = j
    · subst e
      rw [if_neg (by omega), if_pos rfl, if_pos (by omega), Nat.sub_self]; try rfl
    · rw [if_neg e]
      by_cases h1 : i + 1 ≤ j ∧ j < i + 1 + r.length
      · rw [if_pos h1, if_pos (by omega)]
        congr 1
        rw [show j - i = (j - (i + 1)) + 1 from by omega]
        simp
      · rw [if_neg h1, if_neg (by omega)]
theorem ext_getD {a b : List Int} (hl : a.length = b.length) (h : ∀ j, j < a.length → a.getD j 0 = b.getD j 0) : a = b := by
  apply List.ext_getElem hl
  intro j h1 h2
  have := h j h1
  simpa [h1, h2] using this
theorem andL_thrice (l xs ys : List Int) (i : Nat) (hx : i + xs.length ≤ l.length) (hy : i + ys.length ≤ l.length) :
    andL (andL (andL l i xs) i ys) i xs = andL (andL l i ys) i xs := by
  apply ext_getD (by simp only [andL_length])
  intro j _
  rw [andL_get _ _ _ _ (by simpa only [andL_length] using hx), andL_get _ _ _ _ (by simpa only [andL_length] using hy), andL_get _ _ _ _ hx, andL_get _ _ _ _ (by simpa only [andL_length] using hx), andL_get _ _ _ _ hy]
  split
  · split
    · rw [wand_right (wand _ _), wand_idem, wand_right]
    · rw [wand_idem]
  · rfl
/-- up, and not armed -/
structure Up (s : NorS) : Prop where
  d : s.down = false
  a : s.arm = -1
  h : s.half = -1
theorem crash_up (s : NorS) (ks : List Bool) : (s.crash ks).Up := ⟨rfl, rfl, rfl⟩
theorem Up.steps {s : NorS} (h : s.Up) : s.steps = true := by unfold NorS.steps; rw [h.a]; rfl
theorem Up.step {s : NorS} (h : s.Up) : s.step = s := by
  unfold NorS.step
  rw [if_neg (by rw [h.a]; decide)]
  rw [h.a]
  cases s; simp_all
  exact h.a.symm
theorem Up.crash {s : NorS} (h : s.Up) (ks : List Bool) : s.crash ks = s := by
  unfold NorS.crash
  rw [if_neg (by rw [h.h]; decide)]
  have h1 := h.d; have h2 := h.a; have h3 := h.h
  cases s; simp_all
theorem Up.mid {s : NorS} (h : s.Up) (l : List Int) : (s.mid l).Up := ⟨h.d, h.a, h.h⟩
theorem Up.prog (xs : List Int) : ∀ {s : NorS} (_ : s.Up) (i : Nat), s.prog i xs = s.mid (andL s.l i xs) ∧ s.progs xs = true := by
  induction xs with
  | nil => intro s h i; exact ⟨rfl, rfl⟩
  | cons x r ih =>
    intro s h i
    unfold NorS.prog progs
    rw [if_pos h.steps, if_pos h.steps, h.step]
    have h2 := h.mid (s.l.set i (wand (s.wd i) x))
    obtain ⟨e1, _⟩ := ih h2 (i + 1)
    exact ⟨e1, (ih h 0).2⟩
theorem Up.fits {s : NorS} (h : s.Up) {sec k : Int} {m : Int} (h0 : 0 ≤ sec) (h1 : sec < s.n) (h2 : 0 ≤ k) (h3 : m ≤ 64) (h4 : k ≤ 64 - m) : s.up sec k m = 0 := by
  unfold NorS.up there
  rw [if_neg (by rw [h.d]; simp), if_pos]
  simp only [Bool.and_eq_true, decide_eq_true_eq]
  exact ⟨⟨⟨⟨h0, h1⟩, h2⟩, h3⟩, h4⟩
theorem Up.program {s : NorS} (h : s.Up) {sec k : Int} {xs : List Int} (hu : s.up sec k xs.length = 0) : s.program sec k xs = s.mid (andL s.l (at_ sec k) xs) ∧ s.programE sec k xs = 0 := by
  unfold NorS.program programE
  rw [if_pos hu, if_pos hu, (h.prog xs 0).2, (h.prog xs _).1]
  exact ⟨rfl, rfl⟩
theorem step_guard (s : NorS) : s.step.guard = s.guard := by unfold NorS.step; split <;> rfl
theorem prog_fix' (xs : List Int) : ∀ (a : NorS) (i : Nat), (prog a i xs).n = a.n ∧ (prog a i xs).guard = a.guard := by
  induction xs with
  | nil => intro a i; exact ⟨rfl, rfl⟩
  | cons x r ih =>
    intro a i
    unfold NorS.prog
    split
    · obtain ⟨h1, h2⟩ := ih (a.step.put i (wand (a.wd i) x)) (i + 1)
      exact ⟨h1.trans (step_n a), h2.trans (step_guard a)⟩
    · exact ⟨step_n a, step_guard a⟩
end NorS
end Go.Proofs.Ytmeegehmbphooaa
