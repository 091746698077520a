/-
  Plain: a flash that is up, and not armed: what is programmed.
-/
import Derived.Test.YtlbnhmcejbidnaaNorLaw5
import Derived.Test.YtlbnhmcejbidnaaNorLaw6
namespace Go.Proofs.Ytlbnhmcejbidnaa
namespace NorS
/-- words and-ed onto a list from i on -/
def andL : List Int → Nat → List Int → List Int
  | l, _, [] => l
  | l, i, x :: r => andL (l.set i (wand (l.getD i 0) x)) (i + 1) r
theorem andL_length (xs : List Int) : ∀ (l : List Int) (i : Nat), (andL l i xs).length = l.length := by
  induction xs with
  | nil => intro l i; rfl
  | cons x r ih => intro l i; rw [andL, ih]; simp
theorem getD_set (l : List Int) (i j : Nat) (x : Int) (hi : i < l.length) : (l.set i x).getD j 0 = if i = j then x else l.getD j 0 := by
  simp only [List.getD_eq_getElem?_getD, List.getElem?_set]
  split
  · rename_i h; subst h; simp [hi]
  · rfl
theorem andL_get (xs : List Int) : ∀ (l : List Int) (i j : Nat), i + xs.length ≤ l.length →
    (andL l i xs).getD j 0 = if i ≤ j ∧ j < i + xs.length then wand (l.getD j 0) (xs.getD (j - i) 0) else l.getD j 0 := by
  induction xs with
  | nil => intro l i j h; rw [andL, if_neg (show ¬ (i ≤ j ∧ j < i + ([] : List Int).length) from by simp only [List.length_nil]; omega)]
  | cons x r ih =>
    intro l i j h
    simp only [List.length_cons] at h ⊢
    rw [andL, ih _ _ _ (by simp; omega), getD_set _ _ _ _ (by omega)]
    by_cases e : i = j
    · subst e
      rw [if_neg (by omega), if_pos rfl, if_pos (by omega), Nat.sub_self]; try rfl
    · rw [if_neg e]
      by_cases h1 : i + 1 ≤ j ∧ j < i + 1 + r.length
      · rw [if_pos h1, if_pos (by omega)]
        congr 1
        rw [show j - i = (j - (i + 1)) + 1 from by omega]
        simp
      · rw [if_neg h1, if_neg (by omega)]
theorem ext_getD {a b : List Int} (hl : a.length = b.length) (h : ∀ j, j < a.length → a.getD j 0 = b.getD j 0) : a = b := by
  apply List.ext_getElem hl
  intro j h1 h2
  have := h j h1
  simpa [h1, h2] using this
theorem andL_thrice (l xs ys : List Int) (i : Nat) (hx : i + xs.length ≤ l.length) (hy : i + ys.length ≤ l.length) :
    andL (andL (andL l i xs) i ys) i xs = andL (andL l i ys) i xs := by
  apply ext_getD (by simp only [andL_length])
  intro j _
  rw [andL_get _ _ _ _ (by simpa only [andL_length] using hx), andL_get _ _ _ _ (by simpa only [andL_length] using hy), andL_get _ _ _ _ hx, andL_get _ _ _ _ (by simpa only [andL_length] using hx), andL_get _ _ _ _ hy]
  split
  · split
    · rw [wand_right (wand _ _), wand_idem, wand_right]
    · rw [wand_idem]
  · rfl
/-- up, and not armed -/
structure Up (s : NorS) : Prop where
  d : s.down = false
  a : s.arm = -1
  h : s.half = -1
theorem crash_up (s : NorS) (ks : List Bool) : (s.crash ks).Up := ⟨rfl, rfl, rfl⟩
theorem Up.steps {s : NorS} (h : s.Up) : s.steps = true := by unfold NorS.steps; rw [h.a]; rfl
theorem Up.step {s : NorS} (h : s.Up) : s.step = s := by
  unfold NorS.step
  rw [if_neg (by rw [h.a]; decide)]
  rw [h.a]
  cases s; simp_all
  exact h.a.symm
theorem Up.crash {s : NorS} (h : s.Up) (ks : List Bool) : s.crash ks = s := by
  unfold NorS.crash
  rw [if_neg (by rw [h.h]; decide)]
  have h1 := h.d; have h2 := h.a; have h3 := h.h
  cases s; simp_all
theorem Up.mid {s : NorS} (h : s.Up) (l : List Int) : (s.mid l).Up := ⟨h.d, h.a, h.h⟩
theorem Up.prog (xs : List Int) : ∀ {s : NorS} (h : s.Up) (i : Nat), s.prog i xs = s.mid (andL s.l i xs) ∧ s.progs xs = true := by
  induction xs with
  | nil => intro s h i; exact ⟨rfl, rfl⟩
  | cons x r ih =>
    intro s h i
    unfold NorS.prog progs
    rw [if_pos h.steps, if_pos h.steps, h.step]
    have h2 := h.mid (s.l.set i (wand (s.wd i) x))
    obtain ⟨e1, _⟩ := ih h2 (i + 1)
    exact ⟨e1, (ih h 0).2⟩
theorem Up.fits {s : NorS} (h : s.Up) {sec k : Int} {m : Int} (h0 : 0 ≤ sec) (h1 : sec < s.n) (h2 : 0 ≤ k) (h3 : m ≤ 64) (h4 : k ≤ 64 - m) : s.up sec k m = 0 := by
  unfold NorS.up there
  rw [if_neg (by rw [h.d]; simp), if_pos]
  simp only [Bool.and_eq_true, decide_eq_true_eq]
  exact ⟨⟨⟨⟨h0, h1⟩, h2⟩, h3⟩, h4⟩
theorem Up.program {s : NorS} (h : s.Up) {sec k : Int} {xs : List Int} (hu : s.up sec k xs.length = 0) : s.program sec k xs = s.mid (andL s.l (at_ sec k) xs) ∧ s.programE sec k xs = 0 := by
  unfold NorS.program programE
  rw [if_pos hu, if_pos hu, (h.prog xs 0).2, (h.prog xs _).1]
  exact ⟨rfl, rfl⟩
theorem same_self (s : NorS) : s.same s = true := decide_eq_true ⟨rfl, rfl, fun _ _ => rfl⟩
theorem step_guard (s : NorS) : s.step.guard = s.guard := by unfold NorS.step; split <;> rfl
theorem prog_fix' (xs : List Int) : ∀ (a : NorS) (i : Nat), (prog a i xs).n = a.n ∧ (prog a i xs).guard = a.guard := by
  induction xs with
  | nil => intro a i; exact ⟨rfl, rfl⟩
  | cons x r ih =>
    intro a i
    unfold NorS.prog
    split
    · obtain ⟨h1, h2⟩ := ih (a.step.put i (wand (a.wd i) x)) (i + 1)
      exact ⟨h1.trans (step_n a), h2.trans (step_guard a)⟩
    · exact ⟨step_n a, step_guard a⟩
/-- a flash that was made is of four sectors -/
theorem does_n (s : NorS) (o : OpS) : (s.does o).n = s.n ∧ (s.does o).guard = s.guard := by
  unfold does
  split
  · unfold program; split
    · exact ⟨(prog_fix' _ _ _).1, (prog_fix' _ _ _).2⟩
    · exact ⟨rfl, rfl⟩
  · split
    · unfold erase; split
      · split
        · exact ⟨step_n s, step_guard s⟩
        · exact ⟨step_n s, step_guard s⟩
      · exact ⟨rfl, rfl⟩
    · split
      · unfold rewrite; split <;> exact ⟨rfl, rfl⟩
      · split
        · unfold arms; split <;> exact ⟨rfl, rfl⟩
        · split
          · exact ⟨rfl, rfl⟩
          · exact ⟨rfl, rfl⟩
theorem runs_n (ops : List OpS) : ∀ s : NorS, (ops.foldl NorS.does s).n = s.n ∧ (ops.foldl NorS.does s).guard = s.guard := by
  induction ops with
  | nil => intro s; exact ⟨rfl, rfl⟩
  | cons o r ih => intro s; rw [List.foldl_cons]; exact ⟨(ih _).1.trans (does_n s o).1, (ih _).2.trans (does_n s o).2⟩
/-- what is programmed twice is as once -/
structure Thrice (T : NorS) (S K : Int) (xs ys : List Int) : Prop where
  e1 : T.programE S K xs = 0
  e2 : (T.program S K xs).programE S K ys = 0
  e3 : ((T.program S K xs).program S K ys).programE S K xs = 0
  d1 : T.programE S K ys = 0
  d2 : (T.program S K ys).programE S K xs = 0
  same : (((T.program S K xs).program S K ys).program S K xs).same ((T.program S K ys).program S K xs) = true
  c1 : ∀ ks, (((T.program S K xs).program S K ys).program S K xs).crash ks = ((T.program S K xs).program S K ys).program S K xs
  c2 : ∀ ks, ((T.program S K ys).program S K xs).crash ks = (T.program S K ys).program S K xs
theorem Up.thrice {T : NorS} (h : T.Up) (S : Int) (K : Nat) (xs ys : List Int) (hx : xs.length ≤ 64 - K) (hy : ys.length ≤ 64 - K) (h0 : 0 ≤ S) (h1 : S < T.n) (hk : K < 64) (hl : at_ S K + (64 - K) ≤ T.l.length) : Thrice T S K xs ys := by
  have f : ∀ t : NorS, t.Up → t.n = T.n → ∀ zs : List Int, zs.length ≤ 64 - K → t.program S K zs = t.mid (andL t.l (at_ S K) zs) ∧ t.programE S K zs = 0 := fun t hu hn zs hz =>
    hu.program (hu.fits h0 (by rw [hn]; exact h1) (by omega) (by omega) (by omega))
  have a1 := f T h rfl xs hx
  have a2 := f _ (h.mid (andL T.l (at_ S K) xs)) rfl ys hy
  have a3 := f _ ((h.mid (andL T.l (at_ S K) xs)).mid (andL (T.mid (andL T.l (at_ S K) xs)).l (at_ S K) ys)) rfl xs hx
  have b1 := f T h rfl ys hy
  have b2 := f _ (h.mid (andL T.l (at_ S K) ys)) rfl xs hx
  have e : andL (andL (andL T.l (at_ S K) xs) (at_ S K) ys) (at_ S K) xs = andL (andL T.l (at_ S K) ys) (at_ S K) xs := andL_thrice _ _ _ _ (by omega) (by omega)
  refine ⟨a1.2, ?_, ?_, b1.2, ?_, ?_, ?_, ?_⟩
  · rw [a1.1]; exact a2.2
  · rw [a1.1, a2.1]; exact a3.2
  · rw [b1.1]; exact b2.2
  · rw [a1.1, a2.1, a3.1, b1.1, b2.1]
    have e' : andL ((T.mid (andL T.l (at_ S K) xs)).mid (andL (T.mid (andL T.l (at_ S K) xs)).l (at_ S K) ys)).l (at_ S K) xs = andL (T.mid (andL T.l (at_ S K) ys)).l (at_ S K) xs := e
    rw [e']
    exact same_self _
  · intro ks; rw [a1.1, a2.1, a3.1]; exact (((h.mid _).mid _).mid _).crash ks
  · intro ks; rw [b1.1, b2.1]; exact ((h.mid _).mid _).crash ks
end NorS
end Go.Proofs.Ytlbnhmcejbidnaa
