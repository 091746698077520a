/-
  Plain: an armed flash does as many steps as it is armed with.
-/
import Derived.Test.YtlbnhmcejbidnaaNorUp
namespace Go.Proofs.Ytlbnhmcejbidnaa
namespace NorS
def armed (s : NorS) (m : Int) : NorS := { s with arm := m }
theorem armed_step {b : NorS} {m : Int} (h : 0 < m) : (b.armed m).step = b.armed (m - 1) := by
  unfold step armed
  rw [if_neg (by simp only; omega)]
  simp only
  congr 1
  omega
theorem armed_steps {b : NorS} {m : Int} (h : 0 < m) : (b.armed m).steps = true := by
  unfold steps armed
  simp only [Bool.not_eq_true', beq_eq_false_iff_ne]
  omega
theorem prog_armed (xs : List Int) : ∀ {b : NorS} (i : Nat) (m : Int), b.Up → 0 ≤ m →
    ((xs.length : Int) ≤ m → prog (b.armed m) i xs = (prog b i xs).armed (m - xs.length) ∧ progs (b.armed m) xs = true) ∧
    (m < (xs.length : Int) → progs (b.armed m) xs = false ∧ (prog (b.armed m) i xs).down = true) := by
  induction xs with
  | nil =>
    intro b i m h hm
    refine ⟨fun _ => ⟨?_, rfl⟩, fun h => ?_⟩
    · show b.armed m = b.armed (m - ((0 : Nat) : Int))
      rw [show m - ((0 : Nat) : Int) = m from by omega]
    · simp only [List.length_nil] at h; omega
  | cons x r ih =>
    intro b i m h hm
    simp only [List.length_cons]
    by_cases h0 : m = 0
    · subst h0
      refine ⟨fun h => by omega, fun _ => ⟨rfl, rfl⟩⟩
    · have e1 : prog (b.armed m) i (x :: r) = prog ((b.put i (wand (b.wd i) x)).armed (m - 1)) (i + 1) r := by
        rw [show prog (b.armed m) i (x :: r) = if (b.armed m).steps = true then prog ((b.armed m).step.put i (wand ((b.armed m).wd i) x)) (i + 1) r else (b.armed m).step from rfl, if_pos (armed_steps (by omega)), armed_step (by omega)]
        rfl
      have e2 : prog b i (x :: r) = prog (b.put i (wand (b.wd i) x)) (i + 1) r := by
        rw [show prog b i (x :: r) = if b.steps = true then prog (b.step.put i (wand (b.wd i) x)) (i + 1) r else b.step from rfl, if_pos h.steps, h.step]
      have e3 : progs (b.armed m) (x :: r) = progs ((b.put i (wand (b.wd i) x)).armed (m - 1)) r := by
        rw [show progs (b.armed m) (x :: r) = if (b.armed m).steps = true then progs (b.armed m).step r else false from rfl, if_pos (armed_steps (by omega)), armed_step (by omega)]
        exact (progs_put r (b.armed (m - 1)) i _).symm
      have hu : (b.put i (wand (b.wd i) x)).Up := ⟨h.d, h.a, h.h⟩
      obtain ⟨g1, g2⟩ := ih (i + 1) (m - 1) hu (by omega)
      rw [e1, e2, e3]
      refine ⟨fun hl => ?_, fun hl => g2 (by omega)⟩
      obtain ⟨k1, k2⟩ := g1 (by omega)
      refine ⟨?_, k2⟩
      rw [k1]
      congr 1
      omega
/-- what an op costs -/
def cost (y : Int) (o : OpS) : Int := if y = 0 ∧ 1 ≤ o.kind ∧ o.kind ≤ 4 then min o.l.length 70 else if y = 0 ∧ (o.kind = 5 ∨ o.kind = 6) then 1 else 0
theorem cost_nn (y : Int) (o : OpS) : 0 ≤ cost y o ∧ cost y o ≤ 70 := by
  unfold cost
  split
  · omega
  · split <;> omega
structure Arms (b : NorS) (o : OpS) (m : Int) : Prop where
  up : (b.does o).Up
  le : cost (b.doesE o) o ≤ m → (b.armed m).does o = (b.does o).armed (m - cost (b.doesE o) o) ∧ (b.armed m).doesE o = b.doesE o
  gt : m < cost (b.doesE o) o → (b.armed m).doesE o = 40 ∧ ((b.armed m).does o).down = true
theorem armed_zero (b : NorS) (m : Int) : b.armed (m - 0) = b.armed m := by rw [Int.sub_zero]
theorem does_armed {b : NorS} (h : b.Up) (o : OpS) (hk : ¬ (8 ≤ o.kind ∧ o.kind ≤ 10)) (m : Int) (hm : 0 ≤ m) : Arms b o m := by
  by_cases h1 : o.kind = 1 ∨ o.kind = 2 ∨ o.kind = 3 ∨ o.kind = 4
  · have k1 : 1 ≤ o.kind ∧ o.kind ≤ 4 := by omega
    have d : ∀ s : NorS, s.does o = s.program o.sector o.at_ (o.l.take 70) := fun s => by unfold does; rw [if_pos h1]
    have e : ∀ s : NorS, s.doesE o = s.programE o.sector o.at_ (o.l.take 70) := fun s => by unfold doesE; rw [if_pos h1]
    have hl : ((o.l.take 70).length : Int) = min o.l.length 70 := by rw [List.length_take]; omega
    have hup : (b.armed m).up o.sector o.at_ (o.l.take 70).length = b.up o.sector o.at_ (o.l.take 70).length := rfl
    by_cases hu : b.up o.sector o.at_ (o.l.take 70).length = 0
    · obtain ⟨p1, p2⟩ := h.program hu
      have hc : cost (b.doesE o) o = (o.l.take 70).length := by
        unfold cost
        rw [if_pos ⟨by rw [e]; exact p2, k1⟩]
        omega
      obtain ⟨q1, q2⟩ := prog_armed (o.l.take 70) (at_ o.sector o.at_) m h hm
      have pb : b.program o.sector o.at_ (o.l.take 70) = prog b (at_ o.sector o.at_) (o.l.take 70) := by unfold program; rw [if_pos hu]
      have pa : (b.armed m).program o.sector o.at_ (o.l.take 70) = prog (b.armed m) (at_ o.sector o.at_) (o.l.take 70) := by unfold program; rw [hup, if_pos hu]
      have ea : (b.armed m).programE o.sector o.at_ (o.l.take 70) = if progs (b.armed m) (o.l.take 70) = true then 0 else 40 := by unfold programE; rw [hup, if_pos hu]
      refine ⟨by rw [d, p1]; exact h.mid _, fun hle => ?_, fun hgt => ?_⟩
      · rw [hc] at hle ⊢
        obtain ⟨r1, r2⟩ := q1 hle
        refine ⟨by rw [d, d, pa, pb, r1], by rw [e, e, ea, r2, p2]; rfl⟩
      · rw [hc] at hgt
        obtain ⟨r1, r2⟩ := q2 hgt
        exact ⟨by rw [e, ea, r1]; rfl, by rw [d, pa]; exact r2⟩
    · have eb : b.programE o.sector o.at_ (o.l.take 70) = b.up o.sector o.at_ (o.l.take 70).length := by unfold programE; rw [if_neg hu]
      have ea : (b.armed m).programE o.sector o.at_ (o.l.take 70) = b.up o.sector o.at_ (o.l.take 70).length := by unfold programE; rw [hup, if_neg hu]
      have hc : cost (b.doesE o) o = 0 := by
        unfold cost
        rw [e, eb, if_neg (fun h => hu h.1), if_neg (fun h => hu h.1)]
      have pb : b.program o.sector o.at_ (o.l.take 70) = b := by unfold program; rw [if_neg hu]
      have pa : (b.armed m).program o.sector o.at_ (o.l.take 70) = b.armed m := by unfold program; rw [hup, if_neg hu]
      refine ⟨by rw [d, pb]; exact h, fun _ => ?_, fun hgt => by rw [hc] at hgt; omega⟩
      rw [hc, armed_zero]
      exact ⟨by rw [d, d, pa, pb], by rw [e, e, ea, eb]⟩
  · by_cases h5 : o.kind = 5 ∨ o.kind = 6
    · have d : ∀ s : NorS, s.does o = s.erase o.sector := fun s => by unfold does; rw [if_neg h1, if_pos h5]
      have e : ∀ s : NorS, s.doesE o = s.eraseE o.sector := fun s => by unfold doesE; rw [if_neg h1, if_pos h5]
      have hup : (b.armed m).up o.sector 0 0 = b.up o.sector 0 0 := rfl
      have n14 : ∀ y : Int, ¬ (y = 0 ∧ 1 ≤ o.kind ∧ o.kind ≤ 4) := fun y hy => by omega
      by_cases hu : b.up o.sector 0 0 = 0
      · have eb : b.eraseE o.sector = 0 := by unfold eraseE; rw [if_pos hu, if_pos h.steps]
        have hc : cost (b.doesE o) o = 1 := by
          unfold cost
          rw [if_neg (n14 _), if_pos ⟨by rw [e]; exact eb, h5⟩]
        have pb : b.erase o.sector = { b with l := lay b.l (at_ o.sector 0) (List.replicate 64 4294967295) } := by unfold erase; rw [if_pos hu, if_pos h.steps, h.step]
        refine ⟨by rw [d, pb]; exact ⟨h.d, h.a, h.h⟩, fun hle => ?_, fun hgt => ?_⟩
        · rw [hc] at hle ⊢
          have pa : (b.armed m).erase o.sector = { b.armed (m - 1) with l := lay b.l (at_ o.sector 0) (List.replicate 64 4294967295) } := by
            unfold erase; rw [hup, if_pos hu, if_pos (armed_steps (by omega)), armed_step (by omega)]
            generalize hL : lay (b.armed m).l (at_ o.sector 0) (List.replicate 64 4294967295) = L
            rw [show lay b.l (at_ o.sector 0) (List.replicate 64 4294967295) = L from hL]
          have ea : (b.armed m).eraseE o.sector = 0 := by unfold eraseE; rw [hup, if_pos hu, if_pos (armed_steps (by omega))]
          generalize lay b.l (at_ o.sector 0) (List.replicate 64 4294967295) = L at pa pb
          exact ⟨by rw [d, d, pa, pb]; rfl, by rw [e, e, ea, eb]⟩
        · rw [hc] at hgt
          have hm0 : m = 0 := by omega
          subst hm0
          have ea : (b.armed 0).eraseE o.sector = 40 := by unfold eraseE; rw [hup, if_pos hu]; rfl
          have pa : (b.armed 0).erase o.sector = { (b.armed 0).step with half := o.sector } := by unfold erase; rw [hup, if_pos hu]; rfl
          exact ⟨by rw [e, ea], by rw [d, pa]; rfl⟩
      · have eb : b.eraseE o.sector = b.up o.sector 0 0 := by unfold eraseE; rw [if_neg hu]
        have ea : (b.armed m).eraseE o.sector = b.up o.sector 0 0 := by unfold eraseE; rw [hup, if_neg hu]
        have hc : cost (b.doesE o) o = 0 := by
          unfold cost
          rw [e, eb, if_neg (fun h => hu h.1), if_neg (fun h => hu h.1)]
        have pb : b.erase o.sector = b := by unfold erase; rw [if_neg hu]
        have pa : (b.armed m).erase o.sector = b.armed m := by unfold erase; rw [hup, if_neg hu]
        refine ⟨by rw [d, pb]; exact h, fun _ => ?_, fun hgt => by rw [hc] at hgt; omega⟩
        rw [hc, armed_zero]
        exact ⟨by rw [d, d, pa, pb], by rw [e, e, ea, eb]⟩
    · have hc : ∀ y, cost y o = 0 := fun y => by
        unfold cost
        rw [if_neg (by omega), if_neg (by omega)]
      rw [show Arms b o m ↔ Arms b o m from Iff.rfl]
      by_cases h7 : o.kind = 7
      · have d : ∀ s : NorS, s.does o = s.rewrite o.sector o.at_ (o.l.take 70) := fun s => by unfold does; rw [if_neg h1, if_neg h5, if_pos h7]
        have e : ∀ s : NorS, s.doesE o = s.rewriteE o.sector o.at_ (o.l.take 70) := fun s => by unfold doesE; rw [if_neg h1, if_neg h5, if_pos h7]
        have ea : (b.armed m).rewriteE o.sector o.at_ (o.l.take 70) = b.rewriteE o.sector o.at_ (o.l.take 70) := rfl
        refine ⟨?_, fun _ => ?_, fun hgt => by rw [hc] at hgt; omega⟩
        · rw [d]; unfold rewrite; split
          · exact ⟨h.d, h.a, h.h⟩
          · exact h
        · rw [hc, armed_zero]
          refine ⟨?_, by rw [e, e, ea]⟩
          rw [d, d]; unfold rewrite; rw [ea]
          split <;> rfl
      · have d : ∀ s : NorS, s.does o = s := fun s => by unfold does; rw [if_neg h1, if_neg h5, if_neg h7, if_neg (by omega), if_neg (by omega)]
        have e : ∀ s : NorS, s.doesE o = 0 := fun s => by unfold doesE; rw [if_neg h1, if_neg h5, if_neg h7]
        refine ⟨by rw [d]; exact h, fun _ => ?_, fun hgt => by rw [hc] at hgt; omega⟩
        rw [hc, armed_zero]
        exact ⟨by rw [d, d], by rw [e, e]⟩
theorem armed_same (b : NorS) (m : Int) : (b.armed m).same b = true := decide_eq_true ⟨rfl, rfl, fun _ _ => rfl⟩
theorem new_up (n : Nat) (g : Int) : (new n g).Up := ⟨rfl, rfl, rfl⟩
theorem new_armed {m : Int} (h : 0 ≤ m) : (new 4 ((2 : Nat) : Int)).arms m = (new 4 ((2 : Nat) : Int)).armed m := by
  unfold arms armed
  rw [if_neg (by decide)]
  congr 1
  omega
end NorS
end Go.Proofs.Ytlbnhmcejbidnaa
