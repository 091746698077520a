/-
  Plain: what an erasing, and a writing, that are OK leave.
-/
import Derived.Test.YtmeegehmbphooaaTalP2
namespace Go.Proofs.Ytmeegehmbphooaa
/-- m words from o on are of ones -/
def onesTo (f : Nat → Int) (o m : Nat) : Nat → Int := fun k => if o ≤ k ∧ k < o + m then 4294967295 else f k
/-- words are laid from place k on -/
def laidF (f : Nat → Int) (k : Nat) (l : List Int) : Nat → Int := fun j => if k ≤ j ∧ j < k + l.length then l.getD (j - k) 0 else f j
namespace DrvS
variable {d : DrvS} {s : NorS}
theorem er_ok (hs : s.Ok) (hd : d.Ok s) {i : Nat} (h : d.erE s i = 0) : i < d.many ∧ s.down = false ∧ (d.er s i).down = false ∧ (d.er s i).n = s.n ∧ (d.er s i).half = s.half ∧ (d.er s i).arm = s.step.arm ∧
    ∀ k, d.fn (d.er s i) k = onesTo (d.fn s) (64 * i) 64 k := by
  have hn := hd.n
  have hm : 0 ≤ (i : Int) ∧ (i : Int) < d.many := by
    by_cases hm : 0 ≤ (i : Int) ∧ (i : Int) < d.many
    · exact hm
    · unfold erE at h; rw [if_neg hm] at h; cases h
  have h1 : s.eraseE (d.first + i) = 0 := by unfold erE at h; rwa [if_pos hm] at h
  have hup : s.up ((d.first : Int) + i) 0 0 = 0 := by
    by_cases hu : s.up ((d.first : Int) + i) 0 0 = 0
    · exact hu
    · unfold NorS.eraseE at h1; rw [if_neg hu] at h1; exact absurd h1 hu
  have hst : s.steps = true := by
    by_cases hst : s.steps = true
    · exact hst
    · unfold NorS.eraseE at h1; rw [if_pos hup, if_neg hst] at h1; cases h1
  have hdn := (NorS.up_zero hup).1
  have hE : d.er s i = { s.step with l := NorS.lay s.l (NorS.at_ ((d.first : Int) + i) 0) (List.replicate 64 4294967295) } := by
    unfold er NorS.erase
    rw [if_pos hm, if_pos hup, if_pos hst]
  have hat : NorS.at_ ((d.first : Int) + i) 0 = (d.first + i) * 64 := by unfold NorS.at_; omega
  have hlen := hs.len
  refine ⟨by omega, hdn, ?_, ?_, ?_, by rw [hE], fun k => ?_⟩
  · rw [hE]; show s.step.down = false; rw [NorS.step_down, hdn, hst]; rfl
  · rw [hE]; exact NorS.step_n s
  · rw [hE]; exact NorS.step_half s
  · have hrep : ∀ i, i < 64 → (List.replicate 64 (4294967295 : Int)).getD i 0 = 4294967295 := fun i hi => by
      rw [List.getD_eq_getElem?_getD, List.getElem?_replicate, if_pos hi]; rfl
    have key := lay_at (List.replicate 64 (4294967295 : Int)) s.l ((d.first + i) * 64) (d.base + k) (by rw [List.length_replicate]; omega)
    rw [List.length_replicate] at key
    unfold fn onesTo NorS.wd
    rw [hE]
    simp only
    rw [hat, key]
    have hb : d.base = d.first * 64 := rfl
    by_cases hk : 64 * i ≤ k ∧ k < 64 * i + 64
    · rw [if_pos hk, if_pos (by omega)]; exact hrep _ (by omega)
    · rw [if_neg hk, if_neg (by omega)]
theorem wr_ok (hs : s.Ok) (hd : d.Ok s) {b : Nat} {l : List Int} (h : d.wrE s b l = 0) : b + l.length ≤ d.many * 64 ∧ s.down = false ∧ (d.wr s b l).down = false ∧ (d.wr s b l).n = s.n ∧ (d.wr s b l).half = s.half ∧
    ∀ k, d.fn (d.wr s b l) k = laidF (d.fn s) b l k := by
  have h0 : d.rdE s b l.length = 0 := by
    by_cases h0 : d.rdE s b l.length = 0
    · exact h0
    · unfold wrE at h; rw [if_neg h0] at h; exact absurd h h0
  obtain ⟨hdn, h1, h2, h3, h4⟩ := rdE_zero h0
  have hset : d.sets s b l = false := by
    cases hset : d.sets s b l with
    | false => rfl
    | true =>
      unfold wrE at h
      rw [if_pos h0] at h
      have : (if d.sets s b l = true then (50 : Int) else _) = 0 := h
      rw [if_pos hset] at this; cases this
  obtain ⟨g1, g2, g3, g4, g5⟩ := wr_go hdn hs hd (k := b) (x := l) (by omega) hset
  have hdone : s.doneN l.length = l.length := by
    by_cases e : s.doneN l.length = l.length
    · exact e
    · rw [h, if_neg e] at g1; cases g1
  refine ⟨by omega, hdn, by rw [g2, hdone]; simp, g4, g3, fun k => ?_⟩
  unfold fn laidF
  rw [g5, hdone]
  have hb : d.base = d.first * 64 := rfl
  by_cases hk : b ≤ k ∧ k < b + l.length
  · rw [if_pos hk, if_pos (by omega), show d.base + k - (d.base + b) = k - b from by omega]
  · rw [if_neg hk, if_neg (by omega)]
end DrvS
theorem onesTo_next (f : Nat → Int) (o m k : Nat) : (if k = o + m then 4294967295 else onesTo f o m k) = onesTo f o (m + 1) k := by
  unfold onesTo
  by_cases e : k = o + m
  · rw [if_pos e, if_pos (by omega)]
  · rw [if_neg e]
    by_cases h : o ≤ k ∧ k < o + m
    · rw [if_pos h, if_pos (by omega)]
    · rw [if_neg h, if_neg (by omega)]
theorem laidF_congr {f g : Nat → Int} {n k : Nat} {l : List Int} (h : ∀ i, i < n → g i = f i) : ∀ i, i < n → laidF g k l i = laidF f k l i := fun i hi => by
  unfold laidF; rw [h i hi]
theorem onesTo_congr {f g : Nat → Int} {n o m : Nat} (h : ∀ i, i < n → g i = f i) : ∀ i, i < n → onesTo g o m i = onesTo f o m i := fun i hi => by
  unfold onesTo; rw [h i hi]
end Go.Proofs.Ytmeegehmbphooaa
