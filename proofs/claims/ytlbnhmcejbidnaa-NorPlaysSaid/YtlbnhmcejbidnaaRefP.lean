/-
  Plain: what the printed functions of the document's flash tell is what the plain model does.
-/
import Derived.Test.YtlbnhmcejbidnaaNorReads
import Derived.Test.YtlbnhmcejbidnaaPNorPlaysx0
import Derived.Test.YtlbnhmcejbidnaaPNorPlaysx1
import Derived.Test.YtlbnhmcejbidnaaPNorPlaysx2
import Derived.Test.YtlbnhmcejbidnaaPNorPlaysx4
import Derived.Test.YtlbnhmcejbidnaaPNorPlaysx5
namespace Go.Proofs.Ytlbnhmcejbidnaa
open Go.RowKit Go.Proofs.YtlbnhmcejbidnaaW.PrintWords Go.Proofs.Ytlbnhmcejbidnaa.PNorPlays

theorem w64 {a : Int} (h0 : -9223372036854775808 ≤ a) (h1 : a ≤ 9223372036854775807) : wrap64 a = a := by unfold wrap64; omega

namespace NorS
def tup (s : NorS) : List Int × Int × Int × Bool × Int := (s.l, s.guard, s.arm, s.down, s.half)
def tupE (s : NorS) (e : Int) : List Int × Int × Int × Bool × Int × Int := (s.l, s.guard, s.arm, s.down, s.half, e)
theorem up_down {s : NorS} (h : s.down = true) (sec k m : Int) : s.up sec k m = 40 := by unfold up; rw [if_pos h]
theorem up_ok {s : NorS} (h : ¬ s.down = true) {sec k m : Int} (ht : s.there sec k m = true) : s.up sec k m = 0 := by unfold up; rw [if_neg h, if_pos ht]
theorem up_arg {s : NorS} (h : ¬ s.down = true) {sec k m : Int} (ht : ¬ s.there sec k m = true) : s.up sec k m = 2 := by unfold up; rw [if_neg h, if_neg ht]
theorem there_iff {s : NorS} {sec k m : Int} : s.there sec k m = true ↔ 0 ≤ sec ∧ sec < s.n ∧ 0 ≤ k ∧ m ≤ 64 ∧ k ≤ 64 - m := by
  unfold there; simp only [Bool.and_eq_true, decide_eq_true_eq, and_assoc]
end NorS

theorem rf_sectors {s : NorS} (h : s.Ok) (g a : Int) (d : Bool) (f : Int) : blockhouseref04_Nor_Sectors.f s.l g a d f = some (s.n : Int) := by
  unfold blockhouseref04_Nor_Sectors.f
  have := h.len; have := h.n2
  rw [w64 (by omega) (by omega)]
  congr 1
  omega
theorem rf_right {s : NorS} (h : s.Ok) (g a : Int) (d : Bool) (f : Int) (sec k : Int) (xs : List Int) (hk : k ≤ 64) :
    blockhouseref04_Nor_right.f s.l g a d f sec k xs = some (s.there sec k xs.length) := by
  unfold blockhouseref04_Nor_right.f
  rw [rf_sectors h]
  simp only [Option.bind_some]
  have e : ∀ b : Bool, (b = true ↔ s.there sec k xs.length = true) → some b = some (s.there sec k xs.length) := fun b hb => by
    rw [Bool.eq_iff_iff.2 hb]
  by_cases h1 : sec ≥ 0
  · rw [if_pos h1]
    by_cases h2 : sec < s.n
    · rw [if_pos h2]
      by_cases h3 : k ≥ 0
      · rw [if_pos h3]
        by_cases h4 : (xs.length : Int) ≤ 64
        · rw [if_pos h4, w64 (by omega) (by omega)]
          apply e
          rw [NorS.there_iff, decide_eq_true_eq]; omega
        · rw [if_neg h4]; apply e; rw [NorS.there_iff]; simp only [Bool.false_eq_true, false_iff]; omega
      · rw [if_neg h3]; apply e; rw [NorS.there_iff]; simp only [Bool.false_eq_true, false_iff]; omega
    · rw [if_neg h2]; apply e; rw [NorS.there_iff]; simp only [Bool.false_eq_true, false_iff]; omega
  · rw [if_neg h1]; apply e; rw [NorS.there_iff]; simp only [Bool.false_eq_true, false_iff]; omega
theorem rf_own (l : List Int) (hl : l.length ≤ 65536) (g a : Int) (d : Bool) (f : Int) : blockhouseref04_Nor_own.f l g a d f = some (l, g, a, d, f) := by
  unfold blockhouseref04_Nor_own.f
  rw [if_pos (by simp; omega), List.nil_append]
theorem NorS.Ok.small {s : NorS} (h : s.Ok) : s.l.length ≤ 65536 := by have := h.len; have := h.n2; omega
theorem rf_step {s : NorS} (h : s.Ok) : blockhouseref04_Nor_step.f s.l s.guard s.arm s.down s.half = some (s.step.l, s.step.guard, s.step.arm, s.step.down, s.step.half, s.steps) := by
  have ha := h.a0; have hb := h.a1
  unfold blockhouseref04_Nor_step.f NorS.step NorS.steps
  by_cases h0 : s.arm = 0
  · rw [if_pos h0, if_pos h0, h0]; rfl
  · rw [if_neg h0, if_neg h0]
    have e : (s.arm == 0) = false := by simpa using h0
    rw [e]
    by_cases h1 : s.arm > 0
    · rw [if_pos h1, w64 (by omega) (by omega), show max (s.arm - 1) (-1) = s.arm - 1 from by omega]; rfl
    · rw [if_neg h1, show max (s.arm - 1) (-1) = s.arm from by omega]; rfl

theorem drop_at {xs : List Int} {j : Nat} (h : j < xs.length) : xs.drop j = rd xs j :: xs.drop (j + 1) := by
  rw [List.drop_eq_getElem_cons h]
  simp [rd, h]
theorem rf_prog {S K : Nat} (hS : S ≤ 1024) (hK : K ≤ 64) (xs : List Int) (ux : U32 xs) (hx : xs.length ≤ 64) : ∀ (d j k : Nat) (s : NorS), s.Ok → xs.length = j + d → d < k → S * 64 + K + xs.length ≤ s.l.length →
    blockhouseref04_Nor_Program.l0 k S K xs j s.l s.guard s.arm s.down s.half = some ((s.prog (S * 64 + K + j) (xs.drop j)).tupE (if s.progs (xs.drop j) = true then 0 else 40)) := by
  intro d
  induction d with
  | zero =>
    intro j k s h hj hk hl
    obtain ⟨k, rfl⟩ : ∃ m, k = m + 1 := ⟨k - 1, by omega⟩
    simp only [blockhouseref04_Nor_Program.l0]
    rw [if_neg (by omega), List.drop_of_length_le (by omega)]
    rfl
  | succ d ih =>
    intro j k s h hj hk hl
    obtain ⟨k, rfl⟩ : ∃ m, k = m + 1 := ⟨k - 1, by omega⟩
    simp only [blockhouseref04_Nor_Program.l0]
    rw [if_pos (by omega), rf_step h]
    simp only [Option.bind_some]
    rw [drop_at (show j < xs.length by omega)]
    have e : wrap64 (wrap64 (wrap64 ((S : Int) * 64) + K) + j) = ((S * 64 + K + j : Nat) : Int) := by
      rw [w64 (a := (S : Int) * 64) (by omega) (by omega), w64 (a := (S : Int) * 64 + K) (by omega) (by omega), w64 (by omega) (by omega)]
      omega
    have ej : wrap64 ((j : Int) + 1) = ((j + 1 : Nat) : Int) := by rw [w64 (by omega) (by omega)]; omega
    by_cases hs : s.steps = true
    · have hb := h.step.u.get (S * 64 + K + j)
      have hc := ux.get j
      have ew : Go.bits .and .u32 (rd s.step.l ((S * 64 + K + j : Nat) : Int)) (rd xs j) = wand (s.wd (S * 64 + K + j)) (rd xs j) := by
        unfold rd
        rw [Int.toNat_natCast, Int.toNat_natCast, u32_and _ _ hb.1 hb.2 hc.1 hc.2]
        unfold wand NorS.wd
        rw [NorS.step_l]
      rw [if_pos hs, e, ej, if_pos (by omega), if_pos (by rw [NorS.step_l]; omega), if_pos (by omega), ew, Int.toNat_natCast]
      have hi := ih (j + 1) k (s.step.put (S * 64 + K + j) (wand (s.wd (S * 64 + K + j)) (rd xs j))) (h.step.put _ (wand_u32 (h.wd _))) (by omega) (by omega) (by simp only [NorS.put, List.length_set]; rw [NorS.step_l]; exact hl)
      rw [← Nat.add_assoc] at hi
      refine hi.trans ?_
      show _ = some (NorS.tupE (if s.steps = true then _ else _) (if (if s.steps = true then _ else _) = true then 0 else 40))
      rw [if_pos hs, if_pos hs, NorS.progs_put]
    · rw [if_neg hs]
      show _ = some (NorS.tupE (if s.steps = true then _ else _) (if (if s.steps = true then _ else _) = true then 0 else 40))
      rw [if_neg hs, if_neg hs]
      rfl
theorem rf_program {s : NorS} (h : s.Ok) (sec k : Int) (xs : List Int) (ux : U32 xs) :
    ∃ m, blockhouseref04_Nor_Program.f m s.l s.guard s.arm s.down s.half sec k xs = some ((s.program sec k xs).tupE (s.programE sec k xs)) := by
  refine ⟨xs.length + 3, ?_⟩
  unfold blockhouseref04_Nor_Program.f NorS.program NorS.programE
  by_cases hd : s.down = true
  · rw [if_pos hd, NorS.up_down hd]; rfl
  · rw [if_neg hd]
    by_cases hk : k > 64
    · rw [if_pos hk, NorS.up_arg hd (by rw [NorS.there_iff]; omega)]
      simp only [blockhouseref04_Nor_Program.j0]
      rfl
    · rw [if_neg hk, rf_right h _ _ _ _ _ _ _ (by omega)]
      simp only [Option.bind_some, blockhouseref04_Nor_Program.j0]
      by_cases ht : s.there sec k xs.length = true
      · have ht' := NorS.there_iff.1 ht
        obtain ⟨i0, i1, i2, i3, i4⟩ := ht'
        obtain ⟨S, rfl⟩ := Int.eq_ofNat_of_zero_le i0
        obtain ⟨K, rfl⟩ := Int.eq_ofNat_of_zero_le i2
        have hl := h.len; have hn := h.n2
        rw [ht, NorS.up_ok hd ht, if_neg (by simp), rf_own _ h.small]
        simp only [Option.bind_some]
        have := rf_prog (S := S) (K := K) (by omega) (by omega) xs ux (by omega) xs.length 0 (xs.length + 2) s h (by omega) (by omega) (by omega)
        rw [List.drop_zero, Nat.add_zero] at this
        refine this.trans ?_
        simp only [if_true]
        rfl
      · rw [NorS.up_arg hd ht, if_pos (by simpa using ht)]; rfl

theorem rf_rew {S K : Nat} (hS : S ≤ 1024) (hK : K ≤ 64) (xs : List Int) (hx : xs.length ≤ 64) (g a : Int) (dn : Bool) (hf : Int) : ∀ (d j k : Nat) (l : List Int), xs.length = j + d → d < k → S * 64 + K + xs.length ≤ l.length →
    blockhouseref04_Nor_Rewrite.l0 k S K xs j l g a dn hf = some (NorS.lay l (S * 64 + K + j) (xs.drop j), g, a, dn, hf, 0) := by
  intro d
  induction d with
  | zero =>
    intro j k l hj hk hl
    obtain ⟨k, rfl⟩ : ∃ m, k = m + 1 := ⟨k - 1, by omega⟩
    simp only [blockhouseref04_Nor_Rewrite.l0]
    rw [if_neg (by omega), List.drop_of_length_le (by omega)]
    rfl
  | succ d ih =>
    intro j k l hj hk hl
    obtain ⟨k, rfl⟩ : ∃ m, k = m + 1 := ⟨k - 1, by omega⟩
    simp only [blockhouseref04_Nor_Rewrite.l0]
    have e : wrap64 (wrap64 (wrap64 ((S : Int) * 64) + K) + j) = ((S * 64 + K + j : Nat) : Int) := by
      rw [w64 (a := (S : Int) * 64) (by omega) (by omega), w64 (a := (S : Int) * 64 + K) (by omega) (by omega), w64 (by omega) (by omega)]
      omega
    have ej : wrap64 ((j : Int) + 1) = ((j + 1 : Nat) : Int) := by rw [w64 (by omega) (by omega)]; omega
    rw [if_pos (by omega), if_pos (by omega), e, ej, if_pos (by omega), if_pos (by omega), Int.toNat_natCast, ih (j + 1) k _ (by omega) (by omega) (by simpa using hl), drop_at (show j < xs.length by omega)]
    rfl
theorem rf_rewrite {s : NorS} (h : s.Ok) (sec k : Int) (xs : List Int) :
    ∃ m, blockhouseref04_Nor_Rewrite.f m s.l s.guard s.arm s.down s.half sec k xs = some ((s.rewrite sec k xs).tupE (s.rewriteE sec k xs)) := by
  refine ⟨xs.length + 3, ?_⟩
  unfold blockhouseref04_Nor_Rewrite.f
  by_cases ht : s.there sec k xs.length = true
  · obtain ⟨i0, i1, i2, i3, i4⟩ := NorS.there_iff.1 ht
    rw [if_neg (by omega), rf_right h _ _ _ _ _ _ _ (by omega)]
    simp only [Option.bind_some, blockhouseref04_Nor_Rewrite.j0]
    obtain ⟨S, rfl⟩ := Int.eq_ofNat_of_zero_le i0
    obtain ⟨K, rfl⟩ := Int.eq_ofNat_of_zero_le i2
    have hl := h.len; have hn := h.n2
    rw [ht, if_neg (by simp)]
    by_cases hg : (S : Int) < s.guard
    · have hE : s.rewriteE S K xs = 41 := by unfold NorS.rewriteE; rw [if_pos ht, if_pos hg]
      have hR : s.rewrite S K xs = s := by unfold NorS.rewrite; rw [hE]; rfl
      rw [if_pos hg, hE, hR]; rfl
    · have hE : s.rewriteE S K xs = 0 := by unfold NorS.rewriteE; rw [if_pos ht, if_neg hg]
      have hR : s.rewrite S K xs = { s with l := NorS.lay s.l (NorS.at_ S K) xs } := by unfold NorS.rewrite; rw [if_pos hE]
      rw [if_neg hg, rf_own _ h.small, hE, hR]
      simp only [Option.bind_some]
      have := rf_rew (S := S) (K := K) (by omega) (by omega) xs (by omega) s.guard s.arm s.down s.half xs.length 0 (xs.length + 2) s.l (by omega) (by omega) (by omega)
      rw [List.drop_zero, Nat.add_zero] at this
      exact this
  · have hE : s.rewriteE sec k xs = 2 := by unfold NorS.rewriteE; rw [if_neg ht]
    have hR : s.rewrite sec k xs = s := by unfold NorS.rewrite; rw [hE]; rfl
    rw [hE, hR]
    by_cases hk : k > 64
    · rw [if_pos hk]
      simp only [blockhouseref04_Nor_Rewrite.j0]
      rfl
    · rw [if_neg hk, rf_right h _ _ _ _ _ _ _ (by omega)]
      simp only [Option.bind_some, blockhouseref04_Nor_Rewrite.j0]
      rw [if_pos (by simpa using ht)]; rfl
theorem rf_arm {s : NorS} (k : Int) : blockhouseref04_Nor_Arm.f s.l s.guard s.arm s.down s.half k = some (s.arms k).tup := by
  unfold blockhouseref04_Nor_Arm.f NorS.arms
  by_cases hd : s.down = true
  · rw [if_pos hd, if_pos hd]; rfl
  · rw [if_neg hd, if_neg hd]
    by_cases hk : k < 0
    · rw [if_pos hk, show max k 0 = 0 from by omega]; rfl
    · rw [if_neg hk, show max k 0 = k from by omega]; rfl
theorem rf_read {s : NorS} (h : s.Ok) (sec k : Int) : blockhouseref04_Nor_Read.f s.l s.guard s.arm s.down s.half sec k = some (s.read sec k, s.up sec k 1) := by
  have hl := h.len; have hn2 := h.n2
  unfold blockhouseref04_Nor_Read.f NorS.read
  by_cases hd : s.down = true
  · rw [if_pos hd, NorS.up_down hd]; rfl
  · rw [if_neg hd]
    by_cases h1 : sec < 0
    · rw [if_pos h1, NorS.up_arg hd (by rw [NorS.there_iff]; omega)]; rfl
    · rw [if_neg h1, rf_sectors h]
      simp only [Option.bind_some]
      by_cases h2 : sec ≥ s.n
      · rw [if_pos h2, NorS.up_arg hd (by rw [NorS.there_iff]; omega)]; rfl
      · rw [if_neg h2]
        by_cases h3 : k < 0
        · rw [if_pos h3, NorS.up_arg hd (by rw [NorS.there_iff]; omega)]; rfl
        · rw [if_neg h3]
          by_cases h4 : k ≥ 64
          · rw [if_pos h4, NorS.up_arg hd (by rw [NorS.there_iff]; omega)]; rfl
          · rw [if_neg h4, NorS.up_ok hd (by rw [NorS.there_iff]; omega), if_pos rfl]
            obtain ⟨S, rfl⟩ := Int.eq_ofNat_of_zero_le (a := sec) (by omega)
            obtain ⟨K, rfl⟩ := Int.eq_ofNat_of_zero_le (a := k) (by omega)
            have e : wrap64 (wrap64 ((S : Int) * 64) + K) = ((S * 64 + K : Nat) : Int) := by
              rw [w64 (a := (S : Int) * 64) (by omega) (by omega), w64 (by omega) (by omega)]
              omega
            rw [e, if_pos (by omega), if_pos (by omega)]
            rfl
theorem rf_burn {H : Nat} (hH : H ≤ 1024) (ks : List Bool) (g a : Int) (dn : Bool) : ∀ (d i k : Nat) (l : List Int), 64 = i + d → 2 * d + 1 < k → H * 64 + 64 ≤ l.length →
    blockhouseref04_Nor_Crash.l0 k ks i l g a dn H = some (NorS.burn ks (H * 64) d i l, g, -1, false, -1) := by
  intro d
  induction d with
  | zero =>
    intro i k l hi hk hl
    obtain ⟨k, rfl⟩ : ∃ m, k = m + 2 := ⟨k - 2, by omega⟩
    simp only [blockhouseref04_Nor_Crash.l0, blockhouseref04_Nor_Crash.j1]
    rw [if_neg (by omega), if_neg (by simp)]
    rfl
  | succ d ih =>
    intro i k l hi hk hl
    obtain ⟨k, rfl⟩ : ∃ m, k = m + 2 := ⟨k - 2, by omega⟩
    rw [blockhouseref04_Nor_Crash.l0, if_pos (by omega), blockhouseref04_Nor_Crash.j1]
    have e : wrap64 (wrap64 ((H : Int) * 64) + i) = ((H * 64 + i : Nat) : Int) := by
      rw [w64 (a := (H : Int) * 64) (by omega) (by omega), w64 (by omega) (by omega)]
      omega
    have ei : wrap64 ((i : Int) + 1) = ((i + 1 : Nat) : Int) := by rw [w64 (by omega) (by omega)]; omega
    rw [if_pos (by simp), e, ei, NorS.burn]
    by_cases hk2 : i < ks.length
    · rw [if_pos (by omega), if_pos (by omega)]
      have er : rdOf false ks (i : Int) = ks.getD i false := rfl
      rw [er]
      by_cases hv : ks.getD i false = true
      · rw [if_pos hv, if_pos hv, if_pos (by omega), if_pos (by omega), Int.toNat_natCast]
        exact ih (i + 1) k _ (by omega) (by omega) (by simpa using hl)
      · rw [if_neg hv, if_neg hv]
        exact ih (i + 1) k _ (by omega) (by omega) hl
    · have hv : ¬ ks.getD i false = true := by rw [List.getD_eq_getElem?_getD, List.getElem?_eq_none (by omega)]; simp
      rw [if_neg (by omega), if_neg hv]
      exact ih (i + 1) k _ (by omega) (by omega) hl
theorem rf_crash_at {s : NorS} (h : s.Ok) (ks : List Bool) (k : Nat) (hk : 130 < k) : blockhouseref04_Nor_Crash.f k s.l s.guard s.arm s.down s.half ks = some (s.crash ks).tup := by
  have hl := h.len; have hn2 := h.n2; have h1 := h.h1
  unfold blockhouseref04_Nor_Crash.f
  rw [rf_own _ h.small]
  simp only [Option.bind_some]
  by_cases h0 : 0 ≤ s.half
  · have hC : (s.crash ks).tup = (NorS.burn ks (NorS.at_ s.half 0) 64 0 s.l, s.guard, -1, false, -1) := by unfold NorS.crash NorS.tup; rw [if_pos h0]
    rw [hC]
    obtain ⟨H, hH⟩ := Int.eq_ofNat_of_zero_le h0
    rw [hH]
    rw [hH] at h1
    generalize hD : 64 = D
    have := rf_burn (H := H) (by omega) ks s.guard s.arm s.down D 0 k s.l (by omega) (by omega) (by omega)
    have ea : NorS.at_ (H : Int) 0 = H * 64 := by simp [NorS.at_]
    rw [show ((0 : Nat) : Int) = 0 from rfl] at this
    rw [this, ea]
  · have hC : (s.crash ks).tup = (s.l, s.guard, -1, false, -1) := by unfold NorS.crash NorS.tup; rw [if_neg h0]
    rw [hC]
    obtain ⟨k, rfl⟩ : ∃ m, k = m + 2 := ⟨k - 2, by omega⟩
    rw [blockhouseref04_Nor_Crash.l0, if_pos (by omega), blockhouseref04_Nor_Crash.j1, if_neg (by simpa using h0)]
theorem rf_crash {s : NorS} (h : s.Ok) (ks : List Bool) : ∃ m, blockhouseref04_Nor_Crash.f m s.l s.guard s.arm s.down s.half ks = some (s.crash ks).tup :=
  ⟨131, rf_crash_at h ks 131 (by omega)⟩
theorem rf_fill (n : Nat) (hn : n ≤ 1024) (g a : Int) (dn : Bool) (hf : Int) : ∀ (d i k : Nat), 64 * n = i + d → d < k →
    blockhouseref04_New.l0 k n i (List.replicate i 4294967295) g a dn hf = some (List.replicate (64 * n) 4294967295, g, a, dn, hf, 0) := by
  intro d
  induction d with
  | zero =>
    intro i k hi hk
    obtain ⟨k, rfl⟩ : ∃ m, k = m + 1 := ⟨k - 1, by omega⟩
    simp only [blockhouseref04_New.l0]
    rw [w64 (a := (n : Int) * 64) (by omega) (by omega), if_neg (by omega), show 64 * n = i from by omega]
  | succ d ih =>
    intro i k hi hk
    obtain ⟨k, rfl⟩ : ∃ m, k = m + 1 := ⟨k - 1, by omega⟩
    simp only [blockhouseref04_New.l0]
    have ei : wrap64 ((i : Int) + 1) = ((i + 1 : Nat) : Int) := by rw [w64 (by omega) (by omega)]; omega
    rw [w64 (a := (n : Int) * 64) (by omega) (by omega), if_pos (by omega), if_pos (by simp; omega), ei, ← List.replicate_succ']
    exact ih (i + 1) k (by omega) (by omega)
theorem rf_new (n g : Nat) (h1 : 1 ≤ n) (h2 : n ≤ 1024) (hg : g ≤ n) : ∃ m, blockhouseref04_New.f m n g = some ((NorS.new n g).tupE 0) := by
  refine ⟨64 * n + 3, ?_⟩
  unfold blockhouseref04_New.f
  rw [if_neg (by omega), if_neg (by omega), if_neg (by omega)]
  simp only [blockhouseref04_New.j0]
  rw [if_neg (by simp; omega)]
  have := rf_fill n h2 g (-1) false (-1) (64 * n) 0 (64 * n + 2) (by omega) (by omega)
  rw [List.replicate_zero, show ((0 : Nat) : Int) = 0 from rfl] at this
  rw [this]
  rfl
theorem rf_new_bad (n g : Int) (h : n < 1 ∨ 1024 < n ∨ g < 0 ∨ n < g) : ∃ m, blockhouseref04_New.f m n g = some ([], 0, 0, false, 0, 2) := by
  refine ⟨1, ?_⟩
  unfold blockhouseref04_New.f
  by_cases h1 : n < 1
  · rw [if_pos h1]; simp only [blockhouseref04_New.j0]; rfl
  · rw [if_neg h1]
    by_cases h2 : n > 1024
    · rw [if_pos h2]; simp only [blockhouseref04_New.j0]; rfl
    · rw [if_neg h2]
      by_cases h3 : g < 0
      · rw [if_pos h3]; simp only [blockhouseref04_New.j0]; rfl
      · rw [if_neg h3]
        simp only [blockhouseref04_New.j0]
        rw [if_pos (by simp; omega)]
end Go.Proofs.Ytlbnhmcejbidnaa
