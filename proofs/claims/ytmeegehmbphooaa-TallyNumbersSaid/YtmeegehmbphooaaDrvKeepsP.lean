/-
  Plain: a writing that may be cut short.
-/
import Derived.Test.YtmeegehmbphooaaDrvEraseP
namespace Go.Proofs.Ytmeegehmbphooaa
namespace DrvS
variable {d : DrvS} {s : NorS}
theorem up_rdE (hdn : s.down = false) {a m : Nat} (hx : a + m ≤ d.many * 64) : d.rdE s a m = 0 := rdE_ok hdn ⟨by omega, by omega, by omega, by omega⟩
theorem wr_set (hdn : s.down = false) {k : Nat} {x : List Int} (hx : k + x.length ≤ d.many * 64) (hset : d.sets s k x = true) : d.wrE s k x = 50 ∧ d.wr s k x = s := by
  have h0 := up_rdE (d := d) hdn hx
  refine ⟨?_, ?_⟩
  · unfold wrE
    rw [if_pos h0]
    show (if d.sets s k x = true then (50 : Int) else _) = 50
    rw [if_pos hset]
  · unfold wr
    rw [if_pos h0]
    show (if d.sets s k x = true then s else _) = s
    rw [if_pos hset]
theorem wr_go (hdn : s.down = false) (hs : s.Ok) (hd : d.Ok s) {k : Nat} {x : List Int} (hx : k + x.length ≤ d.many * 64) (hset : d.sets s k x = false) :
    d.wrE s k x = (if s.doneN x.length = x.length then 0 else 40) ∧ (d.wr s k x).down = !(decide (s.doneN x.length = x.length)) ∧ (d.wr s k x).half = s.half ∧ (d.wr s k x).n = s.n ∧
    (∀ j, (d.wr s k x).wd j = if d.base + k ≤ j ∧ j < d.base + k + s.doneN x.length then x.getD (j - (d.base + k)) 0 else s.wd j) := by
  have h0 := up_rdE (d := d) hdn hx
  have hn := hd.n
  have hlen := hs.len
  have hb : d.base = d.first * 64 := rfl
  have hmul : (d.first + d.many) * 64 ≤ s.n * 64 := Nat.mul_le_mul_right _ hd.n
  have hW : d.wr s k x = s.prog (d.base + k) x := by
    unfold wr
    rw [if_pos h0]
    show (if d.sets s k x = true then s else _) = _
    rw [hset, if_neg (by simp)]; rfl
  have hE : d.wrE s k x = if s.progs x = true then 0 else 40 := by
    unfold wrE
    rw [if_pos h0]
    show (if d.sets s k x = true then (50 : Int) else _) = _
    rw [hset, if_neg (by simp)]
  have hp := NorS.progs_iff x s hs.a0
  have hle := NorS.doneN_le s x.length
  rw [hW, hE]
  refine ⟨?_, ?_, (NorS.prog_same x s _).2.2, (NorS.prog_same x s _).1, fun j => ?_⟩
  · by_cases e : s.doneN x.length = x.length
    · rw [if_pos e, if_pos (hp.2 e)]
    · rw [if_neg e, if_neg (fun h => e (hp.1 h))]
  · rw [NorS.prog_down, hdn, Bool.false_or]
    by_cases e : s.doneN x.length = x.length
    · rw [decide_eq_true e, hp.2 e]
    · rw [decide_eq_false e]
      have : s.progs x = false := by
        rcases Bool.eq_false_or_eq_true (s.progs x) with h | h
        · exact absurd (hp.1 h) e
        · exact h
      rw [this]
  · show (s.prog (d.base + k) x).l.getD j 0 = _
    have hl : (x.take (s.doneN x.length)).length = s.doneN x.length := by rw [List.length_take]; omega
    rw [NorS.prog_l x s _ hs.a0, NorS.andL_get _ _ _ _ (by omega), hl]
    split
    · rename_i hj
      have h2 : (List.range x.length).any (fun i => !(wand (x.getD i 0) (s.wd (d.base + k + i)) == x.getD i 0)) = false := hset
      rw [List.any_eq_false] at h2
      have h3 := h2 (j - (d.base + k)) (List.mem_range.2 (by omega))
      have h4 : wand (x.getD (j - (d.base + k)) 0) (s.wd (d.base + k + (j - (d.base + k)))) = x.getD (j - (d.base + k)) 0 := by simpa using h3
      rw [show d.base + k + (j - (d.base + k)) = j from by omega] at h4
      have h5 : (x.take (s.doneN x.length)).getD (j - (d.base + k)) 0 = x.getD (j - (d.base + k)) 0 := by
        rw [List.getD_eq_getElem?_getD, List.getElem?_take_of_lt (by omega), ← List.getD_eq_getElem?_getD]
      rw [h5]
      unfold NorS.wd at h4
      unfold wand at h4 ⊢
      rw [Nat.and_comm]; exact h4
    · rfl
theorem crash_nil_wd (h : s.half = -1) (j : Nat) : (s.crash []).wd j = s.wd j := by
  unfold NorS.wd NorS.crash
  simp only
  rw [if_neg (by rw [h]; decide)]
theorem sets_l {s' : NorS} (h : s'.l = s.l) (k : Nat) (x : List Int) : d.sets s' k x = d.sets s k x := by
  unfold sets NorS.wd; rw [h]
end DrvS
end Go.Proofs.Ytmeegehmbphooaa
