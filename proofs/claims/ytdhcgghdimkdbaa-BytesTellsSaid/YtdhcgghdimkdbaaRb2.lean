/-
  The document's bytes: behind, parts; Uint, Word, Blob.
-/
import Derived.Test.YtdhcgghdimkdbaaRb1
import Derived.Test.YtdhcgghdimkdbaaByt6
namespace Go.Proofs.Ytdhcgghdimkdbaa
open Go.RowKit
/-- a block of n bytes, the first j of them as f says -/
def Fil (w : World) (g : Nat) (f : Nat → Int) (n j : Nat) : Prop := Blk w g 5 (ints .u8 (rowTo f n j)).toArray
theorem Fil.cell {w : World} {g n j i : Nat} {f : Nat → Int} (h : Fil w g f n j) (hi : i < n) : ∃ old, w.cell? ⟨g, i, none⟩ = some old := by
  have hsz : i < (ints IntKind.u8 (rowTo f n j)).toArray.size := by simp [ints, rowTo]; exact hi
  exact ⟨_, (Blk.cell h i).trans (Array.getElem?_eq_getElem hsz)⟩
theorem Fil.next {w : World} {g n j : Nat} {f : Nat → Int} (h : Fil w g f n j) : Fil (w.setCell ⟨g, j, none⟩ (.int .u8 (f j))) g f n (j + 1) := by
  have := Blk.set_ h j (.int .u8 (f j))
  rw [rowTo_set f] at this
  exact this
theorem Fil.made (w : World) (f : Nat → Int) (n : Nat) : Fil (w.alloc (.cells (madeCells #[.int .u8 0] n) 5)) w.heap.size f n 0 := by
  have h := Blk.new w 5 (madeCells #[.int .u8 0] n)
  have e : madeCells #[.int .u8 0] n = (ints .u8 (rowTo f n 0)).toArray := by
    rw [rowTo_zero]
    apply Array.ext
    · simp [madeCells, ints]
    · intro i h1 h2
      simp [madeCells, ints, Nat.mod_one]
  rw [e] at h
  unfold Fil
  rw [e]; exact h
/-- all of it, as a row of one's own -/
theorem Fil.grew {w wr : World} {n : Nat} {f : Nat → Int} {ys : List Int} (h : Fil wr w.heap.size f n n) (hF : Frm NoB w wr) (hy : (List.range n).map f = ys) (u : U8 ys) (hn : n ≤ 67108864) : Grew w w.heap.size (.slice none 0 0) (.slice (some ⟨w.heap.size, 0, none⟩) n n) ys wr := by
  have hl : ys.length = n := by rw [← hy]; simp
  unfold Fil at h
  rw [rowTo_all, hy] at h
  refine ⟨⟨?_, u⟩, hF.mono (fun _ _ e => e.elim), fun k hk => ?_, fun g n c e => by cases e⟩
  · rw [hl]
    exact ⟨by rw [ints_length, hl, Nat.mul_one], .inr ⟨w.heap.size, n, _, rfl, Nat.le_refl _, h, Nat.le_refl _, by simp only [maxLen]; omega, by simp [ints, hl], by
      rw [Nat.mul_one]
      rw [List.take_of_length_le (by simp [ints, hl])]⟩⟩
  · right
    have hk2 : some w.heap.size = some k := hk
    injection hk2 with hk2
    omega
theorem range_getD (l : List Int) : (List.range l.length).map (fun i => l.getD i 0) = l := by
  apply ext_getD' (by simp)
  intro i hi
  have hi : i < l.length := by simpa using hi
  rw [List.getD_eq_getElem?_getD, List.getElem?_map, List.getElem?_range hi]; rfl
theorem getD_append_right {a r : List Int} {i : Nat} : (a ++ r).getD (a.length + i) 0 = r.getD i 0 := by
  rw [List.getD_eq_getElem?_getD, List.getElem?_append_right (by omega), Nat.add_sub_cancel_left, ← List.getD_eq_getElem?_getD]
section
variable {w : World} {va vb : Value} {xs ys : List Int}
def BhRel (w : World) (f : Nat → Int) (n lo hi : Nat) (i : Value) (wr : World) : Prop := ∃ j : Nat, lo + j ≤ hi ∧ i = .int .i64 j ∧ Fil wr w.heap.size f n (lo + j) ∧ Frm NoB w wr
set_option maxHeartbeats 1000000 in
theorem behind_is (ha : By w va xs) (hb : By w vb ys) (hl : xs.length + ys.length ≤ 16777216) : Calls Try.prog 44 #[va, vb] w (GrewPost w w.heap.size (.slice none 0 0) (xs ++ ys)) := by
  have UU := hide (ha.u.append hb.u)
  obtain ⟨A, ca, rfl, hra, -, hca, hcm, -⟩ := ha
  obtain ⟨B, cb, rfl, hrb, -, hcb, hcm2, -⟩ := hb
  have HA := hide hra
  have HB := hide hrb
  obtain ⟨f, hf⟩ : ∃ f : Nat → Int, (fun i => (xs ++ ys).getD i 0) = f := ⟨_, rfl⟩
  have f1 : ∀ i, i < xs.length → xs.getD i 0 = f i := fun i hi => by rw [← hf]; exact (getD_append_left hi).symm
  have f2 : ∀ i, i < ys.length → ys.getD i 0 = f (xs.length + i) := fun i hi => by rw [← hf]; exact getD_append_right.symm
  have HFF : Hid ((List.range (xs ++ ys).length).map f = xs ++ ys) := by show _ = _; rw [← hf]; exact range_getD _
  have hlen : (xs ++ ys).length = xs.length + ys.length := List.length_append
  obtain ⟨n, hn⟩ : ∃ n, xs.length + ys.length = n := ⟨_, rfl⟩
  rw [hn] at hlen
  rw [hlen] at HFF
  have F1 := hide f1
  have F2 := hide f2
  have HN := hide hn
  have wn : IntKind.i64.wrap ((xs.length : Int) + ys.length) = (n : Int) := by rw [show ((xs.length : Int) + ys.length) = (n : Int) from by omega]; exact IntWalk.i64_in _ (by omega)
  have wn2 : ((xs.length : Int) + ys.length) = (n : Int) := by omega
  have hn24 : n ≤ 16777216 := by omega
  have hxn : xs.length ≤ 16777216 := by omega
  have hyn : ys.length ≤ 16777216 := by omega
  clear hra hrb f1 f2 hf hlen hl
  obtain ⟨i0, hi0, hz0, hz1, hz2⟩ := info_parts uint8_info
  go_enter Try.func44, Try.ntmps44
  go_wp2_with (at_make; refine wpList_make_row w rfl (.tmp 12) (.tmp 12) 23 rfl 5 i0 (.int .u8 0) Try.underlying23 hi0 hz0 hz1 rfl .i64 .i64 n (by first | rfl | (simp; done) | (simp [wn2]; done)) (by first | rfl | (simp; done) | (simp [wn2]; done)) (by rw [hz2]; omega) (by omega) ?_)
  have HM := hide (Fil.made w f n)
  have HF0 := hide ((Frm.refl NoB w).alloc (.cells (madeCells #[.int .u8 0] n) 5))
  generalize w.alloc (.cells (madeCells #[.int .u8 0] n) 5) = w1 at *
  obtain ⟨g, hg⟩ : ∃ g, w.heap.size = g := ⟨_, rfl⟩
  rw [hg] at HM ⊢
  go_loopw [6] (fun i wr => BhRel w f n 0 xs.length i wr) (fun i _ => xs.length - (intOf i).toNat)
  case atStart => exact ⟨0, by omega, rfl, by rw [hg]; exact HM.out, HF0.out⟩
  case round =>
    obtain ⟨j, hj, rfl, hFi, hF⟩ := hrel
    rw [Nat.zero_add] at hj hFi
    rw [hg] at hFi
    have HF := hide hF
    have HFi := hide hFi
    by_cases hlt : j < xs.length
    · obtain ⟨b, o, rfl, hc⟩ := HA.out (ints_ne (by intro e; rw [e] at hlt; simp at hlt))
      have k1 := hc j _ (ints_get hlt)
      have c1 := (HF.out.cell (World.block_lt_of_cell? w _ k1) (fun e => e)).trans k1
      obtain ⟨old, c2⟩ := hFi.cell (show j < n by have := HN.out; omega)
      have c3 := Blk.frozen hFi j
      have j0 : (0 : Int) ≤ (j : Int) := by omega
      have j1 : (j : Int) < (xs.length : Int) := by omega
      have j2 : (j : Int) < (n : Int) := by have := HN.out; omega
      have j3 : j < n := by have := HN.out; omega
      rw [F1.out j hlt] at c1
      have HFn := hide (hFi.next)
      have HF1 : Hid (∀ y, Frm NoB w (wr.setCell ⟨g, j, none⟩ y)) := fun y => HF.out.setNew (by omega) j y
      generalize f j = y at *
      clear hc k1 hFi hF
      go_wp2
      go_roundw
      case rel => exact ⟨j + 1, by omega, by go_num, by rw [hg, Nat.zero_add]; exact HFn.out, HF1.out _⟩
      case measure => simp [intOf]; omega
    · obtain rfl : j = xs.length := by omega
      clear hFi hF
      go_wp2
      go_loopw [7] (fun i wr => BhRel w f n xs.length n i wr) (fun i _ => ys.length - (intOf i).toNat)
      case atStart => exact ⟨0, by have := HN.out; omega, rfl, by rw [hg]; exact HFi.out, HF.out⟩
      case round =>
        obtain ⟨j, hj, rfl, hFi, hF⟩ := hrel
        rw [hg] at hFi
        have HF := hide hF
        have HFi := hide hFi
        by_cases hlt : j < ys.length
        · obtain ⟨b, o, rfl, hc⟩ := HB.out (ints_ne (by intro e; rw [e] at hlt; simp at hlt))
          have k1 := hc j _ (ints_get hlt)
          have c1 := (HF.out.cell (World.block_lt_of_cell? w _ k1) (fun e => e)).trans k1
          obtain ⟨old, c2⟩ := hFi.cell (show xs.length + j < n by have := HN.out; omega)
          have c3 := Blk.frozen hFi (xs.length + j)
          have j0 : (0 : Int) ≤ (j : Int) := by omega
          have j1 : (j : Int) < (ys.length : Int) := by omega
          rw [F2.out j hlt] at c1
          have HFn := hide (hFi.next)
          obtain ⟨q, hq⟩ : ∃ q, xs.length + j = q := ⟨_, rfl⟩
          have wq : ((xs.length : Int) + (j : Int)) = (q : Int) := by omega
          have q0 : (0 : Int) ≤ (q : Int) := by omega
          have q1 : (q : Int) < (n : Int) := by have := HN.out; omega
          have q2 : q < n := by have := HN.out; omega
          rw [hq] at c1 c2 c3 HFn
          have HQ := hide hq
          have HF1 : Hid (∀ y, Frm NoB w (wr.setCell ⟨g, q, none⟩ y)) := fun y => HF.out.setNew (by omega) q y
          generalize f q = y at *
          clear hc k1 hFi hF hq wn wn2
          go_wp2
          go_roundw
          case rel =>
            refine ⟨j + 1, by have := HN.out; omega, by go_num, ?_, HF1.out _⟩
            rw [hg, ← Nat.add_assoc, HQ.out]; exact HFn.out
          case measure => simp [intOf]; omega
        · have ej : xs.length + j = n := by have := HN.out; omega
          rw [ej] at hFi
          have HFi2 := hide hFi
          clear hFi hF ej
          go_wp2
          go_ret
          refine ⟨_, rfl, ?_⟩
          have h := HFi2.out
          rw [← hg] at h ⊢
          exact h.grew HF.out HFF.out UU.out (by omega)
end
end Go.Proofs.Ytdhcgghdimkdbaa
