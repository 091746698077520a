/-
  Strings of bytes; SameBytes; bytes: Bytes.
-/
import Derived.Test.YtdhcgghdimkdbaaByt5
import Derived.Laws.BytesArg
import Derived.Lib.Bytes
import Derived.Deep.OwnRows
namespace Go.Proofs.Ytdhcgghdimkdbaa
open Go.RowKit
/-- the string of bytes -/
theorem By.string {w : World} {v : Value} {xs : List Int} (h : By w v xs) : (convert 23 9 v).run Try.prog w = .ok (.string (strOfNums xs)) w := by
  obtain ⟨A, c, rfl, hr, hz, hlc, hc, hu⟩ := h
  cases A with
  | none =>
    have h0 : xs.length = 0 := by have := hz rfl; omega
    obtain rfl : xs = [] := List.eq_nil_of_length_eq_zero h0
    exact run_convert_bytes_nil w 23 5 Try.underlying23 Try.underlying5 0 c 9 Try.underlying9
  | some a =>
    by_cases he : xs = []
    · subst he
      have hl : (loadCells a 0).run Try.prog w = .ok (([] : List Int).map (Value.int .u8)).toArray w := by
        simpa using run_loadCells_list (P := Try.prog) w a [] (fun j v hj => by cases hj)
      show (convert 23 9 (.slice (some a) 0 c)).run Try.prog w = _
      rw [run_convert_bytes_string w 23 9 5 _ 0 c Try.underlying23 Try.underlying5 Try.underlying9, run_bytesToString w a 0 c [] hl, foldl_push_bytes]
      rfl
    · obtain ⟨b, o, e, hcl⟩ := hr (ints_ne he)
      injection e with e
      subst e
      exact run_convert_bytes_arg w 23 5 Try.underlying23 Try.underlying5 b o xs.length c xs rfl (fun i hi => hcl i _ (ints_get hi)) 9 Try.underlying9
theorem byte_inj {x y : Int} (hx : 0 ≤ x ∧ x < 256) (hy : 0 ≤ y ∧ y < 256) (h : UInt8.ofNat x.toNat = UInt8.ofNat y.toNat) : x = y := by
  have := congrArg UInt8.toNat h
  simp only [UInt8.toNat_ofNat'] at this
  omega
theorem str_list (xs : List Int) : (strOfNums xs).data.toList = xs.map fun n => UInt8.ofNat n.toNat := rfl
theorem map_inj : ∀ {xs ys : List Int}, U8 xs → U8 ys → xs.map (fun n => UInt8.ofNat n.toNat) = ys.map (fun n => UInt8.ofNat n.toNat) → xs = ys
  | [], [], _, _, _ => rfl
  | [], _ :: _, _, _, h => by simp at h
  | _ :: _, [], _, _, h => by simp at h
  | x :: xs, y :: ys, hx, hy, h => by
    rw [List.map_cons, List.map_cons] at h
    injection h with h1 h2
    rw [byte_inj hx.head hy.head h1, map_inj hx.tail hy.tail h2]
theorem str_inj {xs ys : List Int} (hx : U8 xs) (hy : U8 ys) : strOfNums xs = strOfNums ys ↔ xs = ys :=
  ⟨fun h => map_inj hx hy (by have := congrArg (fun s : ByteArray => s.data.toList) h; exact this), fun h => by rw [h]⟩
theorem str_eq {xs ys : List Int} (hx : U8 xs) (hy : U8 ys) : ((strOfNums xs).toList == (strOfNums ys).toList) = decide (xs = ys) := by
  rw [Lib.strOfNums_toList, Lib.strOfNums_toList]
  by_cases h : xs = ys
  · subst h; simp
  · rw [decide_eq_false h, beq_eq_false_iff_ne]
    exact fun e => h (map_inj hx hy e)
section
variable {w : World} {v v' : Value} {xs ys : List Int}
theorem sameBytes_is (hx : By w v xs) (hy : By w v' ys) : Calls Try.prog 26 #[v, v'] w fun e w' => e = .returned (.bool (decide (xs = ys))) ∧ ∃ m, w' = w.drewN m := by
  have h1 := hx.string
  have h2 := hy.string
  have U1 := hide hx.u
  have U2 := hide hy.u
  clear hx hy
  go_enter Try.func26, Try.ntmps26
  go_wp2
  go_ret
  exact ⟨ret_bool (str_eq U1.out U2.out), 0, rfl⟩
/-- of n bytes the first j are those of a row, the others 0 -/
def rowTo (f : Nat → Int) (n j : Nat) : List Int := (List.range n).map fun i => if i < j then f i else 0
theorem rowTo_length (f : Nat → Int) (n j : Nat) : (rowTo f n j).length = n := by simp [rowTo]
theorem rowTo_all (f : Nat → Int) (n : Nat) : rowTo f n n = (List.range n).map f := by
  unfold rowTo
  apply List.map_congr_left
  intro i hi
  rw [if_pos (List.mem_range.1 hi)]
theorem rowTo_zero (f : Nat → Int) (n : Nat) : rowTo f n 0 = List.replicate n 0 := by
  unfold rowTo
  apply List.ext_getElem
  · simp
  · intro i h1 h2; simp
theorem rowTo_set (f : Nat → Int) (n j : Nat) (t : IntKind) : (ints t (rowTo f n j)).toArray.setIfInBounds j (.int t (f j)) = (ints t (rowTo f n (j + 1))).toArray := by
  apply Array.ext'
  simp only [Array.toList_setIfInBounds]
  apply List.ext_getElem
  · simp [ints, rowTo]
  · intro i h1 h2
    simp only [ints, rowTo, List.map_map, List.length_set, List.length_map, List.length_range] at h1 ⊢
    rw [List.getElem_set]
    by_cases e : j = i
    · subst e; simp
    · rw [if_neg e]
      simp only [List.getElem_map, List.getElem_range, Function.comp]
      by_cases q : i < j
      · rw [if_pos q, if_pos (by omega)]
      · rw [if_neg q, if_neg (by omega)]
/-- a byte of a word -/
def byteW (x : Int) (j : Nat) : Int := x / 2 ^ (24 - 8 * j) % 256
theorem byteW_u8 (x : Int) (j : Nat) : 0 ≤ byteW x j ∧ byteW x j < 256 := by unfold byteW; omega
/-- the first bytes of words -/
def bytesN (l : List Int) (n : Nat) : List Int := (List.range n).map fun i => byteW (l.getD (i / 4) 0) (i % 4)
theorem bytesN_length (l : List Int) (n : Nat) : (bytesN l n).length = n := by simp [bytesN]
theorem bytesN_u8 (l : List Int) (n : Nat) : U8 (bytesN l n) := fun x hx => by
  obtain ⟨i, _, rfl⟩ := List.mem_map.1 hx
  exact byteW_u8 _ _
def ByRel (w : World) (l : List Int) (n : Nat) (i : Value) (wr : World) : Prop := ∃ j : Nat, j ≤ n ∧ i = .int .i64 j ∧ Blk wr w.heap.size 5 (ints .u8 (rowTo (fun i => byteW (l.getD (i / 4) 0) (i % 4)) n j)).toArray ∧ Frm NoB w wr
/-- what Bytes tells -/
def byE (l : List Int) (n : Int) : Int := if n < 0 then 2 else if 4 * (l.length : Int) < n then 10 else 0
def BysPost (w : World) (l : List Int) (n : Int) (e : Ending) (w' : World) : Prop := ∃ v', e = .returned (.tuple #[v', .int .i64 (byE l n)]) ∧ Grew w w.heap.size (.slice none 0 0) v' (if byE l n = 0 then bytesN l n.toNat else []) w'
theorem bys_bad {l : List Int} {n k : Int} (h : byE l n = k) (hk : k ≠ 0) (w : World) : BysPost w l n (.returned (.tuple #[.slice none 0 0, .int .i64 k])) w := by
  refine ⟨.slice none 0 0, by rw [h], ?_⟩
  rw [if_neg (by rw [h]; exact hk)]
  exact Grew.refl (Ob.nil _ _)
set_option maxHeartbeats 1000000 in
theorem bytes_is (A : Option Addr) (cp : Nat) (l : List Int) (hr : Rd w A (ints .u32 l)) (hu : U32 l) (hl : l.length ≤ 16777216) (n : Int) (hn : -9223372036854775808 ≤ n ∧ n ≤ 9223372036854775807) :
    Calls Try.prog 14 #[.slice A l.length cp, .int .i64 n] w (BysPost w l n) := by
  obtain ⟨n0, n1⟩ := hn
  by_cases h1 : n < 0
  · have E : Hid (byE l n = 2) := by show _ = _; unfold byE; rw [if_pos h1]
    clear hr hu
    go_enter Try.func14, Try.ntmps14
    go_wp2
    go_ret2
    exact bys_bad E.out (by decide) _
  · by_cases h2 : 4 * (l.length : Int) < n
    · have E : Hid (byE l n = 10) := by show _ = _; unfold byE; rw [if_neg h1, if_pos h2]
      clear hr hu
      go_enter Try.func14, Try.ntmps14
      go_wp2
      go_ret2
      exact bys_bad E.out (by decide) _
    · have E : Hid (byE l n = 0) := by show _ = _; unfold byE; rw [if_neg h1, if_neg h2]
      obtain ⟨m, rfl⟩ := Int.eq_ofNat_of_zero_le (a := n) (by omega)
      have hm : m ≤ 4 * l.length := by omega
      have HM := hide hm
      have HR := hide hr
      have HU := hide hu
      have hm2 : m ≤ 67108864 := by omega
      have hm0 : 0 ≤ (m : Int) := by omega
      clear hr hu n0 n1 h2
      obtain ⟨i0, hi0, hz0, hz1, hz2⟩ := info_parts uint8_info
      go_enter Try.func14, Try.ntmps14
      go_wp2_with (at_make; refine wpList_make_row w rfl (.tmp 15) (.tmp 15) 23 rfl 5 i0 (.int .u8 0) Try.underlying23 hi0 hz0 hz1 rfl .i64 .i64 m rfl rfl (by rw [hz2]; omega) (by omega) ?_)
      have HB0 : Hid (Blk (w.alloc (.cells (madeCells #[.int .u8 0] m) 5)) w.heap.size 5 (ints .u8 (rowTo (fun i => byteW (l.getD (i / 4) 0) (i % 4)) m 0)).toArray) := by
        have h := Blk.new w 5 (madeCells #[.int .u8 0] m)
        have e : madeCells #[.int .u8 0] m = (ints .u8 (rowTo (fun i => byteW (l.getD (i / 4) 0) (i % 4)) m 0)).toArray := by
          rw [rowTo_zero]
          apply Array.ext
          · simp [madeCells, ints]
          · intro i h1 h2
            simp [madeCells, ints, Nat.mod_one]
        rw [e] at h
        rw [e]; exact h
      have HF0 := hide ((Frm.refl NoB w).alloc (.cells (madeCells #[.int .u8 0] m) 5))
      generalize w.alloc (.cells (madeCells #[.int .u8 0] m) 5) = w1 at *
      generalize hg : w.heap.size = g at *
      go_loopw [19] (fun i wr => ByRel w l m i wr) (fun i _ => m - (intOf i).toNat)
      case atStart => exact ⟨0, by omega, rfl, by rw [hg]; exact HB0.out, HF0.out⟩
      case round =>
        obtain ⟨j, hj, rfl, hB, hF⟩ := hrel
        have HF := hide hF
        rw [hg] at hB
        have HB := hide hB
        clear hF
        by_cases hlt : j < m
        · have hq : j / 4 < l.length := by omega
          obtain ⟨b, o, rfl, hc⟩ := HR.out (ints_ne (by intro e; rw [e] at hq; simp at hq))
          have hc1 := hc (j / 4) _ (ints_get hq)
          have c1 := (HF.out.cell (World.block_lt_of_cell? w _ hc1) (fun e => e)).trans hc1
          have hx := HU.out.get (j / 4)
          have hsz : j < (ints IntKind.u8 (rowTo (fun i => byteW (l.getD (i / 4) 0) (i % 4)) m j)).toArray.size := by simp [ints, rowTo]; exact hlt
          obtain ⟨old, c2⟩ : ∃ old, wr.cell? ⟨g, j, none⟩ = some old := ⟨_, (hB.cell j).trans (Array.getElem?_eq_getElem hsz)⟩
          have c3 := hB.frozen j
          have i0 : (0 : Int) ≤ ((j / 4 : Nat) : Int) := by omega
          have i1 : ((j / 4 : Nat) : Int) < (l.length : Int) := by omega
          have q1 : Int.tdiv (j : Int) 4 = ((j / 4 : Nat) : Int) := by rw [Int.tdiv_eq_ediv_of_nonneg (by omega)]; omega
          have HN : Hid (∀ y, y = byteW (l.getD (j / 4) 0) (j % 4) → Blk (wr.setCell ⟨g, j, none⟩ (.int .u8 y)) g 5 (ints .u8 (rowTo (fun i => byteW (l.getD (i / 4) 0) (i % 4)) m (j + 1))).toArray) := fun y hy => by
            have := HB.out.set_ j (.int .u8 y)
            rw [hy, rowTo_set (fun i => byteW (l.getD (i / 4) 0) (i % 4))] at this
            rw [hy]; exact this
          have HF1 : Hid (∀ y, Frm NoB w (wr.setCell ⟨g, j, none⟩ y)) := fun y => HF.out.setNew (by omega) j y
          generalize l.getD (j / 4) 0 = x at *
          clear hc hc1 hB hsz
          have h4 : j % 4 = 0 ∨ j % 4 = 1 ∨ j % 4 = 2 ∨ j % 4 = 3 := by omega
          have j0 : (0 : Int) ≤ (j : Int) := by omega
          have j1 : (j : Int) < (m : Int) := by omega
          obtain ⟨k, hk⟩ : ∃ k, j % 4 = k := ⟨_, rfl⟩
          have q2 : Int.tmod (j : Int) 4 = (k : Int) := by rw [Int.tmod_eq_emod_of_nonneg (by omega)]; omega
          rw [hk] at HN h4
          clear hk
          rcases h4 with rfl | rfl | rfl | rfl
          all_goals
            go_wp2
            go_roundw
            case rel =>
              refine ⟨j + 1, by omega, by go_num, ?_, HF1.out _⟩
              rw [hg]
              refine HN.out _ ?_
              unfold byteW
              simp
              try omega
            case measure => simp [intOf]; omega
        · obtain rfl : j = m := by omega
          go_wp2
          go_ret2
          refine ⟨_, by rw [E.out]; rfl, ?_⟩
          rw [if_pos E.out, Int.toNat_natCast]
          have hb := HB.out
          rw [rowTo_all] at hb
          have hbl := bytesN_length l j
          refine ⟨⟨?_, bytesN_u8 _ _⟩, HF.out.mono (fun _ _ e => e.elim), fun k hk => ?_, fun g n c e => by cases e⟩
          · rw [hbl]
            exact ⟨by rw [ints_length, hbl, Nat.mul_one], .inr ⟨g, j, _, rfl, by omega, hb, Nat.le_refl _, by simp only [maxLen]; omega, by simp [ints], by
              rw [Nat.mul_one]
              rw [List.take_of_length_le (by simp [ints])]; rfl⟩⟩
          · right
            have hk2 : some g = some k := hk
            injection hk2 with hk2
            omega
end
end Go.Proofs.Ytdhcgghdimkdbaa
