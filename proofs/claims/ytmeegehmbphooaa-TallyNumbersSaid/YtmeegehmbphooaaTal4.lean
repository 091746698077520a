/-
  The tally: room, write.
-/
import Derived.Test.YtmeegehmbphooaaTal3
import Derived.Test.YtmeegehmbphooaaTalP3
import Derived.Test.YtmeegehmbphooaaDrv6
import Derived.Test.YtmeegehmbphooaaNor7
namespace Go.Proofs.Ytmeegehmbphooaa
open Go.RowKit
theorem talCells_get (gd : Nat) (f : Nat → Int) (on count : Int) (over : Bool) {i : Nat} (hi : i < 128) : (talCells gd f on count over)[1 + i]? = some (.int .u32 (f i)) := by
  unfold talCells
  rw [List.getElem?_toArray, Nat.add_comm, List.getElem?_cons_succ, List.getElem?_append_left (by simpa using hi)]
  simp [hi]
theorem talCells_far (gd : Nat) (f f' : Nat → Int) (on count : Int) (over : Bool) {i : Nat} (hi : i = 0 ∨ 129 ≤ i) : (talCells gd f on count over)[i]? = (talCells gd f' on count over)[i]? := by
  unfold talCells
  rw [List.getElem?_toArray, List.getElem?_toArray]
  rcases hi with rfl | hi
  · rfl
  · obtain ⟨i, rfl⟩ : ∃ m, i = m + 1 := ⟨i - 1, by omega⟩
    rw [List.getElem?_cons_succ, List.getElem?_cons_succ, List.getElem?_append_right (by simp; omega), List.getElem?_append_right (by simp; omega)]
    simp
theorem talCells_laid (gd : Nat) (f : Nat → Int) (on count : Int) (over : Bool) {k : Nat} {l : List Int} (hk : k + l.length ≤ 128) :
    ((talCells gd f on count over).toList.take (1 + k) ++ ints .u32 l ++ (talCells gd f on count over).toList.drop (1 + k + l.length)).toArray = talCells gd (laidF f k l) on count over := by
  apply Array.ext'
  apply List.ext_getElem?
  intro i
  have hs := talCells_size gd f on count over
  have hl : ((talCells gd f on count over).toList.take (1 + k)).length = 1 + k := by rw [List.length_take, Array.length_toList, hs]; omega
  rw [show ((talCells gd (laidF f k l) on count over).toList)[i]? = (talCells gd (laidF f k l) on count over)[i]? from by simp]
  rcases (by omega : i < 1 + k ∨ (1 + k ≤ i ∧ i < 1 + k + l.length) ∨ 1 + k + l.length ≤ i) with h | ⟨h, h'⟩ | h
  · rw [List.append_assoc, List.getElem?_append_left (by rw [hl]; exact h), List.getElem?_take_of_lt h, Array.getElem?_toList]
    rcases Nat.eq_zero_or_pos i with rfl | hp
    · exact talCells_far gd f _ on count over (.inl rfl)
    · obtain ⟨m, rfl⟩ : ∃ m, i = 1 + m := ⟨i - 1, by omega⟩
      rw [talCells_get _ _ _ _ _ (by omega), talCells_get _ _ _ _ _ (by omega)]
      unfold laidF
      rw [if_neg (by omega)]
  · rw [List.getElem?_append_left (by rw [List.length_append, hl, ints_length]; exact h'), List.getElem?_append_right (by rw [hl]; exact h), hl, ints_get (by omega)]
    obtain ⟨m, rfl⟩ : ∃ m, i = 1 + m := ⟨i - 1, by omega⟩
    rw [talCells_get _ _ _ _ _ (by omega)]
    unfold laidF
    rw [if_pos (by omega), show 1 + m - (1 + k) = m - k from by omega]
  · rw [List.getElem?_append_right (by rw [List.length_append, hl, ints_length]; exact h), List.length_append, hl, ints_length, List.getElem?_drop, show 1 + k + l.length + (i - (1 + k + l.length)) = i from by omega, Array.getElem?_toList]
    rcases Nat.lt_or_ge i 129 with h2 | h2
    · obtain ⟨m, rfl⟩ : ∃ m, i = 1 + m := ⟨i - 1, by omega⟩
      rw [talCells_get _ _ _ _ _ (by omega), talCells_get _ _ _ _ _ (by omega)]
      unfold laidF
      rw [if_neg (by omega)]
    · exact talCells_far gd f _ on count over (.inr h2)
theorem room_eq {f : Nat → Int} {o j : Nat} (h2 : 2 ≤ j) (h64 : j < 64) (hn : ¬ f (o + j) = 0) (hz : ∀ k, 2 ≤ k → k < j → f (o + k) = 0) : room f o = j := by
  rcases room_spec f o with ⟨h1, h3⟩ | ⟨h1, h3, h4, h5⟩
  · exact absurd (h3 j h2 h64) hn
  · rcases Nat.lt_trichotomy (room f o) j with h | h | h
    · exact absurd (hz _ h1 h) h4
    · exact h
    · exact absurd (h5 j h2 h) hn
theorem room_none {f : Nat → Int} {o : Nat} (hz : ∀ k, 2 ≤ k → k < 64 → f (o + k) = 0) : room f o = 0 := by
  rcases room_spec f o with ⟨h1, h3⟩ | ⟨h1, h3, h4, h5⟩
  · exact h1
  · exact absurd (hz _ h1 h3) h4
section
variable {w : World} {g gd p q c : Nat} {f : Nat → Int} {on count : Int} {over : Bool} {s : NorS} {d : DrvS}
def RoomRel (w : World) (f : Nat → Int) (o : Nat) (i : Value) (wr : World) : Prop := ∃ j : Nat, 2 ≤ j ∧ j ≤ 64 ∧ i = .int .i64 j ∧ (∀ k, 2 ≤ k → k < j → f (o + k) = 0) ∧ Frm NoB w wr
def RoomPost (w : World) (f : Nat → Int) (o : Nat) (e : Ending) (w' : World) : Prop := e = .returned (.int .i64 (room f o)) ∧ Frm NoB w w'
theorem room_no (h : TalAt w g gd f (-1) count over) :
    Calls Try.prog 35 #[.pointer (some ⟨g, 0, none⟩)] w fun e w' => e = .returned (.int .i64 0) ∧ w = w' := by
  have c1 := h.con
  clear h
  go_enter Try.func35, Try.ntmps35
  go_wp2
  refine wp_loop_once ?_
  go_wp2
  go_ret
  exact ⟨rfl, rfl⟩
set_option maxHeartbeats 1000000 in
theorem room_0 (h : TalAt w g gd f 0 count over) (hu : ∀ i, 0 ≤ f i ∧ f i < 4294967296) :
    Calls Try.prog 35 #[.pointer (some ⟨g, 0, none⟩)] w (RoomPost w f 0) := by
  have H := hide h
  have HU := hide hu
  clear h hu
  go_enter Try.func35, Try.ntmps35
  go_wp2
  go_loopw [3] (fun i wr => RoomRel w f 0 i wr) (fun i _ => 64 - (intOf i).toNat)
  case atStart => exact ⟨2, by omega, by omega, rfl, fun k h1 h2 => by omega, Frm.refl _ _⟩
  case round =>
    obtain ⟨j, hj2, hj, rfl, hz, hF⟩ := hrel
    have HZ := hide hz
    have HF := hide hF
    have HT := hide (H.out.frm hF (fun e => e))
    have c1 := HT.out.con
    by_cases hlt : j < 64
    · have cj := HT.out.cw (i := j) (by omega)
      have z1 : (0 : Int) ≤ (j : Int) := by omega
      have z2 : (j : Int) < 64 := by omega
      by_cases h0 : f (0 + j) = 0
      · have hn : f j = 0 := by rwa [Nat.zero_add] at h0
        rw [hn] at cj
        have H0 := hide h0
        clear hz hF h0 hn
        go_wp2_with fail
        go_quiet (fail)
        go_wp2
        go_roundw
        case rel => exact ⟨j + 1, by omega, by omega, by go_num, fun k h1 h2 => by
          rcases Nat.lt_or_ge k j with h3 | h3
          · exact HZ.out k h1 h3
          · obtain rfl : k = j := by omega
            exact H0.out, HF.out.drewN _⟩
        case measure => simp [intOf]; omega
      · have E := hide (room_eq hj2 hlt h0 hz)
        have hn : (f j != 0) = true := by rw [Nat.zero_add] at h0; simpa using h0
        clear hz hF h0
        go_wp2_with fail
        go_quiet (fail)
        go_wp2
        go_ret
        exact ⟨by rw [E.out]; rfl, HF.out.drewN _⟩
    · obtain rfl : j = 64 := by omega
      have E := hide (room_none hz)
      clear hz hF
      go_wp2
      go_ret
      exact ⟨by rw [E.out]; rfl, HF.out⟩
set_option maxHeartbeats 1000000 in
theorem room_1 (h : TalAt w g gd f 1 count over) (hu : ∀ i, 0 ≤ f i ∧ f i < 4294967296) :
    Calls Try.prog 35 #[.pointer (some ⟨g, 0, none⟩)] w (RoomPost w f 64) := by
  have H := hide h
  have HU := hide hu
  clear h hu
  go_enter Try.func35, Try.ntmps35
  go_wp2
  go_loopw [3] (fun i wr => RoomRel w f 64 i wr) (fun i _ => 64 - (intOf i).toNat)
  case atStart => exact ⟨2, by omega, by omega, rfl, fun k h1 h2 => by omega, Frm.refl _ _⟩
  case round =>
    obtain ⟨j, hj2, hj, rfl, hz, hF⟩ := hrel
    have HZ := hide hz
    have HF := hide hF
    have HT := hide (H.out.frm hF (fun e => e))
    have c1 := HT.out.con
    by_cases hlt : j < 64
    · have cj := HT.out.cw (i := 64 + j) (by omega)
      rw [show 1 + (64 + j) = 65 + j from by omega] at cj
      have z1 : (0 : Int) ≤ (j : Int) := by omega
      have z2 : (j : Int) < 64 := by omega
      by_cases h0 : f (64 + j) = 0
      · rw [h0] at cj
        have H0 := hide h0
        clear hz hF h0
        go_wp2_with fail
        go_quiet (fail)
        go_wp2
        go_roundw
        case rel => exact ⟨j + 1, by omega, by omega, by go_num, fun k h1 h2 => by
          rcases Nat.lt_or_ge k j with h3 | h3
          · exact HZ.out k h1 h3
          · obtain rfl : k = j := by omega
            exact H0.out, HF.out.drewN _⟩
        case measure => simp [intOf]; omega
      · have E := hide (room_eq hj2 hlt h0 hz)
        have hn : (f (64 + j) != 0) = true := by simpa using h0
        clear hz hF h0
        go_wp2_with fail
        go_quiet (fail)
        go_wp2
        go_ret
        exact ⟨by rw [E.out]; rfl, HF.out.drewN _⟩
    · obtain rfl : j = 64 := by omega
      have E := hide (room_none hz)
      clear hz hF
      go_wp2
      go_ret
      exact ⟨by rw [E.out]; rfl, HF.out⟩
end
end Go.Proofs.Ytmeegehmbphooaa
