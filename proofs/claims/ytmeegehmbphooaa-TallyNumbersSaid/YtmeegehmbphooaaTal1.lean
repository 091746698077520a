/-
  The tally: how it lies in memory; none, Count, Over; what a sector counts; look.
-/
import Derived.Test.YtmeegehmbphooaaTal0
import Derived.Test.YtmeegehmbphooaaDrv1
namespace Go.Proofs.Ytmeegehmbphooaa
open Go.RowKit
/-- the cells of a tally -/
def talCells (gd : Nat) (f : Nat → Int) (on count : Int) (over : Bool) : Array Value :=
  (Value.pointer (some ⟨gd, 0, none⟩) :: ((List.range 128).map (fun i => Value.int .u32 (f i)) ++ [.int .i64 on, .int .i64 count, .bool over])).toArray
theorem talCells_size (gd : Nat) (f : Nat → Int) (on count : Int) (over : Bool) : (talCells gd f on count over).size = 132 := by simp [talCells]
theorem talCells_congr {gd : Nat} {f g : Nat → Int} {on count : Int} {over : Bool} (h : ∀ i, i < 128 → g i = f i) : talCells gd g on count over = talCells gd f on count over := by
  unfold talCells
  have : (List.range 128).map (fun i => Value.int .u32 (g i)) = (List.range 128).map (fun i => Value.int .u32 (f i)) := by
    apply List.map_congr_left
    intro i hi
    rw [h i (List.mem_range.1 hi)]
  rw [this]
/-- A tally in memory: block g. -/
structure TalAt (w : World) (g gd : Nat) (f : Nat → Int) (on count : Int) (over : Bool) : Prop where
  b : Blk w g 45 (talCells gd f on count over)
def upd1 (f : Nat → Int) (i : Nat) (x : Int) : Nat → Int := fun j => if j = i then x else f j
section
variable {w w' : World} {g gd : Nat} {f : Nat → Int} {on count : Int} {over : Bool}
theorem TalAt.frm {S : Nat → Prop} (h : TalAt w g gd f on count over) (hf : Frm S w w') (hs : ¬ S g) : TalAt w' g gd f on count over := ⟨h.b.frm hf hs⟩
theorem TalAt.c0 (h : TalAt w g gd f on count over) : w.cell? ⟨g, 0, none⟩ = some (.pointer (some ⟨gd, 0, none⟩)) := h.b.cell 0
theorem TalAt.cw (h : TalAt w g gd f on count over) {i : Nat} (hi : i < 128) : w.cell? ⟨g, 1 + i, none⟩ = some (.int .u32 (f i)) := by
  rw [h.b.cell (1 + i)]
  unfold talCells
  rw [List.getElem?_toArray, Nat.add_comm, List.getElem?_cons_succ, List.getElem?_append_left (by simpa using hi)]
  simp [hi]
theorem TalAt.con (h : TalAt w g gd f on count over) : w.cell? ⟨g, 129, none⟩ = some (.int .i64 on) := by
  rw [h.b.cell 129]; unfold talCells
  rw [List.getElem?_toArray, List.getElem?_cons_succ, List.getElem?_append_right (by simp)]
  simp
theorem TalAt.ccount (h : TalAt w g gd f on count over) : w.cell? ⟨g, 130, none⟩ = some (.int .i64 count) := by
  rw [h.b.cell 130]; unfold talCells
  rw [List.getElem?_toArray, List.getElem?_cons_succ, List.getElem?_append_right (by simp)]
  simp
theorem TalAt.cover (h : TalAt w g gd f on count over) : w.cell? ⟨g, 131, none⟩ = some (.bool over) := by
  rw [h.b.cell 131]; unfold talCells
  rw [List.getElem?_toArray, List.getElem?_cons_succ, List.getElem?_append_right (by simp)]
  simp
theorem TalAt.fz (h : TalAt w g gd f on count over) (i : Nat) : w.frozen? ⟨g, i, none⟩ = false := h.b.frozen i
theorem TalAt.set_on (h : TalAt w g gd f on count over) (x : Int) : TalAt (w.setCell ⟨g, 129, none⟩ (.int .i64 x)) g gd f x count over := by
  refine ⟨?_⟩
  have := h.b.set_ 129 (.int .i64 x)
  rwa [show (talCells gd f on count over).setIfInBounds 129 (.int .i64 x) = talCells gd f x count over from ?_] at this
  unfold talCells
  rw [List.setIfInBounds_toArray, List.set_cons_succ, List.set_append_right _ _ (by simp)]
  simp
theorem TalAt.set_count (h : TalAt w g gd f on count over) (x : Int) : TalAt (w.setCell ⟨g, 130, none⟩ (.int .i64 x)) g gd f on x over := by
  refine ⟨?_⟩
  have := h.b.set_ 130 (.int .i64 x)
  rwa [show (talCells gd f on count over).setIfInBounds 130 (.int .i64 x) = talCells gd f on x over from ?_] at this
  unfold talCells
  rw [List.setIfInBounds_toArray, List.set_cons_succ, List.set_append_right _ _ (by simp)]
  simp
theorem TalAt.set_over (h : TalAt w g gd f on count over) (x : Bool) : TalAt (w.setCell ⟨g, 131, none⟩ (.bool x)) g gd f on count x := by
  refine ⟨?_⟩
  have := h.b.set_ 131 (.bool x)
  rwa [show (talCells gd f on count over).setIfInBounds 131 (.bool x) = talCells gd f on count x from ?_] at this
  unfold talCells
  rw [List.setIfInBounds_toArray, List.set_cons_succ, List.set_append_right _ _ (by simp)]
  simp
theorem talCells_set (gd : Nat) (f : Nat → Int) (on count : Int) (over : Bool) {i : Nat} (hi : i < 128) (x : Int) : (talCells gd f on count over).setIfInBounds (1 + i) (.int .u32 x) = talCells gd (upd1 f i x) on count over := by
  unfold talCells
  rw [List.setIfInBounds_toArray, Nat.add_comm, List.set_cons_succ, List.set_append_left _ _ (by simpa using hi)]
  have : ((List.range 128).map (fun j => Value.int .u32 (f j))).set i (.int .u32 x) = (List.range 128).map (fun j => Value.int .u32 (upd1 f i x j)) := by
    apply List.ext_getElem
    · simp
    · intro k h1 h2
      simp only [List.length_set, List.length_map, List.length_range] at h1
      rw [List.getElem_set]
      by_cases e : i = k
      · subst e; simp [upd1]
      · rw [if_neg e]; simp [upd1, show k ≠ i from fun e' => e e'.symm]
  rw [this]
theorem TalAt.set_w (h : TalAt w g gd f on count over) {i : Nat} (hi : i < 128) (x : Int) : TalAt (w.setCell ⟨g, 1 + i, none⟩ (.int .u32 x)) g gd (upd1 f i x) on count over := by
  refine ⟨?_⟩
  have := h.b.set_ (1 + i) (.int .u32 x)
  rwa [talCells_set gd f on count over hi x] at this
theorem TalAt.lt (h : TalAt w g gd f on count over) : g < w.heap.size := h.b.lt
/-- No tally: nil, or one that Open did not make. -/
def NoTal (w : World) (v : Value) : Prop := v = .pointer none ∨ ∃ g, v = .pointer (some ⟨g, 0, none⟩) ∧ w.cell? ⟨g, 0, none⟩ = some (.pointer none)
theorem tnone_no (v : Value) (h : NoTal w v) : Calls Try.prog 34 #[v] w fun e w' => e = .returned (.bool true) ∧ w = w' := by
  rcases h with rfl | ⟨g, rfl, hc⟩
  all_goals
    go_enter Try.func34, Try.ntmps34
    go_wp2
    go_ret
    exact ⟨rfl, rfl⟩
theorem tnone_is (h : TalAt w g gd f on count over) : Calls Try.prog 34 #[.pointer (some ⟨g, 0, none⟩)] w fun e w' => e = .returned (.bool false) ∧ w = w' := by
  have h0 := h.c0
  clear h
  go_enter Try.func34, Try.ntmps34
  go_wp2
  go_ret
  exact ⟨rfl, rfl⟩
theorem tcount_is (h : TalAt w g gd f on count over) : Calls Try.prog 13 #[.pointer (some ⟨g, 0, none⟩)] w fun e w' => e = .returned (.int .i64 count) ∧ w = w' := by
  have h0 := h.ccount
  have H := hide h
  clear h
  go_enter Try.func13, Try.ntmps13
  go_wp2_with (go_at_call 34; refine (tnone_is H.out).mono ?_; rintro e w' ⟨rfl, rfl⟩)
  go_ret
  exact ⟨rfl, rfl⟩
theorem tcount_no (v : Value) (h : NoTal w v) : Calls Try.prog 13 #[v] w fun e w' => e = .returned (.int .i64 0) ∧ w = w' := by
  have H := hide h
  clear h
  go_enter Try.func13, Try.ntmps13
  go_wp2_with (go_at_call 34; refine (tnone_no _ H.out).mono ?_; rintro e w' ⟨rfl, rfl⟩)
  go_ret
  exact ⟨rfl, rfl⟩
theorem tover_is (h : TalAt w g gd f on count over) : Calls Try.prog 15 #[.pointer (some ⟨g, 0, none⟩)] w fun e w' => e = .returned (.bool over) ∧ w = w' := by
  have h0 := h.cover
  have H := hide h
  clear h
  go_enter Try.func15, Try.ntmps15
  go_wp2_with (go_at_call 34; refine (tnone_is H.out).mono ?_; rintro e w' ⟨rfl, rfl⟩)
  go_ret
  exact ⟨rfl, rfl⟩
theorem tover_no (v : Value) (h : NoTal w v) : Calls Try.prog 15 #[v] w fun e w' => e = .returned (.bool false) ∧ w = w' := by
  have H := hide h
  clear h
  go_enter Try.func15, Try.ntmps15
  go_wp2_with (go_at_call 34; refine (tnone_no _ H.out).mono ?_; rintro e w' ⟨rfl, rfl⟩)
  go_ret
  exact ⟨rfl, rfl⟩
theorem tstep_no (v : Value) (h : NoTal w v) : Calls Try.prog 10 #[v] w fun e w' => e = .returned (.int .i64 1) ∧ w = w' := by
  have H := hide h
  clear h
  go_enter Try.func10, Try.ntmps10
  go_wp2_with (go_at_call 34; refine (tnone_no _ H.out).mono ?_; rintro e w' ⟨rfl, rfl⟩)
  go_ret
  exact ⟨rfl, rfl⟩
end
end Go.Proofs.Ytmeegehmbphooaa
