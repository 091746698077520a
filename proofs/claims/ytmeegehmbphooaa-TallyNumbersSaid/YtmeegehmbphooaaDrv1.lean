/-
  The drive: how it lies in memory; Open, Part, Sectors, Size, there, Erase.
-/
import Derived.Test.YtmeegehmbphooaaNorGen
import Derived.Test.YtmeegehmbphooaaDrvP
import Derived.Deep.RegionHeld3
import Derived.IntWalk
namespace Go.Proofs.Ytmeegehmbphooaa
open Go.RowKit

/-- A drive in memory: block g. -/
def drvCells (p : Nat) (d : DrvS) : Array Value := #[.pointer (some ⟨p, 0, none⟩), .int .i64 d.first, .int .i64 d.many]
structure DrvAt (w : World) (g p : Nat) (d : DrvS) : Prop where
  b : Blk w g 87 (drvCells p d)
namespace DrvAt
variable {w w' : World} {g p : Nat} {d : DrvS}
theorem c0 (h : DrvAt w g p d) : w.cell? ⟨g, 0, none⟩ = some (.pointer (some ⟨p, 0, none⟩)) := h.b.cell 0
theorem c1 (h : DrvAt w g p d) : w.cell? ⟨g, 1, none⟩ = some (.int .i64 d.first) := h.b.cell 1
theorem c2 (h : DrvAt w g p d) : w.cell? ⟨g, 2, none⟩ = some (.int .i64 d.many) := h.b.cell 2
theorem frm {S : Nat → Prop} (h : DrvAt w g p d) (hf : Frm S w w') (hs : ¬ S g) : DrvAt w' g p d := ⟨h.b.frm hf hs⟩
theorem lt (h : DrvAt w g p d) : g < w.heap.size := h.b.lt
theorem ne {p' q c : Nat} {s : NorS} (h : DrvAt w g p d) (hn : NorAt w p' q c s) : g ≠ p' ∧ g ≠ q := by
  refine ⟨?_, ?_⟩
  · rintro rfl
    exact absurd (h.b.inj hn.blk).2 (by decide)
  · rintro rfl
    obtain ⟨cs, hb⟩ := hn.blkq
    exact absurd (h.b.inj hb).2 (by decide)
theorem two {p' q c : Nat} {s : NorS} (h : DrvAt w g p d) (hn : NorAt w p' q c s) : ¬ Two p' q g := fun e => by
  have := h.ne hn
  rcases e with e | e
  · exact this.1 e
  · exact this.2 e
end DrvAt
/-- No drive: nil, or one that Open did not make. -/
def NoDrv (w : World) (v : Value) : Prop := v = .pointer none ∨ ∃ g, v = .pointer (some ⟨g, 0, none⟩) ∧ w.cell? ⟨g, 0, none⟩ = some (.pointer none)

theorem dnone_no (v : Value) (w : World) (h : NoDrv w v) : Calls Try.prog 65 #[v] w fun e w' => e = .returned (.bool true) ∧ w = w' := by
  rcases h with rfl | ⟨g, rfl, hc⟩
  all_goals
    go_enter Try.func65, Try.ntmps65
    go_wp2
    go_ret
    exact ⟨rfl, rfl⟩
/-- are there so many from a place on, of some? -/
def withinB (a m k : Int) : Bool := decide (0 ≤ a ∧ 0 ≤ m ∧ a ≤ k ∧ m ≤ k - a)
theorem within_true {a m k : Int} (h : 0 ≤ a ∧ 0 ≤ m ∧ a ≤ k ∧ m ≤ k - a) : withinB a m k = true := decide_eq_true h
theorem within_false {a m k : Int} (h : ¬ (0 ≤ a ∧ 0 ≤ m ∧ a ≤ k ∧ m ≤ k - a)) : withinB a m k = false := decide_eq_false h
theorem within_is (a m k : Int) (w : World) (hk : 0 ≤ k) (hk2 : k ≤ 9223372036854775807) :
    Calls Try.prog 48 #[.int .i64 a, .int .i64 m, .int .i64 k] w fun e w' => e = .returned (.bool (withinB a m k)) ∧ w = w' := by
  have H : Hid (∀ b : Bool, (b = true ↔ (0 ≤ a ∧ 0 ≤ m ∧ a ≤ k ∧ m ≤ k - a)) → b = withinB a m k) := fun b hb => by rw [Bool.eq_iff_iff, hb]; simp [withinB]
  go_enter Try.func48, Try.ntmps48
  go_wp2
  all_goals
    go_ret
    refine ⟨ret_bool (H.out _ ?_), rfl⟩
    simp
    try omega
section
variable {w : World} {g p q c : Nat} {s : NorS} {d : DrvS}
theorem dnone_is (h : DrvAt w g p d) : Calls Try.prog 65 #[.pointer (some ⟨g, 0, none⟩)] w fun e w' => e = .returned (.bool false) ∧ w = w' := by
  have h0 := h.c0
  clear h
  go_enter Try.func65, Try.ntmps65
  go_wp2
  go_ret
  exact ⟨rfl, rfl⟩
theorem dsectors_is (h : DrvAt w g p d) : Calls Try.prog 44 #[.pointer (some ⟨g, 0, none⟩)] w fun e w' => e = .returned (.int .i64 d.many) ∧ w = w' := by
  have h2 := h.c2
  have H := hide h
  clear h
  go_enter Try.func44, Try.ntmps44
  go_wp2_with (go_at_call 65; refine (dnone_is H.out).mono ?_; rintro e w' ⟨rfl, rfl⟩)
  go_ret
  exact ⟨rfl, rfl⟩
theorem dsize_is (h : DrvAt w g p d) (hd : d.many ≤ 1024) : Calls Try.prog 45 #[.pointer (some ⟨g, 0, none⟩)] w fun e w' => e = .returned (.int .i64 ((d.many : Int) * 64)) ∧ w = w' := by
  have H := hide h
  clear h
  go_enter Try.func45, Try.ntmps45
  go_wp2_with (go_at_call 44; refine (dsectors_is H.out).mono ?_; rintro e w' ⟨rfl, rfl⟩)
  go_ret
  exact ⟨rfl, rfl⟩
/-- what 'there' tells -/
def DrvS.thereE (d : DrvS) (a m : Int) : Int := if 0 ≤ a ∧ 0 ≤ m ∧ a ≤ d.many * 64 ∧ m ≤ d.many * 64 - a then 0 else 2
theorem dthere_is (a m : Int) (h : DrvAt w g p d) (hd : d.many ≤ 1024) : Calls Try.prog 40 #[.pointer (some ⟨g, 0, none⟩), .int .i64 a, .int .i64 m] w fun e w' => e = .returned (.int .i64 (d.thereE a m)) ∧ w = w' := by
  have H := hide h
  clear h
  by_cases ht : 0 ≤ a ∧ 0 ≤ m ∧ a ≤ d.many * 64 ∧ m ≤ d.many * 64 - a
  · have E : Hid (d.thereE a m = 0) := by show _ = _; unfold DrvS.thereE; rw [if_pos ht]
    have e0 : withinB a m ((d.many : Int) * 64) = true := within_true ht
    have E0 := hide e0
    clear ht e0
    go_enter Try.func40, Try.ntmps40
    go_wp2_with (first
      | (go_at_call 65; refine (dnone_is H.out).mono ?_; rintro e w' ⟨rfl, rfl⟩)
      | (go_at_call 45; refine (dsize_is H.out hd).mono ?_; rintro e w' ⟨rfl, rfl⟩)
      | (go_at_call 48; refine (within_is _ _ _ _ (by omega) (by omega)).mono ?_; rw [E0.out]; rintro e w' ⟨rfl, rfl⟩))
    go_ret
    exact ⟨ret_int E.out.symm, rfl⟩
  · have E : Hid (d.thereE a m = 2) := by show _ = _; unfold DrvS.thereE; rw [if_neg ht]
    have e0 : withinB a m ((d.many : Int) * 64) = false := within_false ht
    have E0 := hide e0
    clear ht e0
    go_enter Try.func40, Try.ntmps40
    go_wp2_with (first
      | (go_at_call 65; refine (dnone_is H.out).mono ?_; rintro e w' ⟨rfl, rfl⟩)
      | (go_at_call 45; refine (dsize_is H.out hd).mono ?_; rintro e w' ⟨rfl, rfl⟩)
      | (go_at_call 48; refine (within_is _ _ _ _ (by omega) (by omega)).mono ?_; rw [E0.out]; rintro e w' ⟨rfl, rfl⟩))
    go_ret
    exact ⟨ret_int E.out.symm, rfl⟩
theorem dthere_no (a m : Int) (v : Value) (h : NoDrv w v) : Calls Try.prog 40 #[v, .int .i64 a, .int .i64 m] w fun e w' => e = .returned (.int .i64 1) ∧ w = w' := by
  have H := hide h
  clear h
  go_enter Try.func40, Try.ntmps40
  go_wp2_with (go_at_call 65; refine (dnone_no _ _ H.out).mono ?_; rintro e w' ⟨rfl, rfl⟩)
  go_ret
  exact ⟨rfl, rfl⟩
theorem dsectors_no (v : Value) (h : NoDrv w v) : Calls Try.prog 44 #[v] w fun e w' => e = .returned (.int .i64 0) ∧ w = w' := by
  have H := hide h
  clear h
  go_enter Try.func44, Try.ntmps44
  go_wp2_with (go_at_call 65; refine (dnone_no _ _ H.out).mono ?_; rintro e w' ⟨rfl, rfl⟩)
  go_ret
  exact ⟨rfl, rfl⟩
theorem dsize_no (v : Value) (h : NoDrv w v) : Calls Try.prog 45 #[v] w fun e w' => e = .returned (.int .i64 0) ∧ w = w' := by
  have H := hide h
  clear h
  go_enter Try.func45, Try.ntmps45
  go_wp2_with (go_at_call 44; refine (dsectors_no _ H.out).mono ?_; rintro e w' ⟨rfl, rfl⟩)
  go_ret
  exact ⟨rfl, rfl⟩
/-- Open of sectors that there are -/
theorem dopen_is (a m : Nat) (h : NorAt w p q c s) (hm : 1 ≤ m) (ham : a + m ≤ s.n) :
    Calls Try.prog 17 #[.pointer (some ⟨p, 0, none⟩), .int .i64 a, .int .i64 m] w fun e w' => e = .returned (.tuple #[.pointer (some ⟨w.heap.size, 0, none⟩), .int .i64 0]) ∧ w' = w.alloc (.cells (drvCells p ⟨a, m⟩) 87) := by
  have hn := h.ok.n2
  have hn1 := h.n0
  have H := hide h
  clear h
  have e0 : withinB a m s.n = true := within_true (by omega)
  have E0 := hide e0
  have m1 : decide ((m : Int) < 1) = false := by simp; omega
  clear e0
  go_enter Try.func17, Try.ntmps17
  go_wp2_with (first
    | (go_at_call 47; refine (sectors_is H.out).mono ?_; rintro e w' ⟨rfl, rfl⟩)
    | (go_at_call 48; refine (within_is _ _ _ _ (by omega) (by omega)).mono ?_; rw [E0.out]; rintro e w' ⟨rfl, rfl⟩))
  go_ret2
  exact ⟨rfl, rfl⟩
theorem dopen_bad (a m : Int) (h : NorAt w p q c s) (hb : ¬ (1 ≤ m ∧ 0 ≤ a ∧ a ≤ s.n ∧ m ≤ s.n - a)) :
    Calls Try.prog 17 #[.pointer (some ⟨p, 0, none⟩), .int .i64 a, .int .i64 m] w fun e w' => e = .returned (.tuple #[.pointer none, .int .i64 2]) ∧ w = w' := by
  have hn := h.ok.n2
  have hn1 := h.n0
  have H := hide h
  have HB := hide hb
  clear h hb
  by_cases hm : m < 1
  · go_enter Try.func17, Try.ntmps17
    go_wp2_with (first
      | (go_at_call 47; refine (sectors_is H.out).mono ?_; rintro e w' ⟨rfl, rfl⟩))
    go_ret2
    exact ⟨rfl, rfl⟩
  · have e0 : withinB a m s.n = false := within_false (by have := HB.out; omega)
    have E0 := hide e0
    clear e0
    go_enter Try.func17, Try.ntmps17
    go_wp2_with (first
      | (go_at_call 47; refine (sectors_is H.out).mono ?_; rintro e w' ⟨rfl, rfl⟩)
      | (go_at_call 48; refine (within_is _ _ _ _ (by omega) (by omega)).mono ?_; rw [E0.out]; rintro e w' ⟨rfl, rfl⟩))
    go_ret2
    exact ⟨rfl, rfl⟩
theorem dopen_no (a m : Int) (v : Value) (h : NoNor w v) :
    Calls Try.prog 17 #[v, .int .i64 a, .int .i64 m] w fun e w' => e = .returned (.tuple #[.pointer none, .int .i64 1]) ∧ w = w' := by
  have H := hide h
  clear h
  go_enter Try.func17, Try.ntmps17
  go_wp2_with (first
    | (go_at_call 47; refine (sectors_no _ H.out).mono ?_; rintro e w' ⟨rfl, rfl⟩))
  go_ret2
  exact ⟨rfl, rfl⟩
end
end Go.Proofs.Ytmeegehmbphooaa
