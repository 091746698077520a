/-
  SameNor: a flash beside the document's flash of the same plain model.
-/
import Derived.Test.YtlbnhmcejbidnaaRefE
import Derived.Deep.RegionHeld3
namespace Go.Proofs.Ytlbnhmcejbidnaa
open Go.RowKit Go.Proofs.YtlbnhmcejbidnaaW.PrintWords Go.Proofs.Ytlbnhmcejbidnaa.PNorPlays
section
variable {w0 w : World} {P : Nat → Prop} {v : Value} {s : NorS} {p q c : Nat}
/-- behind j sectors, or places -/
structure SnRel (w : World) (v : Value) (s : NorS) (n : Nat) (i : Value) (wr : World) (j : Nat) : Prop where
  le : j ≤ n
  i : i = .int .i64 j
  b : Blk wr w.heap.size 57 (rcells v s)
  f : Frm NoB w wr
def SnAt (w : World) (v : Value) (s : NorS) (n : Nat) (i : Value) (wr : World) : Prop := ∃ j, SnRel w v s n i wr j

theorem rc_cells {w : World} {g : Nat} {t : TypeId} {v : Value} {s : NorS} (h : Blk w g t (rcells v s)) : w.cell? ⟨g, 0, none⟩ = some v ∧ w.cell? ⟨g, 1, none⟩ = some (.int .i64 s.guard) ∧ w.cell? ⟨g, 2, none⟩ = some (.int .i64 s.arm) ∧ w.cell? ⟨g, 3, none⟩ = some (.bool s.down) ∧ w.cell? ⟨g, 4, none⟩ = some (.int .i64 s.half) :=
  ⟨h.cell 0, h.cell 1, h.cell 2, h.cell 3, h.cell 4⟩
set_option maxRecDepth 100000 in
set_option maxHeartbeats 2000000 in
theorem sameNor_is (h : NorAt w p q c s) (hr : Rf w0 w P v s) :
    Calls Try.prog 35 #[.pointer (some ⟨p, 0, none⟩), refV v s] w fun e w' => e = .returned (.bool true) ∧ Frm NoB w w' := by
  have H := hide h
  have HR := hide hr
  have hn2 := h.ok.n2
  clear h hr
  have n1 : (((s.n : Nat) : Int) != ((s.n : Nat) : Int)) = false := by simp
  have n2 : (s.guard != s.guard) = false := by simp
  have n3 : (s.down != s.down) = false := by simp
  have hB := Blk.new w 57 (rcells v s)
  obtain ⟨m0, m1, m2, m3, m4⟩ := rc_cells hB
  have HB := hide hB
  clear hB
  unfold refV
  go_enter Try.func35, Try.ntmps35
  go_wp2
  go_region_held3 (fun w' => w'.cell? ⟨w.heap.size, 0, none⟩ = some v ∧ w'.cell? ⟨w.heap.size, 1, none⟩ = some (.int .i64 s.guard) ∧ w'.cell? ⟨w.heap.size, 2, none⟩ = some (.int .i64 s.arm) ∧ w'.cell? ⟨w.heap.size, 3, none⟩ = some (.bool s.down) ∧ w'.cell? ⟨w.heap.size, 4, none⟩ = some (.int .i64 s.half)) (go_keep)
    (first
      | (go_at_call 24; refine (sectors_is ((Hid.out H).alloc _).drew).mono ?_; rintro e w' ⟨rfl, rfl⟩)
      | (go_at_call 44; refine (ref_sectors (HR.out.frm (((Frm.refl NoB w).alloc _).drew) (fun _ _ e => e))).mono ?_; rintro e w1 ⟨rfl, hb⟩; have hF1 := (((Frm.refl NoB w).alloc _).drew).trans (Frm.of_below hb NoB); have hB1 := (Blk.drew HB.out).below hb; obtain ⟨m0, m1, m2, m3, m4⟩ := rc_cells hB1; have N1 := hide ((Hid.out H).frm hF1 (fun e => e) (fun e => e)); have HB1 := hide hB1; have HF1 := hide hF1; clear hb hB1 hF1)
      | (go_at_call 25; refine (guard_is (Hid.out N1)).mono ?_; rintro e w' ⟨rfl, rfl⟩)
      | (go_at_call 11; refine (down_is (Hid.out N1)).mono ?_; rintro e w' ⟨rfl, rfl⟩))
  clear m0 m1 m2 m3 m4
  have HB1' := HB1
  go_wp2
  go_loopw [5] (fun i wr => SnAt w v s s.n i wr) (fun i _ => s.n - (intOf i).toNat)
  case atStart => exact ⟨0, by omega, rfl, HB1.out, HF1.out⟩
  case round =>
    obtain ⟨j, hj, rfl, hb, hf⟩ := hrel
    have HBr := hide hb
    have HFr := hide hf
    clear hb hf
    go_wp2_with (first
      | (refine wpList_load_row rfl 57 (.tmp 3) rfl w.heap.size rfl 57 _ (0, 0) _ HBr.out Try.underlying57 rfl ref_size ?_))
    refine (ref_sectors (HR.out.frm HFr.out (fun _ _ e => e))).mono ?_
    rintro e w2 ⟨rfl, hb2⟩
    have HB2 := hide ((Hid.out HBr).below hb2)
    have HF2 := hide ((HFr.out : Frm NoB w wr).trans (Frm.of_below hb2 NoB))
    clear hb2 HBr HFr
    by_cases hlt : j < s.n
    · go_wp2
      obtain ⟨wo, rfl⟩ : ∃ wo : World, wo = w2 := ⟨_, rfl⟩
      go_loopw [6] (fun i wr => SnAt w v s 64 i wr) (fun i _ => 64 - (intOf i).toNat)
      case atStart => exact ⟨0, by omega, rfl, HB2.out, HF2.out⟩
      case round =>
        obtain ⟨k, hk, rfl, hb, hf⟩ := hrel
        have HBr := hide hb
        have HFr := hide hf
        clear hb hf
        by_cases hlt2 : k < 64
        · go_wp2_with (first
            | (go_at_call 27; refine (read_is _ _ ((Hid.out H).frm HFr.out (fun e => e) (fun e => e))).mono ?_; rintro e w' ⟨rfl, rfl⟩)
            | (refine wpList_load_row rfl 57 (.tmp 3) rfl w.heap.size rfl 57 _ (0, 0) _ HBr.out Try.underlying57 rfl ref_size ?_))
          refine (ref_read _ _ (HR.out.frm HFr.out (fun _ _ e => e))).mono ?_
          rintro e w3 ⟨rfl, hb3⟩
          have HB3 := hide ((Hid.out HBr).below hb3)
          have HF3 := hide ((HFr.out : Frm NoB w _).trans (Frm.of_below hb3 NoB))
          clear hb3 HBr HFr
          have t1 : (s.read j k != s.read j k) = false := by simp
          have t2 : (s.up j k 1 != s.up j k 1) = false := by simp
          go_wp2
          go_roundw
          case rel => exact ⟨k + 1, by omega, by go_num, HB3.out, HF3.out⟩
          case measure => simp [intOf]; omega
        · go_wp2
          go_roundw
          case rel => exact ⟨j + 1, by omega, by go_num, HBr.out, HFr.out⟩
          case measure => simp [intOf]; omega
    · go_wp2
      go_ret
      exact ⟨rfl, HF2.out⟩
end
end Go.Proofs.Ytlbnhmcejbidnaa
