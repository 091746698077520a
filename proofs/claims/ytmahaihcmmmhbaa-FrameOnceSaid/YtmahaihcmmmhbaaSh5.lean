/-
  sha: Table.
-/
import Derived.Test.YtmahaihcmmmhbaaSh4
import Derived.Deep.MidRow
namespace Go.Proofs.Ytmahaihcmmmhbaa
open Go.RowKit
/-- words of rounds, in a block -/
structure RdAt (w : World) (b : Nat) (T : List Int) : Prop where
  len : T.length = 72
  u : U32 T
  blk : Blk w b 42 (ints .u32 T).toArray
theorem Blk.setC {w : World} {b : Nat} {t : TypeId} {cs : Array Value} (h : Blk w b t cs) (i : Nat) (v : Value) : Blk (w.setCell ⟨b, i, none⟩ v) b t (cs.setIfInBounds i v) := heap_setCell_same w b i cs t v h
theorem RdAt.set {w : World} {b : Nat} {T : List Int} (h : RdAt w b T) (i : Nat) (x : Int) (hx : 0 ≤ x ∧ x < 4294967296) : RdAt (w.setCell ⟨b, i, none⟩ (.int .u32 x)) b (T.set i x) := by
  refine ⟨by rw [List.length_set]; exact h.len, h.u.set i hx, ?_⟩
  have := h.blk.setC i (.int .u32 x)
  rw [List.setIfInBounds_toArray] at this
  have e : (ints .u32 T).set i (.int .u32 x) = ints .u32 (T.set i x) := by unfold ints; rw [List.map_set]
  rwa [e] at this
theorem RdAt.cell {w : World} {b : Nat} {T : List Int} (h : RdAt w b T) {i : Nat} (hi : i < 72) : w.cell? ⟨b, i, none⟩ = some (.int .u32 (T.getD i 0)) := by
  rw [h.blk.cell i]
  simp only [List.getElem?_toArray]
  exact ints_get (by rw [h.len]; exact hi)
theorem RdAt.zero (w : World) : RdAt (w.alloc (.cells Try.zeroCells42 42)) w.heap.size (List.replicate 72 0) := by
  have e : Try.zeroCells42 = (ints .u32 (List.replicate 72 0)).toArray := by kernel_rfl
  rw [e]
  exact ⟨List.length_replicate, fun x hx => by have := (List.mem_replicate.1 hx).2; omega, Blk.new _ _ _⟩
theorem RdAt.frm {S : Nat → Prop} {w w' : World} {b : Nat} {T : List Int} (h : RdAt w b T) (hf : Frm S w w') (hs : ¬ S b) : RdAt w' b T := ⟨h.len, h.u, h.blk.frm hf hs⟩
theorem rounds_size : (Try.prog.info? 42).map (·.size) = some 72 := by kernel_rfl
theorem RdAt.range {w : World} {b : Nat} {T : List Int} (h : RdAt w b T) : w.rangeAt b 0 (ints .u32 T) := fun j v hv => by
  rw [Nat.zero_add, h.blk.cell j]; simpa using hv
theorem RdAt.there {w : World} {b : Nat} {T : List Int} (h : RdAt w b T) : w.there b 0 72 := fun j hj => ⟨by rw [Nat.zero_add, h.cell hj]; rfl, by rw [Nat.zero_add]; exact h.blk.frozen j⟩
def TbRel (w1 : World) (b m : Nat) (x : Value) (wr : World) : Prop := ∃ (j : Nat) (T : List Int), j ≤ m ∧ x = .int .i64 j ∧ RdAt wr b T ∧ Frm (One b) w1 wr
def TbPost (w : World) (e : Ending) (w' : World) : Prop := ∃ T : List Int, T.length = 72 ∧ U32 T ∧ e = .returned (.agg (ints .u32 T).toArray) ∧ Frm NoB w w'
set_option maxRecDepth 100000 in
set_option maxHeartbeats 4000000 in
theorem table_is (w : World) : Calls Try.prog 11 #[] w (TbPost w) := by
  go_enter Try.func11, Try.ntmps11
  have hz0 := RdAt.zero w
  have hz1 := RdAt.zero (w.alloc (.cells Try.zeroCells42 42))
  rw [World.size_alloc] at hz1
  have hz0 := hz0.frm ((Frm.refl NoB _).alloc (.cells Try.zeroCells42 42)) (fun e => e)
  have HZ0 := hide hz0
  have HZ1 := hide hz1
  clear hz0 hz1
  go_wp2_with fail
  refine (primes_is _).mono ?_
  rintro e w1 ⟨A, c, l, rfl, hl, hrd, hlo, hF⟩
  have HRD := hide hrd
  have HF0 : Hid (Frm NoB w w1) := (((Frm.refl NoB w).alloc _).alloc _).trans hF
  have HB0 := hide (HZ0.out.frm hF (fun e => e))
  have HB1 := hide (HZ1.out.frm hF (fun e => e))
  have HLO : Hid (∀ a, A = some a → w.heap.size + 2 ≤ a.block) := fun a ha => by have := hlo a ha; simpa using this
  have HL := hide hl
  clear hrd hlo hF HZ0 HZ1 hl
  go_wp2_with fail
  go_loopw [6] (fun x wr => TbRel w1 (w.heap.size + 1) 8 x wr) (fun i _ => 8 - (intOf i).toNat)
  case atStart => exact ⟨0, _, by omega, rfl, HB1.out, Frm.refl _ _⟩
  case round =>
    clear HB1
    obtain ⟨j, T, hj, rfl, hT, hF⟩ := hrel
    have HT := hide hT
    have HF := hide hF
    clear hT hF
    by_cases hlt : j < 8
    · have j0 : (0 : Int) ≤ (j : Int) := by omega
      have j1 : (j : Int) < 8 := by omega
      have j2 : (j : Int) < 64 := by omega
      obtain ⟨b, o, rfl, hc⟩ := HRD.out (ints_ne (by intro e; have := HL.out; rw [e] at this; cases this))
      have h1 := hc j _ (ints_get (by have := HL.out; omega))
      have hbb := HLO.out _ rfl
      have h2 : wr.cell? ⟨b, o + j, none⟩ = some (.int .u64 (l.getD j 0)) := by
        rw [HF.out.cell (p := ⟨b, o + j, none⟩) (World.block_lt_of_cell? w1 _ h1) (fun e => by have e : b = w.heap.size + 1 := e; dsimp only at hbb; omega)]; exact h1
      clear hc h1 hbb
      have c3 := HT.out.cell (i := j) (by omega)
      have f3 : wr.frozen? ⟨w.heap.size + 1, j, none⟩ = false := HT.out.blk.frozen j
      generalize l.getD j 0 = x at h2
      go_wp2_with fail
      refine (root_any x false wr).mono ?_
      rintro e w' ⟨r, rfl, r0, r1, rfl⟩
      go_wp2
      go_roundw
      case rel => exact ⟨j + 1, _, by omega, by go_num, HT.out.set j r ⟨r0, r1⟩, Frm.setCell HF.out (p := ⟨w.heap.size + 1, j, none⟩) (.inl rfl) _⟩
      case measure => simp [intOf]; omega
    · have dj : decide ((j : Int) < 8) = false := decide_eq_false (by omega)
      obtain ⟨w2, rfl⟩ : ∃ w2 : World, w2 = wr := ⟨_, rfl⟩
      have HT0 := hide HT.out
      clear HT
      go_wp2_with fail
      go_loopw [18] (fun x wr => TbRel w1 (w.heap.size + 1) 64 x wr) (fun i _ => 64 - (intOf i).toNat)
      case atStart => exact ⟨0, _, by omega, rfl, HT0.out, HF.out⟩
      case round =>
        clear HT0 HF
        obtain ⟨j, T, hj, rfl, hT, hF⟩ := hrel
        have HT := hide hT
        have HF := hide hF
        clear hT hF
        by_cases hlt : j < 64
        · have j0 : (0 : Int) ≤ (j : Int) := by omega
          have j1 : (j : Int) < 64 := by omega
          obtain ⟨b, o, rfl, hc⟩ := HRD.out (ints_ne (by intro e; have := HL.out; rw [e] at this; cases this))
          have h1 := hc j _ (ints_get (by have := HL.out; omega))
          have hbb := HLO.out _ rfl
          have h2 : wr.cell? ⟨b, o + j, none⟩ = some (.int .u64 (l.getD j 0)) := by
            rw [HF.out.cell (p := ⟨b, o + j, none⟩) (World.block_lt_of_cell? w1 _ h1) (fun e => by have e : b = w.heap.size + 1 := e; dsimp only at hbb; omega)]; exact h1
          clear hc h1 hbb
          have c3 := HT.out.cell (i := 8 + j) (by omega)
          have f3 : wr.frozen? ⟨w.heap.size + 1, 8 + j, none⟩ = false := HT.out.blk.frozen (8 + j)
          generalize l.getD j 0 = x at h2
          go_wp2_with fail
          refine (root_any x true wr).mono ?_
          rintro e w' ⟨r, rfl, r0, r1, rfl⟩
          go_wp2
          go_roundw
          case rel => exact ⟨j + 1, _, by omega, by go_num, HT.out.set (8 + j) r ⟨r0, r1⟩, Frm.setCell HF.out (p := ⟨w.heap.size + 1, 8 + j, none⟩) (.inl rfl) _⟩
          case measure => simp [intOf]; omega
        · obtain rfl : j = 64 := by omega
          have HB2 := hide (HB0.out.frm HF.out (fun e => by have e : w.heap.size = w.heap.size + 1 := e; omega))
          have hR := HT.out.range
          have hTh := HB2.out.there
          have hsz : (Try.prog.info? 42).map (·.size) = some (ints .u32 T).length := by rw [rounds_size, ints_length, HT.out.len]
          have hsz' : (Try.prog.info? 42).map (·.size) = some (ints .u32 T).toArray.size := by rw [hsz]; rfl
          have hone : (ints .u32 T).toArray.all (·.oneCell') = true := all_oneCell_toArray (fun v hv => by
            unfold ints at hv
            obtain ⟨y, _, rfl⟩ := List.mem_map.1 hv
            rfl)
          have hT72 : (ints .u32 T).toArray.size = 72 := by rw [List.size_toArray, ints_length, HT.out.len]
          clear hTh
          obtain ⟨V, hV⟩ : ∃ V, (ints .u32 T).toArray = V := ⟨_, rfl⟩
          have hVb : Blk wr w.heap.size 42 _ := HB2.out.blk
          have hsz2 : (Try.prog.info? 42).map (·.size) = some V.size := by rw [← hV]; exact hsz'
          have hsz3 : (ints .u32 (List.replicate 72 0)).toArray.size = V.size := by rw [← hV, hT72, List.size_toArray, ints_length, List.length_replicate]
          have hFx : Frm NoB w (wr.setRow w.heap.size V) := (HF0.out.then_ HF.out (fun i hi e => by
            have e : i = w.heap.size + 1 := e
            omega)).setRow (.inr (Nat.le_refl _)) V
          have HFX := hide hFx
          go_upto_region 13 with fail
          go_wp2_with (first
            | (refine wpList_load_mid rfl 42 (.tmp 1) rfl (w.heap.size + 1) 0 rfl (ints .u32 T) _ hR Try.underlying42 rfl hsz ?_; rw [hV])
            | (refine wpList_store_row rfl 42 (.tmp 0) (.tmp 30) rfl w.heap.size V rfl rfl 42 _ hVb hsz2 hsz3 (by rw [← hV]; exact hone) ?_))
          refine bodyPost_ret (results_cell_row rfl _ _ w.heap.size 42 V (0, 0) _ rfl (HB2.out.blk.setRow V) Try.underlying42 rfl (by rw [← hV]; exact hsz')) rfl ⟨T, HT.out.len, HT.out.u, by rw [hV], HFX.out⟩
end Go.Proofs.Ytmahaihcmmmhbaa
