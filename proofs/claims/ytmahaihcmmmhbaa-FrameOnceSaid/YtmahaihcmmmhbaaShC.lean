/-
  sha: blocks.
-/
import Derived.Test.YtmahaihcmmmhbaaShB
import Derived.Test.YtmahaihcmmmhbaaShP2
import Derived.Test.YtmahaihcmmmhbaaByRs
import Derived.Test.YtmahaihcmmmhbaaRegT
import Derived.Test.YtmahaihcmmmhbaaFr1
import Derived.Laws.Cover3
namespace Go.Proofs.Ytmahaihcmmmhbaa
open Go.RowKit
section
variable {P : Program} {ops : Array Oper} {Q : Exit → Act → World → Prop} {S T : World → Prop} {st : Nat}
theorem wpMixU_takeY {o : Oper} {l : List Oper} {r : List Nat} {k : Nat} {a : Act} {w : World} (v : Value) (hy : YieldsIf P ops S o v a) (h : wpMixU P ops Q S T st l r (k + 1) (a.put o.dst v) w) :
    wpMixU P ops Q S T st (o :: l) (0 :: r) k a w := by unfold wpMixU; exact ⟨v, hy, h⟩
theorem wpMixU_takeY1 {o : Oper} {l : List Oper} {r : List Nat} {k : Nat} {a : Act} {w : World} (v : Value) (hy : YieldsIf P ops (fun w => S w ∧ T w) o v a) (h : wpMixU P ops Q S T st l r (k + 1) (a.put o.dst v) w) :
    wpMixU P ops Q S T st (o :: l) (1 :: r) k a w := by unfold wpMixU; exact ⟨v, hy, h⟩
end
structure BsSt (w wr : World) (S : List Int) : Prop where
  s : Blk wr w.heap.size 39 (ints .u32 S).toArray
  r : Blk wr (w.heap.size + 1) 39 zero8
  f : Frm NoB w wr
def BsRel (w : World) (T S xs : List Int) (x2 : Value) (wr : World) : Prop := ∃ (k : Nat) (A : Option Addr) (n c : Nat), 64 * k ≤ xs.length ∧ x2 = .slice A n c ∧ n = xs.length - 64 * k ∧ By w x2 (xs.drop (64 * k)) ∧ BsSt w wr (bks T S xs k)
def BlocksPost (w : World) (T S xs : List Int) (e : Ending) (w' : World) : Prop := ∃ v', e = .returned (.tuple #[.agg (ints .u32 (bkA T S xs)).toArray, v']) ∧ By w v' (bkR xs) ∧ Frm NoB w w'
set_option maxRecDepth 100000 in
set_option maxHeartbeats 4000000 in
theorem blocks_is (b : Nat) (T S xs : List Int) (v : Value) (w : World) (hT : RdAt w b T) (hS : S.length = 8) (uS : U32 S) (hx : By w v xs) :
    Calls Try.prog 63 #[.pointer (some ⟨b, 0, none⟩), .agg (ints .u32 S).toArray, v] w (BlocksPost w T S xs) := by
  have h0 : BsSt w ((w.alloc (.cells (ints .u32 S).toArray 39)).alloc (.cells zero8 39)) (bks T S xs 0) := ⟨(Blk.new w _ _).alloc _, blk_snd _ _ _ _, ((Frm.refl NoB w).alloc _).alloc _⟩
  have H0 := hide h0
  have HT := hide hT
  have HS := hide hS
  have HX := hide hx
  obtain ⟨A, c, rfl, hx2⟩ := hx
  clear h0 hT hS hx2
  go_enter Try.func63, Try.ntmps63
  go_wp2_with fail
  go_loopw [2] (fun x wr => BsRel w T S xs x wr) (fun x _ => (match x with | .slice _ n _ => n | _ => 0))
  case atStart => exact ⟨0, A, xs.length, c, by omega, rfl, by omega, HX.out, H0.out⟩
  case round =>
    clear H0 HX
    obtain ⟨k, A, n, c, hk, rfl, hn, hX, hK⟩ := hrel
    have HK := hide hK
    have HX := hide hX
    have HN := hide hn
    by_cases hlt : 64 ≤ n
    · obtain ⟨A', c', he, h1, h2, h3, h4, h5⟩ := id hX
      injection he with e1 e2 e3
      subst e1 e3
      have hld : (xs.drop (64 * k)).length = n := by rw [List.length_drop]; omega
      obtain ⟨b1, o1, rfl, hc⟩ := h1 (ints_ne (by intro e; rw [e] at hld; simp at hld; omega))
      obtain ⟨ys, hys⟩ : ∃ ys, (xs.drop (64 * k)).take 64 = ys := ⟨_, rfl⟩
      have hyl : ys.length = 64 := by rw [← hys, List.length_take]; omega
      have hyu : U8 ys := by rw [← hys]; exact h5.take 64
      have hr : w.rangeAt b1 o1 (ints .u8 ys) := fun i v hi => by
        refine hc i v ?_
        rw [← hys] at hi
        have hi64 : i < 64 := by have := (List.getElem?_eq_some_iff.1 hi).1; rw [ints_length, hys, hyl] at this; exact this
        rw [← hi]
        simp only [ints, List.map_take]
        rw [List.getElem?_take_of_lt hi64]
      have hb1 : b1 < w.heap.size := by
        have := hc 0 _ (ints_get (by omega))
        exact World.block_lt_of_cell? w _ this
      have hrf : ∀ {w' : World}, Frm NoB w w' → w'.rangeAt b1 o1 (ints .u8 ys) := fun hf i v hi => (hf.cell (p := ⟨b1, o1 + i, none⟩) hb1 (fun e => e)).trans (hr i v hi)
      have HRF : Hid (∀ {w' : World}, Frm NoB w w' → w'.rangeAt b1 o1 (ints .u8 ys)) := hrf
      have HL : Hid (bks T S xs (k + 1) = blockP T (bks T S xs k) ys) := by show bks T S xs (k + 1) = _; rw [bks, hys]
      have hl8 := bks_length T xs HS.out k
      have hu8 := bks_u T xs uS k
      have KB : Hid (∀ W, Frm NoB w W → Calls Try.prog 71 #[.pointer (some ⟨b, 0, none⟩), .agg (ints .u32 (bks T S xs k)).toArray, .agg (ints .u8 ys).toArray] W (BlockPost W T (bks T S xs k) ys)) := fun W hf => block_is b T (bks T S xs k) ys W (HT.out.frm hf (fun e => e)) hl8 hu8 hyl hyu
      obtain ⟨V, hV⟩ : ∃ V, bks T S xs k = V := ⟨_, rfl⟩
      rw [hV] at HK HL KB hl8
      have HL8 := hide hl8
      have HB8 := hide (blockP_length T ys hl8)
      have hsV : (Try.prog.info? 39).map (·.size) = some (ints .u32 V).length := by rw [ints_length, hl8]; exact size_8
      have hsY : (Try.prog.info? 76).map (·.size) = some (ints .u8 ys).length := by rw [ints_length, hyl]; kernel_rfl
      have HSV := hide hsV
      have HSY := hide hsY
      have n0 : (64 : Int) ≤ (n : Int) := by omega
      have hlc : n ≤ c := by omega
      have n0' : 64 ≤ n := hlt
      have HR0 : Hid (c = 64 → By w (.slice (some ⟨b1, o1, none⟩) (n - 64) 0) (xs.drop (64 * (k + 1)))) := fun e => by
        have := hX.rest0 (m := 64) n0' e
        rwa [List.drop_drop, show 64 * k + 64 = 64 * (k + 1) from by omega] at this
      have HR1 : Hid (By w (.slice (some ⟨b1, o1 + 64, none⟩) (n - 64) (c - 64)) (xs.drop (64 * (k + 1)))) := by
        have := hX.rest1 (m := 64) n0'
        rw [List.drop_drop, show 64 * k + 64 = 64 * (k + 1) from by omega] at this
        rw [← addr_add]; exact this
      clear hc hr hrf h1 h5 hl8 hu8 hys hyl hyu hsV hsY hX hK hld hV hn e2
      have harr := fun (W : World) => run_arrayAt (P := Try.prog) (w := W) 76 _ 64 (some ⟨b1, o1, none⟩) n c Try.underlying76 n0'
      have d64 : decide ((64 : Int) ≤ (n : Int)) = true := decide_eq_true n0
      go_wp2_with fail
      have hb4 : b1 ≠ w.heap.size := by omega
      refine region_until [0, 1, 0, 0, 0, 2, 2] 6 (fun W => Frm NoB w W) (fun W => W.rangeAt w.heap.size 0 (ints .u32 V)) (by kernel_rfl) (by kernel_rfl) (by decide) (by kernel_rfl) HK.out.f.drew (fun i v hi => by rw [Nat.zero_add, HK.out.s.drew.cell i]; simpa using hi) ?_
      refine wpMixU_take ?_ (by rfl) (fun w0 hS => ?_) ?_
      rotate_left
      · go_simp
        try with_reducible rfl
      try simp only [Act.put, List.setIfInBounds_toArray, List.set_cons_zero, List.set_cons_succ]
      refine wpMixU_takeY1 (.agg (ints .u32 V).toArray) (yieldsIf_load_mid (by rfl) 39 (.tmp 4) rfl w.heap.size 0 rfl (ints .u32 V) _ (fun W h => h.2) Try.underlying39 rfl HSV.out) ?_
      try simp only [Act.put, List.setIfInBounds_toArray, List.set_cons_zero, List.set_cons_succ]
      iterate 2
        refine wpMixU_take ?_ (by rfl) (fun w0 hS => ?_) ?_
        rotate_left
        · go_simp
          try with_reducible rfl
        try simp only [Act.put, List.setIfInBounds_toArray, List.set_cons_zero, List.set_cons_succ]
      refine wpMixU_takeY (.agg (ints .u8 ys).toArray) (yieldsIf_load_mid (by rfl) 76 (.tmp 16) rfl b1 o1 rfl (ints .u8 ys) _ (fun W h => HRF.out h) Try.underlying76 rfl HSY.out) ?_
      try simp only [Act.put, List.setIfInBounds_toArray, List.set_cons_zero, List.set_cons_succ]
      refine wpMixU_alone (by rfl) (fun K hK => ?_)
      go_simp
      go_at_call 71
      refine (KB.out _ HK.out.f.drew).mono ?_
      rintro e w5 ⟨rfl, hf5⟩
      have hS5 : Blk w5 w.heap.size 39 (ints .u32 V).toArray := HK.out.s.drew.frm hf5 (fun e => e)
      have hR5 : Blk w5 (w.heap.size + 1) 39 zero8 := HK.out.r.drew.frm hf5 (fun e => e)
      have hF5 : Frm NoB w w5 := HK.out.f.drew.trans hf5
      have HS5 := hide hS5
      have hN : BsSt w (w5.setRow w.heap.size (ints .u32 (blockP T V ys)).toArray) (blockP T V ys) := ⟨hS5.setRow _, hR5.setRow_far _ (by omega), hF5.setRow (.inr (Nat.le_refl _)) _⟩
      have HN' := hide hN
      have HF5 := hide hF5
      clear hS5 hR5 hN hF5 hf5
      show K _ w5
      refine hK _ _ HF5.out (fun _ i v hi => by rw [Nat.zero_add, HS5.out.cell i]; simpa using hi) ?_
      clear hK K
      refine wpMixU_alone (by rfl) (fun K hK => ?_)
      refine wp_store_row 39 (.tmp 4) (.tmp 18) rfl w.heap.size (ints .u32 (blockP T V ys)).toArray rfl rfl 39 _ HS5.out (by rw [ints_size, HB8.out]; exact size_8) (by rw [ints_size, ints_size, HB8.out, HL8.out]) (ints_one _ _) ?_
      refine hK _ _ (Hid.out HN').f (fun h => absurd h (by decide)) ?_
      clear hK K
      refine wpMixU_nil ?_
      refine NoPanic.normal ?_
      clear HS5 HF5 HB8 HL8 HSV HSY KB HRF
      generalize blockP T V ys = V2 at *
      by_cases hc64 : c = 64
      · have HR := hide (HR0.out hc64)
        subst hc64
        go_wp2
        have hn := HN.out
        have en : n - 64 = 0 := by omega
        rw [en] at HR
        exact ⟨⟨k + 1, _, _, _, by omega, rfl, by omega, HR.out, by rw [HL.out]; exact Hid.out HN'⟩, by show 0 < n; omega⟩
      · go_wp2
        have hn := HN.out
        exact ⟨⟨k + 1, _, _, _, by omega, rfl, by omega, HR1.out, by rw [HL.out]; exact Hid.out HN'⟩, by show n - 64 < n; omega⟩
    · have d64 : decide ((64 : Int) ≤ (n : Int)) = false := decide_eq_false (by omega)
      have hk' : k = xs.length / 64 := by omega
      have HK0 : Hid (BsSt w wr (bkA T S xs)) := by show BsSt _ _ _; unfold bkA; rw [← hk']; exact HK.out
      have HX0 : Hid (By w (.slice A n c) (bkR xs)) := by show By _ _ _; unfold bkR; rw [← hk']; exact HX.out
      have hl : (bkA T S xs).length = 8 := bks_length T xs HS.out _
      have hs8 : (Try.prog.info? 39).map (·.size) = some (ints .u32 (bkA T S xs)).toArray.size := by rw [ints_size, hl]; exact size_8
      have hss : zero8.size = (ints .u32 (bkA T S xs)).toArray.size := by rw [ints_size, hl]; rfl
      have HS8 := hide hs8
      have HSS := hide hss
      have hR : Blk (wr.setRow (w.heap.size + 1) (ints .u32 (bkA T S xs)).toArray) (w.heap.size + 1) 39 (ints .u32 (bkA T S xs)).toArray := HK0.out.r.setRow _
      have HR := hide hR
      have hF : Frm NoB w (wr.setRow (w.heap.size + 1) (ints .u32 (bkA T S xs)).toArray) := HK0.out.f.setRow (.inr (by omega)) _
      have HF := hide hF
      clear hK HK HX hX hs8 hss hl hR hF hn hk' hlt
      obtain ⟨X, hXX⟩ : ∃ X, bkA T S xs = X := ⟨_, rfl⟩
      rw [hXX] at HK0 HS8 HSS HR HF
      have HXX := hide hXX
      clear hXX
      go_wp2_with (first
        | (refine wpList_load_row rfl 39 (.tmp 4) rfl w.heap.size rfl 39 _ (0, 0) _ HK0.out.s Try.underlying39 rfl HS8.out ?_)
        | (refine wpList_store_row rfl 39 (.tmp 6) (.tmp 19) rfl (w.heap.size + 1) _ rfl rfl 39 _ HK0.out.r HS8.out HSS.out (ints_one _ _) ?_))
      refine bodyPost_ret (ret_cell_tmp rfl _ _ (w.heap.size + 1) 39 (ints .u32 X).toArray (0, 0) _ rfl HR.out Try.underlying39 rfl HS8.out) rfl ⟨_, ?_, HX0.out, HF.out⟩
      rw [HXX.out]
      rfl
end Go.Proofs.Ytmahaihcmmmhbaa
