/-
  sha: Sum.
-/
import Derived.Test.YtmahaihcmmmhbaaShD
import Derived.Test.YtmahaihcmmmhbaaRegX
namespace Go.Proofs.Ytmahaihcmmmhbaa
open Go.RowKit
def zero32 : Array Value := (ints .u8 (List.replicate 32 0)).toArray
theorem digest_size : (Try.prog.info? 56).map (·.size) = some 32 := by kernel_rfl
def SumPost (w : World) (T : List Int) (h : HashS) (e : Ending) (w' : World) : Prop := e = .returned (.agg (ints .u8 (h.sum T)).toArray) ∧ Frm NoB w w'
structure SmSt (w wr : World) (p : Nat) (S D : List Int) : Prop where
  r : Blk wr (w.heap.size + 1) 56 zero32
  d : Blk wr (w.heap.size + 1 + 1) 56 (ints .u8 D).toArray
  s : Blk wr p 39 (ints .u32 S).toArray
  f : Frm NoB w wr
  lt : w.heap.size + 1 + 1 < p
theorem SmSt.setd {w wr : World} {p : Nat} {S D : List Int} (h : SmSt w wr p S D) (i : Nat) (x : Int) : SmSt w (wr.setCell ⟨w.heap.size + 1 + 1, i, none⟩ (.int .u8 x)) p S (D.set i x) := by
  have := h.lt
  exact ⟨h.r.far (by show _ ≠ _; dsimp only; omega) _, h.d.seti i x, h.s.far (by show _ ≠ _; dsimp only; omega) _, h.f.setCell (p := ⟨w.heap.size + 1 + 1, i, none⟩) (.inr (by show _ ≤ _; dsimp only; omega)) _, h.lt⟩
def SmRel (w : World) (p : Nat) (S : List Int) (x : Value) (wr : World) : Prop := ∃ j : Nat, j ≤ 32 ∧ x = .int .i64 j ∧ SmSt w wr p S (dgT S j)
set_option maxRecDepth 100000 in
set_option maxHeartbeats 4000000 in
theorem sum_is (b : Nat) (T : List Int) (h : HashS) (rv : Value) (w : World) (hT : RdAt w b T) (hk : h.Ok) (hr : By w rv h.r) :
    Calls Try.prog 53 #[.pointer (some ⟨b, 0, none⟩), .agg (hashV h rv)] w (SumPost w T h) := by
  have hB : Blk (((w.alloc (.cells (hashV h rv) 96)).alloc (.cells zero32 56)).alloc (.cells zero32 56)) w.heap.size 96 (hashV h rv) := ((Blk.new w _ _).alloc _).alloc _
  have hZ : Blk (((w.alloc (.cells (hashV h rv) 96)).alloc (.cells zero32 56)).alloc (.cells zero32 56)) (w.heap.size + 1) 56 zero32 := (blk_snd _ _ _ _).alloc _
  have hD : Blk (((w.alloc (.cells (hashV h rv) 96)).alloc (.cells zero32 56)).alloc (.cells zero32 56)) (w.heap.size + 1 + 1) 56 zero32 := by
    have := blk_snd (w.alloc (.cells (hashV h rv) 96)) (.cells zero32 56) 56 zero32
    simp only [World.size_alloc] at this
    exact this
  have HT := hide hT
  have HK := hide hk
  have HR := hide hr
  obtain ⟨A1, c1, rfl, -⟩ := hr
  have hrl := hk.rl
  have hsz : (Try.prog.info? 96).map (·.size) = some (hashV h (.slice A1 h.r.length c1)).size := hasher_size
  have HSZ := hide hsz
  have hn56 := hk.m
  have n0 : (0 : Int) ≤ (h.n : Int) := by omega
  have KR : Hid (∀ W, Calls Try.prog 62 #[.agg (hashV h (.slice A1 h.r.length c1))] W fun e w' => e = .returned (.bool true) ∧ Frm NoB W w') := fun W => right_is (hashV h (.slice A1 h.r.length c1)) A1 h.r.length c1 h.n W rfl rfl (by omega) (by have := hk.m; omega) (by rw [hrl]; omega)
  have HB := hide hB
  have HZ := hide hZ
  have HD := hide hD
  clear hsz hrl hB hZ hD hT hk
  have hr8 : (hashV h (.slice A1 h.r.length c1))[8]? = some (.slice A1 h.r.length c1) := rfl
  have hr9 : (hashV h (.slice A1 h.r.length c1))[9]? = some (.int .i64 h.n) := rfl
  have HR8 := hide hr8
  have HR9 := hide hr9
  obtain ⟨n1, hn1⟩ : ∃ n1, h.r.length = n1 := ⟨_, rfl⟩
  have hn64 : n1 < 64 := by have := HK.out.rl; omega
  rw [hn1] at HR8 HR9 HB HZ HD HSZ KR HR ⊢
  have HN1 := hide hn1
  clear hr8 hr9 hn1
  go_enter Try.func53, Try.ntmps53
  go_wp2_with (refine wpList_load_row_w (by rfl) 96 (.tmp 3) rfl w.heap.size rfl 96 _ (0, 0) _ HB.out Try.underlying96 rfl HSZ.out ?_)
  refine (KR.out _).mono ?_
  rintro e w1 ⟨rfl, hf1⟩
  have HB1 := hide ((Hid.out HB).frm hf1 (fun e => e))
  have HZ1 := hide ((Hid.out HZ).frm hf1 (fun e => e))
  have HD1 := hide ((Hid.out HD).frm hf1 (fun e => e))
  have HF1 : Hid (Frm NoB w w1) := ((((Frm.refl NoB w).alloc _).alloc _).alloc _).trans hf1
  clear hf1 HB HZ HD KR
  have hh1 : w.heap.size + 1 + 1 < w1.heap.size := HD1.out.lt
  go_wp2_with fail
  have hss8 : (Try.prog.info? 39).map (·.size) = some (ints .u32 h.s).length := by rw [ints_length, HK.out.len]; exact size_8
  have HSS8 := hide hss8
  have HRG : Hid (∀ W, Frm NoB w1 W → W.rangeAt w.heap.size 0 (ints .u32 h.s)) := fun W hf => hashV_range (HB1.out.frm hf (fun e => e)) HK.out.len
  have HC8 : Hid (∀ W, Frm NoB w1 W → W.cell? ⟨w.heap.size, 8, none⟩ = some (.slice A1 n1 c1)) := fun W hf => ((HB1.out.frm hf (fun e => e)).cell 8).trans HR8.out
  have HC9 : Hid (∀ W, Frm NoB w1 W → W.cell? ⟨w.heap.size, 9, none⟩ = some (.int .i64 h.n)) := fun W hf => ((HB1.out.frm hf (fun e => e)).cell 9).trans HR9.out
  clear hss8
  refine region_block [(0, 0), (1, 0), (2, 0), (3, 0), (4, 0), (5, 0), (6, 0), (7, 2), (8, 2), (9, 2), (10, 2), (11, 0), (12, 0), (13, 0)] [(15, 3), (16, 0)] 15 14 6 (fun W => W.alloc (.cells zero8 39)) (fun W => Frm NoB w1 W) rfl (fun _ => rfl) (fun a w K h => ?_) (fun W h => h.alloc _) (by kernel_rfl) (by kernel_rfl) rfl (by kernel_rfl) ((Frm.refl _ _).drew) ?_
  · go_simp
    exact h
  refine mxX_take ?_ rfl (.inl ⟨by rfl, fun w0 hS => ?_⟩) ?_
  rotate_left
  · go_simp
    try with_reducible rfl
  try simp only [Act.put, List.setIfInBounds_toArray, List.set_cons_zero, List.set_cons_succ]
  refine mxX_take ?_ rfl (.inl ⟨by rfl, fun w0 hS => ?_⟩) ?_
  rotate_left
  · go_simp
    try with_reducible rfl
  try simp only [Act.put, List.setIfInBounds_toArray, List.set_cons_zero, List.set_cons_succ]
  refine mxX_take (.agg (ints .u32 h.s).toArray) rfl (yieldsIf_load_mid (by rfl) 39 (.tmp 19) rfl w.heap.size 0 rfl (ints .u32 h.s) _ (fun W hS => HRG.out W hS) Try.underlying39 rfl HSS8.out) ?_
  try simp only [Act.put, List.setIfInBounds_toArray, List.set_cons_zero, List.set_cons_succ]
  refine mxX_take ?_ rfl (.inl ⟨by rfl, fun w0 hS => ?_⟩) ?_
  rotate_left
  · go_simp
    try with_reducible rfl
  try simp only [Act.put, List.setIfInBounds_toArray, List.set_cons_zero, List.set_cons_succ]
  refine mxX_take ?_ rfl (.inl ⟨by rfl, fun w0 hS => ?_⟩) ?_
  rotate_left
  · have e9 := HC8.out w0 hS
    go_simp
    try with_reducible rfl
  try simp only [Act.put, List.setIfInBounds_toArray, List.set_cons_zero, List.set_cons_succ]
  refine mxX_take ?_ rfl (.inl ⟨by rfl, fun w0 hS => ?_⟩) ?_
  rotate_left
  · go_simp
    try with_reducible rfl
  try simp only [Act.put, List.setIfInBounds_toArray, List.set_cons_zero, List.set_cons_succ]
  refine mxX_take ?_ rfl (.inl ⟨by rfl, fun w0 hS => ?_⟩) ?_
  rotate_left
  · have e9 := HC9.out w0 hS
    go_simp
    try with_reducible rfl
  try simp only [Act.put, List.setIfInBounds_toArray, List.set_cons_zero, List.set_cons_succ]
  refine mxX_alone rfl (fun _ => rfl) (fun b2 a2 w2 hN K hK => ?_)
  obtain ⟨X, rfl, hA2, hF2, -⟩ := nxt_slot hN (X := undef) rfl (AX.start w1 _ _ _ _) ((Frm.refl NoB w1).drew)
  try simp only [Act.put, List.setIfInBounds_toArray, List.set_cons_zero, List.set_cons_succ]
  clear hN
  go_simp
  go_at_call 65
  refine (pad_is h.n hn56 w2).mono ?_
  rintro e w3 ⟨v3, rfl, hO3, hf3⟩
  obtain ⟨A3, c3, e3, -⟩ := id hO3.by_
  have hY3 := hO3.by_
  rw [e3] at hY3 ⊢
  have hA3 := hA2.frm hf3
  have hF3 := hF2.trans hf3
  obtain ⟨n3, hn3⟩ : ∃ n3, (padL h.n).length = n3 := ⟨_, rfl⟩
  have hn3l : n3 ≤ 100 := by rw [← hn3, padL_length]; unfold padZ; omega
  rw [hn3] at hY3 ⊢
  have HA3 := hide hA3
  have HF3 := hide hF3
  have HY3 := hide hY3
  have HN3 := hide hn3
  show K _ w3
  refine hK _ _ HF3.out ?_
  clear hK K hA2 hF2 hf3 hO3 e3 hY3 hA3 hF3 hn3
  try simp only [Act.put, List.setIfInBounds_toArray, List.set_cons_zero, List.set_cons_succ]
  refine mxX_alone rfl (fun _ => rfl) (fun b4 a4 w4 hN K hK => ?_)
  obtain ⟨X4, rfl, hA4, hF4, hg4⟩ := nxt_slot hN rfl HA3.out HF3.out
  try simp only [Act.put, List.setIfInBounds_toArray, List.set_cons_zero, List.set_cons_succ]
  go_simp
  have hB5 : Blk (w4.alloc (.cells #[.slice A1 n1 c1, .slice A3 n3 c3] 32)) w4.heap.size 32 #[.slice A1 n1 c1, .slice A3 n3 c3] := Blk.new w4 _ _
  have HA5 := hide (hA4.frm ((Frm.refl NoB w4).alloc (.cells #[.slice A1 n1 c1, .slice A3 n3 c3] 32)))
  have HF5 := hide (hF4.alloc (.cells #[.slice A1 n1 c1, .slice A3 n3 c3] 32))
  have HG5 := hide (hg4.alloc (.cells #[.slice A1 n1 c1, .slice A3 n3 c3] 32))
  have HB5 := hide hB5
  refine hK _ _ HF5.out ?_
  clear hK K hA4 hF4 hg4 hB5
  try simp only [Act.put, List.setIfInBounds_toArray, List.set_cons_zero, List.set_cons_succ]
  generalize w4.alloc (.cells #[.slice A1 n1 c1, .slice A3 n3 c3] 32) = w5 at *
  generalize w4.heap.size = p5 at *
  refine mxX_alone rfl (fun _ => rfl) (fun b6 a6 w6 hN K hK => ?_)
  obtain ⟨X6, rfl, hA6, hF6, hg6⟩ := nxt_slot hN rfl HA5.out HF5.out
  try simp only [Act.put, List.setIfInBounds_toArray, List.set_cons_zero, List.set_cons_succ]
  have hB6 : Blk w6 p5 32 #[.slice A1 n1 c1, .slice A3 n3 c3] := HB5.out.frm hg6 (fun e => e)
  have KC := hide (concat_is w6 p5 0 2 A1 A3 c1 c3 n1 n3 h.r (padL h.n) HN1.out HN3.out (HR.out.frm0 (HF1.out.trans hF6)) (HY3.out.frm0 (HG5.out.trans hg6)) (by omega) (hB6.cell 0) (hB6.cell 1))
  go_simp
  go_at_call 64
  refine KC.out.mono ?_
  rintro e w7 ⟨v7, rfl, hO7, hf7⟩
  obtain ⟨A7, c7, e7, -⟩ := id hO7.by_
  have hY7 := hO7.by_
  rw [e7] at hY7 ⊢
  have HA7 := hide (hA6.frm hf7)
  have HF7 := hide (hF6.trans hf7)
  obtain ⟨n7, hn7⟩ : ∃ n7, (h.r ++ padL h.n).length = n7 := ⟨_, rfl⟩
  rw [hn7] at hY7 ⊢
  have HY7 := hide hY7
  show K _ w7
  refine hK _ _ HF7.out ?_
  clear hK K hA6 hF6 hg6 hB6 hO7 e7 hY7 hn7 hf7 KC HB5 HG5 HF5 HA5 HY3 hN
  try simp only [Act.put, List.setIfInBounds_toArray, List.set_cons_zero, List.set_cons_succ]
  refine mxX_alone rfl (fun _ => rfl) (fun b8 a8 w8 hN K hK => ?_)
  obtain ⟨X8, rfl, hA8, hF8, hg8⟩ := nxt_slot hN rfl HA7.out HF7.out
  try simp only [Act.put, List.setIfInBounds_toArray, List.set_cons_zero, List.set_cons_succ]
  have KB := hide (blocks_is b T h.s (h.r ++ padL h.n) _ w8 (HT.out.frm (HF1.out.trans hF8) (fun e => e)) HK.out.len HK.out.u (HY7.out.frm0 hg8))
  have hlS : (bkA T h.s (h.r ++ padL h.n)).length = 8 := bks_length T _ HK.out.len _
  have HLS := hide hlS
  have HSM : Hid (h.sum T = dgT (bkA T h.s (h.r ++ padL h.n)) 32) := rfl
  obtain ⟨S', hS'⟩ : ∃ S', bkA T h.s (h.r ++ padL h.n) = S' := ⟨_, rfl⟩
  unfold BlocksPost at KB
  rw [hS'] at KB HLS HSM
  clear hlS hS'
  go_simp
  go_at_call 63
  refine KB.out.mono ?_
  rintro e w9 ⟨v9, rfl, hY9, hf9⟩
  obtain ⟨A9, c9, e9, -⟩ := id hY9
  subst e9
  have HA9 := hide (hA8.frm hf9)
  have HF9 := hide (hF8.trans hf9)
  show K _ w9
  refine hK _ _ HF9.out ?_
  clear hK K hA8 hF8 hg8 hY9 hf9 KB HY7 HA7 HF7 hN
  try simp only [Act.put, List.setIfInBounds_toArray, List.set_cons_zero, List.set_cons_succ]
  generalize (bkR (h.r ++ padL h.n)).length = n9
  refine mxX_take ?_ rfl (.inl ⟨by rfl, fun w0 hS => ?_⟩) ?_
  rotate_left
  · go_simp
    try with_reducible rfl
  try simp only [Act.put, List.setIfInBounds_toArray, List.set_cons_zero, List.set_cons_succ]
  refine mxX_take ?_ rfl (.inl ⟨by rfl, fun w0 hS => ?_⟩) ?_
  rotate_left
  · go_simp
    try with_reducible rfl
  try simp only [Act.put, List.setIfInBounds_toArray, List.set_cons_zero, List.set_cons_succ]
  refine mxX_take ?_ rfl (.inl ⟨by rfl, fun w0 hS => ?_⟩) ?_
  rotate_left
  · go_simp
    try with_reducible rfl
  try simp only [Act.put, List.setIfInBounds_toArray, List.set_cons_zero, List.set_cons_succ]
  refine mxX_nil (fun a10 w10 hN => ?_)
  obtain ⟨X10, rfl, hA10, hF10, -⟩ := nxt_slot hN rfl HA9.out HF9.out
  obtain ⟨p, rfl, hp, hpl⟩ := hA10 rfl
  try simp only [Act.put, List.setIfInBounds_toArray, List.set_cons_zero, List.set_cons_succ]
  have hzz : zero8.size = (ints .u32 S').toArray.size := by rw [ints_size, HLS.out]; rfl
  have hs8 : (Try.prog.info? 39).map (·.size) = some (ints .u32 S').toArray.size := by rw [ints_size, HLS.out]; exact size_8
  refine mixP_store rfl (by rfl) (fun K hK => ?_)
  refine wp_store_row 39 (.tmp 6) (.tmp 29) rfl p (ints .u32 S').toArray rfl rfl 39 zero8 hp hs8 hzz (ints_one _ _) ?_
  refine hK _ _ (hF10.setRow (.inr hpl) _) ?_
  clear hK K
  try simp only [Act.put, List.setIfInBounds_toArray, List.set_cons_zero, List.set_cons_succ]
  refine mixP_take ?_ rfl (by rfl) (fun w0 hS => ?_) ?_
  rotate_left
  · go_simp
    try with_reducible rfl
  try simp only [Act.put, List.setIfInBounds_toArray, List.set_cons_zero, List.set_cons_succ]
  refine mixP_nil ?_
  refine NoPanic.normal ?_
  have hst : SmSt w (w10.setRow p (ints .u32 S').toArray) p S' (dgT S' 0) :=
    ⟨(HZ1.out.frm hF10 (fun e => e)).setRow_far _ (by omega), (HD1.out.frm hF10 (fun e => e)).setRow_far _ (by omega), hp.setRow _, (HF1.out.trans hF10).setRow (.inr (by omega)) _, by omega⟩
  have HST := hide hst
  clear hst hzz hs8 hF10 hp hpl hA10 hN HA9 HF9 HB1 HZ1 HD1 HRG HC8 HC9 HSS8
  generalize w10.setRow p (ints .u32 S').toArray = wL at *
  go_wp2_with fail
  go_loopw [31] (fun x wr => SmRel w p S' x wr) (fun i _ => 32 - (intOf i).toNat)
  case atStart => exact ⟨0, by omega, rfl, HST.out⟩
  case round =>
    clear HST
    obtain ⟨j, hj, rfl, hS⟩ := hrel
    have HS := hide hS
    by_cases hlt : j < 32
    · have j0 : (0 : Int) ≤ (j : Int) := by omega
      have j1 : (j : Int) < 32 := by omega
      obtain ⟨J, hJ⟩ : ∃ J, j / 4 = J := ⟨_, rfl⟩
      obtain ⟨M, hM⟩ : ∃ M, 24 - j % 4 * 8 = M := ⟨_, rfl⟩
      obtain ⟨R, hR⟩ : ∃ R, j % 4 = R := ⟨_, rfl⟩
      have c1 := hS.s.geti (i := J) (by rw [HLS.out]; omega)
      have HL : Hid (dgT S' (j + 1) = (dgT S' j).set j (S'.getD J 0 / 2 ^ M % 256)) := by show _ = _; rw [dgT, dgB, hJ, hM]
      have q1 : Int.tdiv (j : Int) 4 = (J : Int) := by rw [Int.tdiv_eq_ediv_of_nonneg (by omega)]; omega
      have q2 : Int.tmod (j : Int) 4 = (R : Int) := by rw [Int.tmod_eq_emod_of_nonneg (by omega)]; omega
      have q3 : (24 : Int) - (R : Int) * 8 = (M : Int) := by omega
      have r0 : (0 : Int) ≤ (R : Int) := by omega
      have r1 : (R : Int) < 4 := by omega
      have J1 : (J : Int) < 8 := by omega
      have m1 : (M : Int) < 32 := by omega
      have f1 := hS.d.frozen j
      have c2 := hS.d.geti (i := j) (by rw [dgT_length]; omega)
      clear hS hJ hM hR
      generalize S'.getD J 0 = x at *
      go_wp2_with fail
      go_roundw
      case rel => exact ⟨j + 1, by omega, by go_num, by rw [HL.out]; exact HS.out.setd j _⟩
      case measure => simp [intOf]; omega
    · have dj : decide ((j : Int) < 32) = false := decide_eq_false (by omega)
      have e : j = 32 := by omega
      rw [e, ← HSM.out] at hS
      have hl : (h.sum T).length = 32 := HashS.sum_length T h
      have hs8 : (Try.prog.info? 56).map (·.size) = some (ints .u8 (h.sum T)).toArray.size := by rw [ints_size, hl]; exact digest_size
      have hss : zero32.size = (ints .u8 (h.sum T)).toArray.size := by rw [ints_size, hl]; rfl
      have HS8 := hide hs8
      have HSS := hide hss
      have hR : Blk (wr.setRow (w.heap.size + 1) (ints .u8 (h.sum T)).toArray) (w.heap.size + 1) 56 (ints .u8 (h.sum T)).toArray := hS.r.setRow _
      have HR' := hide hR
      have hF : Frm NoB w (wr.setRow (w.heap.size + 1) (ints .u8 (h.sum T)).toArray) := hS.f.setRow (.inr (by omega)) _
      have HF := hide hF
      have HS0 := hide hS
      obtain ⟨X, hX⟩ : ∃ X, h.sum T = X := ⟨_, rfl⟩
      rw [hX] at HS8 HSS HR' HF HS0
      have HXX := hide hX
      clear hS HS hs8 hss hl e HSM hR hF hX
      go_wp2_with (first
        | (refine wpList_load_row rfl 56 (.tmp 5) rfl (w.heap.size + 1 + 1) rfl 56 _ (0, 0) _ HS0.out.d Try.underlying56 rfl HS8.out ?_)
        | (refine wpList_store_row rfl 56 (.tmp 4) (.tmp 47) rfl (w.heap.size + 1) _ rfl rfl 56 _ HS0.out.r HS8.out HSS.out (ints_one _ _) ?_))
      refine bodyPost_ret (results_cell_row rfl _ _ (w.heap.size + 1) 56 (ints .u8 X).toArray (0, 0) _ rfl HR'.out Try.underlying56 rfl HS8.out) rfl ⟨?_, HF.out⟩
      rw [HXX.out]
def OfPost (w : World) (T xs : List Int) (e : Ending) (w' : World) : Prop := e = .returned (.agg (ints .u8 (shaOf T xs)).toArray) ∧ Frm NoB w w'
theorem hash0_V {T : List Int} (hl : T.length = 72) : hashC (T.getD 0 0) (T.getD 1 0) (T.getD 2 0) (T.getD 3 0) (T.getD 4 0) (T.getD 5 0) (T.getD 6 0) (T.getD 7 0) (.slice none 0 0) 0 = hashV (hash0 T) (.slice none 0 0) := by
  have e : ∀ i, i < 8 → (T.take 8).getD i 0 = T.getD i 0 := fun i hi => by
    rw [List.getD_eq_getElem?_getD, List.getElem?_take_of_lt hi, ← List.getD_eq_getElem?_getD]
  unfold hashV hash0
  simp only [e 0 (by omega), e 1 (by omega), e 2 (by omega), e 3 (by omega), e 4 (by omega), e 5 (by omega), e 6 (by omega), e 7 (by omega)]
  rfl
set_option maxRecDepth 100000 in
set_option maxHeartbeats 1000000 in
theorem of_is (b : Nat) (T xs : List Int) (v : Value) (w : World) (hT : RdAt w b T) (hx : By w v xs) (hl : xs.length ≤ 16776000) :
    Calls Try.prog 56 #[.pointer (some ⟨b, 0, none⟩), v] w (OfPost w T xs) := by
  have hZ : Blk (w.alloc (.cells zero32 56)) w.heap.size 56 zero32 := Blk.new w _ _
  have hf0 : Frm NoB w (w.alloc (.cells zero32 56)) := (Frm.refl NoB w).alloc _
  have KN := hide (new_is b T _ (hT.frm hf0 (fun e => e)))
  rw [hash0_V hT.len] at KN
  have HZ := hide hZ
  have HF0 := hide hf0
  have HT := hide hT
  have HX := hide hx
  obtain ⟨A, c, rfl, -⟩ := hx
  have hl0 : (hash0 T).Ok := hash0_ok hT.len hT.u
  have HL0 := hide hl0
  have hs8 : (Try.prog.info? 56).map (·.size) = some (ints .u8 (shaOf T xs)).toArray.size := by rw [ints_size]; unfold shaOf; rw [HashS.sum_length]; exact digest_size
  have hss : zero32.size = (ints .u8 (shaOf T xs)).toArray.size := by rw [ints_size]; unfold shaOf; rw [HashS.sum_length]; rfl
  have HS8 := hide hs8
  have HSS := hide hss
  clear hZ hf0 hT hl0 hs8 hss
  go_enter Try.func56, Try.ntmps56
  go_wp2_with fail
  refine KN.out.mono ?_
  rintro e w1 ⟨rfl, hf1⟩
  have HF1 := hide ((Hid.out HF0).trans hf1)
  have HZ1 := hide ((Hid.out HZ).frm hf1 (fun e => e))
  clear KN hf1 HF0 HZ
  go_wp2_with fail
  refine (write_is b T (hash0 T) (.slice none 0 0) _ xs w1 (HT.out.frm HF1.out (fun e => e)) HL0.out (By.nil _) (HX.out.frm0 HF1.out) hl (by show 0 + xs.length ≤ _; omega)).mono ?_
  rintro e w2 ⟨rv2, rfl, hY2, hf2⟩
  have HF2 := hide ((Hid.out HF1).trans hf2)
  have HZ2 := hide ((Hid.out HZ1).frm hf2 (fun e => e))
  have HY2 := hide hY2
  have HO2 := hide (HL0.out.write (T := T) HX.out.u (by show 0 + xs.length ≤ _; omega))
  clear hf2 HF1 HZ1 hY2
  go_wp2_with fail
  refine (sum_is b T _ rv2 w2 (HT.out.frm HF2.out (fun e => e)) HO2.out HY2.out).mono ?_
  rintro e w3 ⟨rfl, hf3⟩
  have HF3 := hide ((Hid.out HF2).trans hf3)
  have HZ3 := hide ((Hid.out HZ2).frm hf3 (fun e => e))
  have HW : Hid (Frm NoB w (w3.setRow w.heap.size (ints .u8 (shaOf T xs)).toArray)) := HF3.out.setRow (.inr (Nat.le_refl _)) _
  clear hf3 HF2 HZ2
  have HR : Hid (Blk (w3.setRow w.heap.size (ints .u8 (shaOf T xs)).toArray) w.heap.size 56 (ints .u8 (shaOf T xs)).toArray) := HZ3.out.setRow _
  have hD : shaOf T xs = ((hash0 T).write T xs).sum T := rfl
  obtain ⟨D, hD'⟩ : ∃ D, ((hash0 T).write T xs).sum T = D := ⟨_, rfl⟩
  rw [hD'] at hD ⊢
  rw [hD] at HR HW HS8 HSS
  have HDD := hide hD
  clear hD hD'
  go_wp2_with (refine wpList_store_row rfl 56 (.tmp 4) (.tmp 11) rfl w.heap.size _ rfl rfl 56 _ HZ3.out HS8.out HSS.out (ints_one _ _) ?_)
  refine bodyPost_ret (results_cell_row rfl _ _ w.heap.size 56 (ints .u8 D).toArray (0, 0) _ rfl HR.out Try.underlying56 rfl HS8.out) rfl ⟨?_, HW.out⟩
  rw [HDD.out]
end Go.Proofs.Ytmahaihcmmmhbaa
