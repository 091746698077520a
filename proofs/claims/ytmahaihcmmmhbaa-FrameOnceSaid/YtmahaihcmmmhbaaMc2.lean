/-
  mac: under, Mac.
-/
import Derived.Test.YtmahaihcmmmhbaaMc1
namespace Go.Proofs.Ytmahaihcmmmhbaa
open Go.RowKit
def underP (T B xs : List Int) : List Int := (((hash0 T).write T B).write T xs).sum T
def macP (T key xs : List Int) : List Int := underP T (turnP T key 92) (underP T (turnP T key 54) xs)
theorem underP_length (T B xs : List Int) : (underP T B xs).length = 32 := HashS.sum_length _ _
theorem underP_u (T B xs : List Int) : U8 (underP T B xs) := HashS.sum_u _ _
theorem macP_length (T key xs : List Int) : (macP T key xs).length = 32 := underP_length _ _ _
theorem macP_u (T key xs : List Int) : U8 (macP T key xs) := underP_u _ _ _
theorem by_blk {w : World} {b : Nat} {t : TypeId} {B : List Int} {n : Nat} (h : Blk w b t (ints .u8 B).toArray) (hu : U8 B) (hl : B.length = n) (hn : n ≤ 16777216) : By w (.slice (some ⟨b, 0, none⟩) n n) B := by
  subst hl
  refine ⟨_, _, rfl, fun _ => ⟨b, 0, rfl, fun i v hv => ?_⟩, (fun e => by cases e), Nat.le_refl _, by omega, hu⟩
  rw [Nat.zero_add, h.cell i]
  simpa using hv
def UnderPost (w : World) (T B xs : List Int) (e : Ending) (w' : World) : Prop := e = .returned (.agg (ints .u8 (underP T B xs)).toArray) ∧ Frm NoB w w'
set_option maxRecDepth 100000 in
set_option maxHeartbeats 2000000 in
theorem under_is (b : Nat) (T B xs : List Int) (v : Value) (w : World) (hT : RdAt w b T) (hx : By w v xs) (hl : xs.length ≤ 16776000) (hB : B.length = 64) (uB : U8 B) :
    Calls Try.prog 34 #[.pointer (some ⟨b, 0, none⟩), .agg (ints .u8 B).toArray, v] w (UnderPost w T B xs) := by
  have hS : Blk ((w.alloc (.cells (ints .u8 B).toArray 76)).alloc (.cells zero32 56)) w.heap.size 76 (ints .u8 B).toArray := (Blk.new w _ _).alloc _
  have hZ : Blk ((w.alloc (.cells (ints .u8 B).toArray 76)).alloc (.cells zero32 56)) (w.heap.size + 1) 56 zero32 := blk_snd _ _ _ _
  have hf0 : Frm NoB w ((w.alloc (.cells (ints .u8 B).toArray 76)).alloc (.cells zero32 56)) := ((Frm.refl NoB w).alloc _).alloc _
  have hT0 : (hash0 T).Ok := hash0_ok hT.len hT.u
  have hB0 : ((hash0 T).write T B).Ok := hT0.write uB (by show 0 + B.length ≤ _; omega)
  have hn0 : ((hash0 T).write T B).n = 64 := by show 0 + B.length = 64; omega
  have hX0 : (((hash0 T).write T B).write T xs).Ok := hB0.write hx.u (by rw [hn0]; omega)
  have KN := fun (W : World) (hf : Frm NoB w W) => new_is b T W (hT.frm hf (fun e => e))
  rw [hash0_V hT.len] at KN
  have KN := hide KN
  have HS := hide (by_blk hS uB hB (by decide))
  have HZ := hide hZ
  have HF0 := hide hf0
  have HT := hide hT
  have HX := hide hx
  have HT0 := hide hT0
  have HB0 := hide hB0
  have HX0 := hide hX0
  have HN0 := hide hn0
  have HB := hide hB
  obtain ⟨A, c, rfl, -⟩ := hx
  clear hS hZ hf0 hT hT0 hB0 hX0 hn0 hB
  go_enter Try.func34, Try.ntmps34
  go_wp2_with fail
  show Code.wp _ _ _ _ ((w.alloc (.cells (ints .u8 B).toArray 76)).alloc (.cells zero32 56))
  generalize (w.alloc (.cells (ints .u8 B).toArray 76)).alloc (.cells zero32 56) = w1 at *
  refine region_perm [(0, 0), (1, 0), (2, 0), (3, 0), (5, 0), (7, 0), (4, 2), (6, 2), (8, 2), (9, 2), (10, 3)] 10 (fun W => Frm (One (w.heap.size + 1)) w1 W) (fun W => Frm NoB w1 W) (by kernel_rfl) (by kernel_rfl) rfl (by kernel_rfl) ((Frm.refl _ _).drew) ((Frm.refl _ _).drew) ?_
  refine mixP_take ?_ rfl (by rfl) (fun w0 hS => ?_) ?_
  rotate_left
  · go_simp
    try with_reducible rfl
  try simp only [Act.put, List.setIfInBounds_toArray, List.set_cons_zero, List.set_cons_succ]
  refine mixP_take ?_ rfl (by rfl) (fun w0 hS => ?_) ?_
  rotate_left
  · go_simp
    try with_reducible rfl
  try simp only [Act.put, List.setIfInBounds_toArray, List.set_cons_zero, List.set_cons_succ]
  refine mixP_take ?_ rfl (by rfl) (fun w0 hS => ?_) ?_
  rotate_left
  · go_simp
    try with_reducible rfl
  try simp only [Act.put, List.setIfInBounds_toArray, List.set_cons_zero, List.set_cons_succ]
  refine mixP_take ?_ rfl (by rfl) (fun w0 hS => ?_) ?_
  rotate_left
  · go_simp
    try with_reducible rfl
  try simp only [Act.put, List.setIfInBounds_toArray, List.set_cons_zero, List.set_cons_succ]
  refine mixP_take ?_ rfl (by rfl) (fun w0 hS => ?_) ?_
  rotate_left
  · go_simp
    try with_reducible rfl
  try simp only [Act.put, List.setIfInBounds_toArray, List.set_cons_zero, List.set_cons_succ]
  refine mixP_take ?_ rfl (by rfl) (fun w0 hS => ?_) ?_
  rotate_left
  · go_simp
    try with_reducible rfl
  try simp only [Act.put, List.setIfInBounds_toArray, List.set_cons_zero, List.set_cons_succ]
  refine mixP_alone rfl (by rfl) (fun K hK => ?_)
  go_simp
  go_at_call 55
  refine (KN.out _ (HF0.out.trans (Frm.refl NoB w1).drew)).mono ?_
  rintro e w2 ⟨rfl, hf2⟩
  have HF2 : Hid (Frm NoB w1 w2) := (Frm.refl NoB w1).drew.trans hf2
  show K _ w2
  refine hK _ _ (HF2.out.mono (fun _ _ e => e.elim)) HF2.out ?_
  clear hK K hf2
  try simp only [Act.put, List.setIfInBounds_toArray, List.set_cons_zero, List.set_cons_succ]
  refine mixP_alone rfl (by rfl) (fun K hK => ?_)
  go_simp
  go_at_call 54
  refine (write_is b T (hash0 T) (.slice none 0 0) _ B w2 (HT.out.frm (HF0.out.trans HF2.out) (fun e => e)) HT0.out (By.nil _) (HS.out.frm0 HF2.out) (by rw [HB.out]; decide) (by show 0 + B.length ≤ _; rw [HB.out]; decide)).mono ?_
  rintro e w3 ⟨rv3, rfl, hY3, hf3⟩
  have HF3 : Hid (Frm NoB w1 w3) := (Hid.out HF2).trans hf3
  have HY3 := hide hY3
  show K _ w3
  refine hK _ _ (HF3.out.mono (fun _ _ e => e.elim)) HF3.out ?_
  clear hK K hf3 hY3
  try simp only [Act.put, List.setIfInBounds_toArray, List.set_cons_zero, List.set_cons_succ]
  refine mixP_alone rfl (by rfl) (fun K hK => ?_)
  go_simp
  go_at_call 54
  refine (write_is b T ((hash0 T).write T B) rv3 _ xs w3 (HT.out.frm (HF0.out.trans HF3.out) (fun e => e)) HB0.out HY3.out (HX.out.frm0 (HF0.out.trans HF3.out)) hl (by rw [HN0.out]; omega)).mono ?_
  rintro e w4 ⟨rv4, rfl, hY4, hf4⟩
  have HF4 : Hid (Frm NoB w1 w4) := (Hid.out HF3).trans hf4
  have HY4 := hide hY4
  show K _ w4
  refine hK _ _ (HF4.out.mono (fun _ _ e => e.elim)) HF4.out ?_
  clear hK K hf4 hY4
  try simp only [Act.put, List.setIfInBounds_toArray, List.set_cons_zero, List.set_cons_succ]
  refine mixP_alone rfl (by rfl) (fun K hK => ?_)
  go_simp
  go_at_call 53
  refine (sum_is b T _ rv4 w4 (HT.out.frm (HF0.out.trans HF4.out) (fun e => e)) HX0.out HY4.out).mono ?_
  rintro e w5 ⟨rfl, hf5⟩
  have HF5 : Hid (Frm NoB w1 w5) := (Hid.out HF4).trans hf5
  show K _ w5
  refine hK _ _ (HF5.out.mono (fun _ _ e => e.elim)) HF5.out ?_
  clear hK K hf5
  try simp only [Act.put, List.setIfInBounds_toArray, List.set_cons_zero, List.set_cons_succ]
  have hD : underP T B xs = (((hash0 T).write T B).write T xs).sum T := rfl
  have hDl := underP_length T B xs
  obtain ⟨D, hD'⟩ : ∃ D, (((hash0 T).write T B).write T xs).sum T = D := ⟨_, rfl⟩
  rw [hD'] at hD ⊢
  rw [hD] at hDl
  have hs8 : (Try.prog.info? 56).map (·.size) = some (ints .u8 D).toArray.size := by rw [ints_size, hDl]; exact digest_size
  have hss : zero32.size = (ints .u8 D).toArray.size := by rw [ints_size, hDl]; rfl
  have hZ5 := HZ.out.frm HF5.out (fun e => e)
  refine mixP_store rfl (by rfl) (fun K hK => ?_)
  refine wp_store_row 56 (.tmp 6) (.tmp 16) rfl (w.heap.size + 1) (ints .u8 D).toArray rfl rfl 56 zero32 hZ5 hs8 hss (ints_one _ _) ?_
  refine hK _ _ ((HF5.out.mono (fun _ _ e => e.elim) : Frm (One (w.heap.size + 1)) w1 w5).setRow (.inl rfl) _) ?_
  clear hK K
  try simp only [Act.put, List.setIfInBounds_toArray, List.set_cons_zero, List.set_cons_succ]
  refine mixP_nil ?_
  refine NoPanic.normal ?_
  have hR : Blk (w5.setRow (w.heap.size + 1) (ints .u8 D).toArray) (w.heap.size + 1) 56 (ints .u8 D).toArray := hZ5.setRow _
  have hF : Frm NoB w (w5.setRow (w.heap.size + 1) (ints .u8 D).toArray) := (HF0.out.trans HF5.out).setRow (.inr (by omega)) _
  have HR := hide hR
  have HF := hide hF
  have HD := hide hD
  have HS8 := hide hs8
  clear hR hF hD hs8 hss hZ5 hD' hDl
  go_wp2
  refine bodyPost_ret (results_cell_row rfl _ _ (w.heap.size + 1) 56 (ints .u8 D).toArray (0, 0) _ rfl HR.out Try.underlying56 rfl HS8.out) rfl ⟨?_, HF.out⟩
  rw [HD.out]
end Go.Proofs.Ytmahaihcmmmhbaa
