/-
  mac: Mac.
-/
import Derived.Test.YtmahaihcmmmhbaaMc2
namespace Go.Proofs.Ytmahaihcmmmhbaa
open Go.RowKit
def MacPost (w : World) (T key xs : List Int) (e : Ending) (w' : World) : Prop := e = .returned (.agg (ints .u8 (macP T key xs)).toArray) ∧ Frm NoB w w'
set_option maxRecDepth 100000 in
set_option maxHeartbeats 2000000 in
theorem mac_is (b : Nat) (T key xs : List Int) (kv v : Value) (w : World) (hT : RdAt w b T) (hk : By w kv key) (hkl : key.length ≤ 16776000) (hx : By w v xs) (hl : xs.length ≤ 16776000) :
    Calls Try.prog 22 #[.pointer (some ⟨b, 0, none⟩), kv, v] w (MacPost w T key xs) := by
  have hZ : Blk (w.alloc (.cells zero32 56)) w.heap.size 56 zero32 := Blk.new w _ _
  have hf0 : Frm NoB w (w.alloc (.cells zero32 56)) := (Frm.refl NoB w).alloc _
  have KT1 := hide (turned_is b T key 54 kv _ (hT.frm hf0 (fun e => e)) (hk.frm0 hf0) hkl (by decide))
  have hl1 := turnP_length T key 54
  have hu1 := turnP_u (T := T) hk.u 54
  have hl2 := turnP_length T key 92
  have hu2 := turnP_u (T := T) hk.u 92
  have HM : Hid (macP T key xs = underP T (turnP T key 92) (underP T (turnP T key 54) xs)) := rfl
  have KT2 : Hid (∀ W, Frm NoB w W → Calls Try.prog 35 #[.pointer (some ⟨b, 0, none⟩), kv, .int .u8 92] W (TurnPost W T key 92)) := fun W hf => turned_is b T key 92 kv W (hT.frm hf (fun e => e)) (hk.frm0 hf) hkl (by decide)
  unfold TurnPost at KT1 KT2
  generalize turnP T key 54 = B1 at *
  generalize turnP T key 92 = B2 at *
  have hd1 := underP_length T B1 xs
  have hdu := underP_u T B1 xs
  have KU1 : Hid (∀ W, Frm NoB w W → Calls Try.prog 34 #[.pointer (some ⟨b, 0, none⟩), .agg (ints .u8 B1).toArray, v] W (UnderPost W T B1 xs)) := fun W hf => under_is b T B1 xs v W (hT.frm hf (fun e => e)) (hx.frm0 hf) hl hl1 hu1
  unfold UnderPost at KU1
  generalize underP T B1 xs = D1 at *
  have KU2 : Hid (∀ W v', Frm NoB w W → By W v' D1 → Calls Try.prog 34 #[.pointer (some ⟨b, 0, none⟩), .agg (ints .u8 B2).toArray, v'] W (UnderPost W T B2 D1)) := fun W v' hf hy => under_is b T B2 D1 v' W (hT.frm hf (fun e => e)) hy (by rw [hd1]; decide) hl2 hu2
  have hdl := underP_length T B2 D1
  unfold UnderPost at KU2
  generalize underP T B2 D1 = D2 at *
  have hs1 : (Try.prog.info? 56).map (·.size) = some (ints .u8 D1).toArray.size := by rw [ints_size, hd1]; exact digest_size
  have hss1 : zero32.size = (ints .u8 D1).toArray.size := by rw [ints_size, hd1]; rfl
  have hs2 : (Try.prog.info? 56).map (·.size) = some (ints .u8 D2).toArray.size := by rw [ints_size, hdl]; exact digest_size
  have hss2 : zero32.size = (ints .u8 D2).toArray.size := by rw [ints_size, hdl]; rfl
  have HS1 := hide hs1; have HSS1 := hide hss1; have HS2 := hide hs2; have HSS2 := hide hss2
  have HZ := hide hZ
  have HF0 := hide hf0
  have HD1 := hide hd1
  have HDU := hide hdu
  obtain ⟨A1, c1, rfl, -⟩ := hk
  obtain ⟨A2, c2, rfl, -⟩ := hx
  clear hZ hf0 hT hs1 hss1 hs2 hss2 hl1 hu1 hl2 hu2 hd1 hdu hdl
  go_enter Try.func22, Try.ntmps22
  go_wp2_with fail
  refine KT1.out.mono ?_
  rintro e w1 ⟨rfl, hf1⟩
  have HF1 : Hid (Frm NoB w w1) := HF0.out.trans hf1
  have HZ1 := hide ((Hid.out HZ).frm hf1 (fun e => e))
  clear hf1 KT1
  go_wp2_with fail
  refine (KU1.out _ HF1.out).mono ?_
  rintro e w2 ⟨rfl, hf2⟩
  have HF2 : Hid (Frm NoB w w2) := HF1.out.trans hf2
  have HZ2 := hide ((Hid.out HZ1).frm hf2 (fun e => e))
  have HN2 := hide (Blk.new w2 56 zero32)
  have h20 : w.heap.size < w2.heap.size := HZ2.out.lt
  clear hf2 KU1
  go_wp2_with (refine wpList_store_row rfl 56 (.tmp 7) (.tmp 13) rfl w2.heap.size _ rfl rfl 56 _ HN2.out HS1.out HSS1.out (ints_one _ _) ?_)
  have hZ3 : Blk ((w2.alloc (.cells zero32 56)).setRow w2.heap.size (ints .u8 D1).toArray) w.heap.size 56 zero32 := (HZ2.out.alloc _).setRow_far _ (by omega)
  have hS3 : Blk ((w2.alloc (.cells zero32 56)).setRow w2.heap.size (ints .u8 D1).toArray) w2.heap.size 56 (ints .u8 D1).toArray := HN2.out.setRow _
  have hF3 : Frm NoB w ((w2.alloc (.cells zero32 56)).setRow w2.heap.size (ints .u8 D1).toArray) := (HF2.out.alloc _).setRow (.inr (by omega)) _
  show Code.wp _ _ _ _ ((w2.alloc (.cells zero32 56)).setRow w2.heap.size (ints .u8 D1).toArray)
  generalize (w2.alloc (.cells zero32 56)).setRow w2.heap.size (ints .u8 D1).toArray = w3 at *
  have HZ3 := hide hZ3
  have HY3 := hide (by_blk hS3 HDU.out HD1.out (by decide))
  have HF3 := hide hF3
  clear hZ3 hS3 hF3 HN2
  refine region_perm [(0, 0), (1, 0), (2, 0), (4, 0), (3, 2), (5, 2), (6, 3)] 6 (fun W => Frm (One w.heap.size) w3 W) (fun W => Frm NoB w3 W) (by kernel_rfl) (by kernel_rfl) rfl (by kernel_rfl) ((Frm.refl _ _).drew) ((Frm.refl _ _).drew) ?_
  refine mixP_take ?_ rfl (by rfl) (fun w0 hS => ?_) ?_
  rotate_left
  · go_simp
    try with_reducible rfl
  try simp only [Act.put, List.setIfInBounds_toArray, List.set_cons_zero, List.set_cons_succ]
  refine mixP_take ?_ rfl (by rfl) (fun w0 hS => ?_) ?_
  rotate_left
  · go_simp
    try with_reducible rfl
  try simp only [Act.put, List.setIfInBounds_toArray, List.set_cons_zero, List.set_cons_succ]
  refine mixP_take ?_ rfl (by rfl) (fun w0 hS => ?_) ?_
  rotate_left
  · go_simp
    try with_reducible rfl
  try simp only [Act.put, List.setIfInBounds_toArray, List.set_cons_zero, List.set_cons_succ]
  refine mixP_take ?_ rfl (by rfl) (fun w0 hS => ?_) ?_
  rotate_left
  · go_simp
    try with_reducible rfl
  try simp only [Act.put, List.setIfInBounds_toArray, List.set_cons_zero, List.set_cons_succ]
  refine mixP_alone rfl (by rfl) (fun K hK => ?_)
  go_simp
  go_at_call 35
  refine (KT2.out _ (HF3.out.trans (Frm.refl NoB w3).drew)).mono ?_
  rintro e w4 ⟨rfl, hf4⟩
  have HF4 : Hid (Frm NoB w3 w4) := (Frm.refl NoB w3).drew.trans hf4
  show K _ w4
  refine hK _ _ (HF4.out.mono (fun _ _ e => e.elim)) HF4.out ?_
  clear hK K hf4
  try simp only [Act.put, List.setIfInBounds_toArray, List.set_cons_zero, List.set_cons_succ]
  refine mixP_alone rfl (by rfl) (fun K hK => ?_)
  go_simp
  go_at_call 34
  refine (KU2.out _ _ (HF3.out.trans HF4.out) (HY3.out.frm0 HF4.out)).mono ?_
  rintro e w5 ⟨rfl, hf5⟩
  have HF5 : Hid (Frm NoB w3 w5) := (Hid.out HF4).trans hf5
  show K _ w5
  refine hK _ _ (HF5.out.mono (fun _ _ e => e.elim)) HF5.out ?_
  clear hK K hf5
  try simp only [Act.put, List.setIfInBounds_toArray, List.set_cons_zero, List.set_cons_succ]
  have hZ5 := HZ3.out.frm HF5.out (fun e => e)
  refine mixP_store rfl (by rfl) (fun K hK => ?_)
  refine wp_store_row 56 (.tmp 6) (.tmp 19) rfl w.heap.size (ints .u8 D2).toArray rfl rfl 56 zero32 hZ5 HS2.out HSS2.out (ints_one _ _) ?_
  refine hK _ _ ((HF5.out.mono (fun _ _ e => e.elim) : Frm (One w.heap.size) w3 w5).setRow (.inl rfl) _) ?_
  clear hK K
  try simp only [Act.put, List.setIfInBounds_toArray, List.set_cons_zero, List.set_cons_succ]
  refine mixP_nil ?_
  refine NoPanic.normal ?_
  have hR : Blk (w5.setRow w.heap.size (ints .u8 D2).toArray) w.heap.size 56 (ints .u8 D2).toArray := hZ5.setRow _
  have hF : Frm NoB w (w5.setRow w.heap.size (ints .u8 D2).toArray) := (HF3.out.trans HF5.out).setRow (.inr (by omega)) _
  have HR := hide hR
  have HF := hide hF
  clear hR hF hZ5
  go_wp2
  refine bodyPost_ret (results_cell_row rfl _ _ w.heap.size 56 (ints .u8 D2).toArray (0, 0) _ rfl HR.out Try.underlying56 rfl HS2.out) rfl ⟨?_, HF.out⟩
  rw [HM.out]
end Go.Proofs.Ytmahaihcmmmhbaa
