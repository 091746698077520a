/-
  frame.Put of a right frame.
-/
import Derived.Test.YtmahaihcmmmhbaaFr4
namespace Go.Proofs.Ytmahaihcmmmhbaa
open Go.RowKit
/-- a frame's bytes -/
def putP (T key : List Int) (k s q : Nat) (body : List Int) : List Int := txP k s q body ++ macP T key (txP k s q body)
def PutPost (w : World) (xs : List Int) (e : Ending) (w' : World) : Prop := ∃ v', e = .returned (.tuple #[v', .int .i64 0]) ∧ Ob w' w.heap.size v' xs ∧ Frm NoB w w'
set_option maxRecDepth 100000 in
set_option maxHeartbeats 2000000 in
theorem put_true (b : Nat) (T key : List Int) (kv : Value) (k s q : Nat) (body : List Int) (v : Value) (w : World) (hT : RdAt w b T) (hk : By w kv key) (hkl : key.length ≤ 16776000) (hy : By w v body) (hr : rightF k s q body.length = true) (hk8 : k < 256) (hs : s < 9223372036854775808) (hq : q < 9223372036854775808) :
    Calls Try.prog 12 #[.pointer (some ⟨b, 0, none⟩), kv, .agg (frameC k s q v)] w (PutPost w (putP T key k s q body)) := by
  have hB : Blk (w.alloc (.cells (frameC k s q v) 35)) w.heap.size 35 (frameC k s q v) := Blk.new w _ _
  have hf1 : Frm NoB w (w.alloc (.cells (frameC k s q v) 35)) := (Frm.refl NoB w).alloc _
  have hl : body.length ≤ 600 := by
    unfold rightF at hr
    simp only [Bool.and_eq_true, decide_eq_true_eq] at hr
    omega
  have HY := hide hy
  have HK := hide hk
  have HT := hide hT
  obtain ⟨A, c, rfl, -⟩ := hy
  obtain ⟨A1, c1, rfl, -⟩ := hk
  have KX : Hid (∀ W, Frm NoB w W → Calls Try.prog 25 #[.agg (frameC k s q (.slice A body.length c))] W (TxPost W k s q body)) := fun W hf => text_is k s q body _ W (HY.out.frm0 hf) (by omega) hk8 hs hq
  have hxl := txP_len k s q body
  obtain ⟨xs, hxs⟩ : ∃ xs, txP k s q body = xs := ⟨_, rfl⟩
  have HPP : Hid (putP T key k s q body = xs ++ macP T key xs) := by show _ = _; unfold putP; rw [hxs]
  unfold TxPost at KX
  rw [hxs] at KX hxl
  have KM : Hid (∀ W v', Frm NoB w W → By W v' xs → Calls Try.prog 22 #[.pointer (some ⟨b, 0, none⟩), .slice A1 key.length c1, v'] W (MacPost W T key xs)) := fun W v' hf hy' => mac_is b T key xs _ v' W (HT.out.frm hf (fun e => e)) (HK.out.frm0 hf) hkl hy' (by omega)
  have hdl := macP_length T key xs
  have hdu := macP_u T key xs
  unfold MacPost at KM
  obtain ⟨D, hD⟩ : ∃ D, macP T key xs = D := ⟨_, rfl⟩
  rw [hD] at KM hdl hdu HPP
  have hs8 : (Try.prog.info? 56).map (·.size) = some (ints .u8 D).toArray.size := by rw [ints_size, hdl]; exact digest_size
  have hss : zero32.size = (ints .u8 D).toArray.size := by rw [ints_size, hdl]; rfl
  have HS8 := hide hs8
  have HSS := hide hss
  have HDL := hide hdl
  have HDU := hide hdu
  have KR : Hid (∀ W, Calls Try.prog 20 #[.agg (frameC k s q (.slice A body.length c))] W fun e w' => e = .returned (.bool true) ∧ Frm NoB W w') := fun W => fright_true W k s q A body.length c hr
  have HB := hide hB
  have HF1 := hide hf1
  obtain ⟨n, hn⟩ : ∃ n, body.length = n := ⟨_, rfl⟩
  obtain ⟨m, hm⟩ : ∃ m, key.length = m := ⟨_, rfl⟩
  rw [hn] at KX KR HB HF1 HY ⊢
  rw [hm] at KM HK ⊢
  have hfs : (Try.prog.info? 35).map (·.size) = some (frameC k s q (.slice A n c)).size := frame_size
  have HFS := hide hfs
  have hxl : xs.length ≤ 650 := by omega
  clear hB hf1 hT hr hs8 hss hdl hdu hD hxs hn hm hfs hkl hl
  go_enter Try.func12, Try.ntmps12
  go_wp2_with (refine wpList_load_row rfl 35 (.tmp 5) rfl w.heap.size rfl 35 _ (0, 0) _ HB.out Try.underlying35 rfl HFS.out ?_)
  refine (KR.out _).mono ?_
  rintro e w2 ⟨rfl, hf2⟩
  have HB2 := hide ((Hid.out HB).frm hf2 (fun e => e))
  have HF2 := hide ((Hid.out HF1).trans hf2)
  clear hf2 KR HF1 HB
  go_wp2_with (refine wpList_load_row rfl 35 (.tmp 5) rfl w.heap.size rfl 35 _ (0, 0) _ HB2.out Try.underlying35 rfl HFS.out ?_)
  refine (KX.out _ HF2.out).mono ?_
  rintro e w3 ⟨v3, rfl, hO3, hf3⟩
  obtain ⟨A3, c3, e3, -⟩ := id hO3.by_
  rw [e3] at hO3 ⊢
  have HO3 := hide hO3
  have HF3 := hide ((Hid.out HF2).trans hf3)
  have HW3 := hide hf3
  obtain ⟨n3, hn3⟩ : ∃ n3, xs.length = n3 := ⟨_, rfl⟩
  have hl3 : n3 ≤ 700 := by omega
  rw [hn3] at HO3 ⊢
  have HN3 := hide hn3
  clear hO3 e3 hf3 KX HB2 hn3 hxl
  go_wp2_with fail
  refine (KM.out _ _ HF3.out HO3.out.by_).mono ?_
  rintro e w4 ⟨rfl, hf4⟩
  have HO4 := hide (HO3.out.frm0 hf4)
  have HF4 := hide ((Hid.out HF3).trans hf4)
  have HW4 := hide ((Hid.out HW3).trans hf4)
  have HN4 := hide (Blk.new w4 56 zero32)
  clear hf4 KM
  have HO5 : Hid (Ob ((w4.alloc (.cells zero32 56)).setRow w4.heap.size (ints .u8 D).toArray) w2.heap.size (.slice A3 n3 c3) xs) := HO4.out.frm0 (((Frm.refl NoB w4).alloc _).setRow (.inr (Nat.le_refl _)) _)
  have HY5 : Hid (By ((w4.alloc (.cells zero32 56)).setRow w4.heap.size (ints .u8 D).toArray) (.slice (some ⟨w4.heap.size, 0, none⟩) 32 32) D) := by_blk (HN4.out.setRow _) HDU.out HDL.out (by decide)
  have HF5 : Hid (Frm NoB w ((w4.alloc (.cells zero32 56)).setRow w4.heap.size (ints .u8 D).toArray)) := (HF4.out.alloc _).setRow (.inr HF4.out.size) _
  have HS5 : Hid (w2.heap.size ≤ ((w4.alloc (.cells zero32 56)).setRow w4.heap.size (ints .u8 D).toArray).heap.size) := Nat.le_trans HW4.out.size (((Frm.refl NoB w4).alloc (.cells zero32 56)).setRow (.inr (Nat.le_refl _)) (ints .u8 D).toArray).size
  go_wp2_with (first
    | (refine wpList_store_row rfl 56 (.tmp 9) (.tmp 18) rfl w4.heap.size _ rfl rfl 56 _ HN4.out HS8.out HSS.out (ints_one _ _) ?_)
    | (at_builtin; refine append_bytes rfl (.tmp 19) (.tmp 20) rfl w2.heap.size _ _ xs D rfl rfl HO5.out HY5.out (by rw [HN3.out, HDL.out]; omega) HS5.out ?_; intro v' w6 hg; have HG := hide hg; clear hg))
  go_ret2
  have h2 := HF2.out.size
  refine ⟨_, rfl, ?_, ?_⟩
  · rw [HPP.out]
    exact HG.out.o.lower h2
  · exact HF5.out.then_ HG.out.f (fun i hi hk => by have h1 := (HO5.out.lo hk).1; omega)
end Go.Proofs.Ytmahaihcmmmhbaa
