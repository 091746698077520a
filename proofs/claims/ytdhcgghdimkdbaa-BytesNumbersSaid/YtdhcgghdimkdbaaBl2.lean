/-
  The bytes' statements: awake.
-/
import Derived.Test.YtdhcgghdimkdbaaBl1
namespace Go.Proofs.Ytdhcgghdimkdbaa
open Go.RowKit
set_option maxRecDepth 100000 in
set_option maxHeartbeats 2000000 in
theorem awake8_is (w : World) : Calls Try.prog 9 #[] w fun e w' => e = .returned (.bool true) ∧ Frm NoB w w' := by
  have kc := const_bytes
  have g1 : bE [2, 97, 98] 0 1 = 3 := by decide
  have g2 : bX [2, 97, 98] 0 1 = 0 := by decide
  have g3 : wordsOf [1, 2, 3, 4, 5] = [16909060, 100663295] := by decide
  have g4 : bytesN [16909060, 100663295] 5 = [1, 2, 3, 4, 5] := by decide
  have g5 : byE [16909060, 100663295] 5 = 0 := by decide
  go_enter Try.func9, Try.ntmps9
  go_wp2_with fail
  have hY := by_mark w [2, 97, 98] (U8.cons (by omega) (U8.cons (by omega) (U8.cons (by omega) U8.nil))) (by simp) _ rfl 3 rfl (3, 4)
  refine (getBlob_is hY 0 1 (by simp) (by omega)).mono ?_
  rintro e w1 ⟨v1, rfl, hG1⟩
  rw [g1, g2]
  have HF1 := hide (((Frm.refl NoB w).alloc _).trans hG1.new)
  clear hG1 hY
  go_wp2_with fail
  have hY := by_lit w1 [1, 2, 3, 4, 5] (U8.cons (by omega) (U8.cons (by omega) (U8.cons (by omega) (U8.cons (by omega) (U8.cons (by omega) U8.nil))))) (by simp) _ rfl 5 rfl
  refine (words_is hY (by simp)).mono ?_
  rintro e w2 ⟨A2, c2, rfl, hR2, -, hF2⟩
  rw [g3] at hR2 ⊢
  have HF2 := hide ((HF1.out.trans ((Frm.refl NoB w1).alloc _)).trans hF2)
  have HR2 := hide hR2
  clear hR2 hF2 hY HF1
  go_wp2_with fail
  refine (bytes_is A2 c2 [16909060, 100663295] HR2.out (fun x hx => by rcases List.mem_cons.1 hx with rfl | hx; · omega
                                                                       rcases List.mem_cons.1 hx with rfl | hx; · omega
                                                                       cases hx) (by simp) 5 (by omega)).mono ?_
  rintro e w3 ⟨v3, rfl, hG3⟩
  rw [g5] at hG3 ⊢
  have hG3 : Grew w2 w2.heap.size (.slice none 0 0) v3 [1, 2, 3, 4, 5] w3 := hG3
  have HF3 := hide (HF2.out.trans hG3.new)
  have HR3 := hide (Rd.frm HR2.out hG3.new (fun _ _ e => e))
  have HB3 := hide hG3.o.by_
  clear hG3 HR2 HF2 g1 g2 g3 g4 g5
  go_wp2_with fail
  refine (writes_is (w := w3)).mono ?_
  rintro e w4 ⟨rfl, hF⟩
  have HF4 := hide (HF3.out.trans hF)
  have HR4 := hide (Rd.frm HR3.out hF (fun _ _ e => e))
  have HB4 := hide (HB3.out.frm0 hF)
  clear hF HF3 HR3 HB3
  go_wp2_with fail
  have T : TriesAt ((((w4.alloc (.cells #[.int .u8 172, .int .u8 2] 5)).alloc (.cells #[.int .u8 172] 5)).alloc (.cells #[.int .u8 128, .int .u8 0] 5)).alloc (.cells (triesCells [(.slice (some ⟨w4.heap.size, 0, none⟩) 2 2, ⟨[172, 2], 0, 300, 2, 0⟩), (.slice (some ⟨w4.heap.size + 1, 0, none⟩) 1 1, ⟨[172], 0, 0, 0, 10⟩), (.slice (some ⟨w4.heap.size + 1 + 1, 0, none⟩) 2 2, ⟨[128, 0], 0, 0, 0, 11⟩)]).toArray 42)) (w4.heap.size + 1 + 1 + 1) 0 [⟨[172, 2], 0, 300, 2, 0⟩, ⟨[172], 0, 0, 0, 10⟩, ⟨[128, 0], 0, 0, 0, 11⟩] := by
    refine tries_lit [(.slice (some ⟨w4.heap.size, 0, none⟩) 2 2, ⟨[172, 2], 0, 300, 2, 0⟩), (.slice (some ⟨w4.heap.size + 1, 0, none⟩) 1 1, ⟨[172], 0, 0, 0, 10⟩), (.slice (some ⟨w4.heap.size + 1 + 1, 0, none⟩) 2 2, ⟨[128, 0], 0, 0, 0, 11⟩)] (Blk.new' _ _ (by simp only [World.size_alloc]) _ _) (fun p hp => ?_)
    rcases List.mem_cons.1 hp with rfl | hp
    · exact ⟨(by_lit' w4 _ rfl [172, 2] (U8.cons (by omega) (U8.cons (by omega) U8.nil)) (by simp) _ rfl 2 rfl).frm0 ((((Frm.refl NoB _).alloc _).alloc _).alloc _), by simp⟩
    rcases List.mem_cons.1 hp with rfl | hp
    · exact ⟨(by_lit' _ _ (by simp only [World.size_alloc]) [172] (U8.cons (by omega) U8.nil) (by simp) _ rfl 1 rfl).frm0 (((Frm.refl NoB _).alloc _).alloc _), by simp⟩
    rcases List.mem_cons.1 hp with rfl | hp
    · exact ⟨(by_lit' _ _ (by simp only [World.size_alloc]) [128, 0] (U8.cons (by omega) (U8.cons (by omega) U8.nil)) (by simp) _ rfl 2 rfl).frm0 ((Frm.refl NoB _).alloc _), by simp⟩
    cases hp
  refine (reads8_is [⟨[172, 2], 0, 300, 2, 0⟩, ⟨[172], 0, 0, 0, 10⟩, ⟨[128, 0], 0, 0, 0, 11⟩] _ 0 3 3 T (fun t ht => ?tg) rfl (by omega)).mono ?_
  case tg =>
    rcases List.mem_cons.1 ht with rfl | ht
    · exact ⟨by decide, by decide, by decide⟩
    rcases List.mem_cons.1 ht with rfl | ht
    · exact ⟨by decide, by decide, by decide⟩
    rcases List.mem_cons.1 ht with rfl | ht
    · exact ⟨by decide, by decide, by decide⟩
    cases ht
  rintro e w5 ⟨rfl, hF⟩
  have hF5 : Frm NoB w4 w5 := ((((Frm.refl NoB w4).alloc _).alloc _).alloc _ |>.alloc _).trans hF
  have HF5 := hide (HF4.out.trans hF5)
  obtain ⟨b2, o2, rfl, hc⟩ := Rd.frm HR4.out hF5 (fun _ _ e => e) (by simp [ints])
  have c0 := hc 0 (.int .u32 16909060) rfl
  have c1 := hc 1 (.int .u32 100663295) rfl
  rw [Nat.add_zero] at c0
  have s1 := (HB4.out.frm0 hF5).string
  have l1 : (strOfNums [1, 2, 3, 4, 5]).toList = [1, 2, 3, 4, 5] := (Lib.strOfNums_toList _).trans (by decide)
  clear T hF hF5 hc HF4 HB4 HR4 kc hG3
  go_wp2
  go_ret
  exact ⟨rfl, HF5.out⟩
end Go.Proofs.Ytdhcgghdimkdbaa
