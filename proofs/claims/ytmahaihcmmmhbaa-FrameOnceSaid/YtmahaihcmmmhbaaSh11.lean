/-
  slices.Concat of two.
-/
import Derived.Test.YtmahaihcmmmhbaaSh10
import Derived.Test.YtmahaihcmmmhbaaSh8
namespace Go.Proofs.Ytmahaihcmmmhbaa
open Go.RowKit
def CcRel (w : World) (a b : Nat) (x3 x11 : Value) (wr : World) : Prop := wr = w ∧ ((x11 = .int .i64 0 ∧ x3 = .int .i64 0) ∨ (x11 = .int .i64 1 ∧ x3 = .int .i64 a) ∨ (x11 = .int .i64 2 ∧ x3 = .int .i64 (a + b : Nat)))
def CdRel (w : World) (xs ys : List Int) (x6 x27 : Value) (wr : World) : Prop := Frm NoB w wr ∧ ((x27 = .int .i64 0 ∧ Ob wr w.heap.size x6 []) ∨ (x27 = .int .i64 1 ∧ Ob wr w.heap.size x6 xs) ∨ (x27 = .int .i64 2 ∧ Ob wr w.heap.size x6 (xs ++ ys)))
set_option maxRecDepth 100000 in
set_option maxHeartbeats 1000000 in
theorem concat_is (w : World) (b o c : Nat) (A1 A2 : Option Addr) (c1 c2 n m : Nat) (xs ys : List Int) (hn : xs.length = n) (hm : ys.length = m) (hx : By w (.slice A1 n c1) xs) (hy : By w (.slice A2 m c2) ys) (hl : n + m ≤ 16777000)
    (h0 : w.cell? ⟨b, o, none⟩ = some (.slice A1 n c1)) (h1 : w.cell? ⟨b, o + 1, none⟩ = some (.slice A2 m c2)) :
    Calls Try.prog 64 #[.slice (some ⟨b, o, none⟩) 2 c] w (ClonePost w (xs ++ ys)) := by
  have HX := hide hx
  have HY := hide hy
  have HN := hide hn
  have HM := hide hm
  have hbw := World.block_lt_of_cell? w _ h0
  have H0 := hide h0
  have H1 := hide h1
  clear hx hy hn hm
  go_enter Try.func64, Try.ntmps64
  go_wp2_with fail
  go_loopw [3, 11] (fun x3 x11 wr => CcRel w n m x3 x11 wr) (fun _ i _ => 2 - (intOf i).toNat)
  case atStart => exact ⟨rfl, .inl ⟨rfl, rfl⟩⟩
  case round =>
    obtain ⟨rfl, ⟨rfl, rfl⟩ | ⟨rfl, rfl⟩ | ⟨rfl, rfl⟩⟩ := hrel
    · go_wp2
      go_roundw
      case rel => exact ⟨rfl, .inr (.inl ⟨rfl, rfl⟩)⟩
      case measure => simp [intOf]
    · go_wp2
      go_roundw
      case rel => exact ⟨rfl, .inr (.inr ⟨rfl, by go_num⟩)⟩
      case measure => simp [intOf]
    · obtain ⟨wS, rfl⟩ : ∃ wS : World, wS = wr := ⟨_, rfl⟩
      clear h0 h1
      go_wp2_with fail
      refine (grow_is (n + m) (by omega) wS).mono ?_
      rintro e w1 ⟨v1, rfl, hO1, hF1⟩
      have HO1 := hide hO1
      have HF1 := hide hF1
      clear hO1 hF1
      go_wp2_with fail
      go_loopw [6, 27] (fun x6 x27 wr => CdRel wS xs ys x6 x27 wr) (fun _ i _ => 2 - (intOf i).toNat)
      case atStart => exact ⟨HF1.out, .inl ⟨rfl, HO1.out⟩⟩
      case round =>
        clear HO1 HF1
        obtain ⟨hF, ⟨rfl, hO⟩ | ⟨rfl, hO⟩ | ⟨rfl, hO⟩⟩ := hrel
        · have HO := hide hO
          have HF := hide hF
          have k0 : wr.cell? ⟨b, o, none⟩ = some (.slice A1 n c1) := (hF.cell (p := ⟨b, o, none⟩) hbw (fun e => e)).trans H0.out
          clear hO hF
          go_wp2_with (at_builtin; refine append_bytes rfl (.tmp 31) (.tmp 32) rfl wS.heap.size _ _ [] xs rfl rfl HO.out (HX.out.frm0 HF.out) (by rw [HN.out]; simp; omega) HF.out.size ?_; intro v' w2 hg)
          have HG := hide hg
          clear hg
          go_roundw
          case rel => exact ⟨grew_new HO.out HF.out HG.out, .inr (.inl ⟨rfl, HG.out.o⟩)⟩
          case measure => simp [intOf]
        · have HO := hide hO
          have HF := hide hF
          have k0 : wr.cell? ⟨b, o + 1, none⟩ = some (.slice A2 m c2) := (hF.cell (p := ⟨b, o + 1, none⟩) hbw (fun e => e)).trans H1.out
          clear hO hF
          go_wp2_with (at_builtin; refine append_bytes rfl (.tmp 31) (.tmp 32) rfl wS.heap.size _ _ xs ys rfl rfl HO.out (HY.out.frm0 HF.out) (by rw [HN.out, HM.out]; omega) HF.out.size ?_; intro v' w2 hg)
          have HG := hide hg
          clear hg
          go_roundw
          case rel => exact ⟨grew_new HO.out HF.out HG.out, .inr (.inr ⟨rfl, HG.out.o⟩)⟩
          case measure => simp [intOf]
        · go_wp2
          go_ret
          exact ⟨_, rfl, hO, hF⟩
end Go.Proofs.Ytmahaihcmmmhbaa
