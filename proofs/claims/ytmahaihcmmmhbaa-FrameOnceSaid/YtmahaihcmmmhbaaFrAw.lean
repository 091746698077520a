/-
  Layer 23: awake.
-/
import Derived.Test.YtmahaihcmmmhbaaFr5
import Derived.Test.YtmahaihcmmmhbaaByStr
import Derived.Test.YtmahaihcmmmhbaaByLit
namespace Go.Proofs.Ytmahaihcmmmhbaa
open Go.RowKit
def awSeq (k : Nat) : Nat := [3, 1, 3, 70, 6, 7].getD k 0
def awOk (k : Nat) : Bool := [true, true, false, true, false, true].getD k false
def awLast (k : Nat) : Nat := [0, 3, 3, 3, 70, 70, 70].getD k 0
def awSeen (k : Nat) : Nat := [0, 1, 5, 5, 1, 1, 9223372036854775809].getD k 0
theorem six {k : Nat} (h : k < 6) : k = 0 ∨ k = 1 ∨ k = 2 ∨ k = 3 ∨ k = 4 ∨ k = 5 := by omega
theorem aw_once {k : Nat} (h : k < 6) : onceN (awLast k) (awSeen k) (awSeq k) = (awLast (k + 1), awSeen (k + 1), awOk k) ∧ awSeen k < 2 ^ 64 ∧ awLast k ≤ 1099511627776 ∧ 1 ≤ awSeq k ∧ awSeq k ≤ 1099511627776 := by
  rcases six h with rfl | rfl | rfl | rfl | rfl | rfl <;> decide
def awRow : Array Value := #[.int .i64 3, .bool true, .int .i64 3, .int .u64 1, .int .i64 1, .bool true, .int .i64 3, .int .u64 5, .int .i64 3, .bool false, .int .i64 3, .int .u64 5, .int .i64 70, .bool true, .int .i64 70, .int .u64 1, .int .i64 6, .bool false, .int .i64 70, .int .u64 1, .int .i64 7, .bool true, .int .i64 70, .int .u64 9223372036854775809]
theorem aw_row {k : Nat} (h : k < 6) : awRow[k * 4]? = some (.int .i64 (awSeq k)) ∧ awRow[k * 4 + 1]? = some (.bool (awOk k)) ∧ awRow[k * 4 + 2]? = some (.int .i64 (awLast (k + 1))) ∧ awRow[k * 4 + 3]? = some (.int .u64 (awSeen (k + 1))) := by
  rcases six h with rfl | rfl | rfl | rfl | rfl | rfl <;> exact ⟨rfl, rfl, rfl, rfl⟩
theorem tx_aw : txP 2 5 300 [97, 98] = [2, 5, 172, 2, 2, 97, 98] := by decide
theorem str_aw : strOfNums [2, 5, 172, 2, 2, 97, 98] = ⟨#[2, 5, 172, 2, 2, 97, 98]⟩ := by decide
def AwRel (w0 wr : World) (p4 p38 k : Nat) : Prop := Blk wr p4 25 #[.int .i64 (awLast k), .int .u64 (awSeen k)] ∧ Blk wr p38 61 awRow ∧ Frm NoB w0 wr ∧ w0.heap.size ≤ p4 ∧ p4 ≠ p38
def AwLoop (w0 : World) (p4 p38 : Nat) (x : Value) (wr : World) : Prop := ∃ k : Nat, k ≤ 6 ∧ x = .int .i64 k ∧ AwRel w0 wr p4 p38 k
set_option maxRecDepth 100000 in
set_option maxHeartbeats 4000000 in
theorem awake_is (w : World) : Calls Try.prog 10 #[] w fun e w' => e = .returned (.bool true) ∧ Frm NoB w w' := by
  go_enter Try.func10, Try.ntmps10
  go_wp2_with fail
  refine (table_is _).mono ?_
  rintro e w1 ⟨T, hl, hu, rfl, hf1⟩
  have hRn : Blk (w1.alloc (.cells Try.zeroCells42 42)) w1.heap.size 42 Try.zeroCells42 := Blk.new w1 _ _
  have hs72 : (Try.prog.info? 42).map (·.size) = some (ints .u32 T).toArray.size := by rw [ints_size, hl]; exact rounds_size
  have hzz : Try.zeroCells42.size = (ints .u32 T).toArray.size := by rw [ints_size, hl]; kernel_rfl
  have hRd : RdAt ((w1.alloc (.cells Try.zeroCells42 42)).setRow w1.heap.size (ints .u32 T).toArray) w1.heap.size T := ⟨hl, hu, hRn.setRow _⟩
  have hf2 : Frm NoB w ((w1.alloc (.cells Try.zeroCells42 42)).setRow w1.heap.size (ints .u32 T).toArray) := (hf1.alloc _).setRow (.inr hf1.size) _
  have HRN := hide hRn
  have HS72 := hide hs72
  have HZZ := hide hzz
  have HRD := hide hRd
  have HF2 := hide hf2
  clear hRn hs72 hzz hRd hf2 hf1 hl hu
  have kc := fun (w : World) (C : Array Value) (n c : Nat) => Lib.run_convert_bytes_const (P := Try.prog) w 32 5 C n c Try.underlying32 Try.underlying5
  go_upto_region 2 with (refine wpList_store_row rfl 42 (.tmp 1) (.tmp 9) rfl w1.heap.size _ rfl rfl 42 _ HRN.out HS72.out HZZ.out (ints_one _ _) ?_)
  generalize (w1.alloc (.cells Try.zeroCells42 42)).setRow w1.heap.size (ints .u32 T).toArray = w2 at *
  clear HRN
  have kc2 : ∀ (C : Array Value) (n c : Nat), (convert 32 32 (.slice (some ⟨w2.heap.size + 1, 0, none⟩) n c)).run Try.prog ((w2.alloc (.cells #[.int .u8 107] 5 (1, 2))).alloc (.cells C 5)) = .ok (.slice (some ⟨w2.heap.size + 1, 0, none⟩) n c) ((w2.alloc (.cells #[.int .u8 107] 5 (1, 2))).alloc (.cells C 5 (C.size, C.size + 1))) := fun C n c => by
    have := const_bytes (w2.alloc (.cells #[.int .u8 107] 5 (1, 2))) C n c
    rwa [World.size_alloc] at this
  have hyk : By ((w2.alloc (.cells #[.int .u8 107] 5 (1, 2))).alloc (.cells #[.int .u8 97, .int .u8 98] 5 (2, 3))) (.slice (some ⟨w2.heap.size, 0, none⟩) 1 1) [107] := (by_mark w2 [107] (U8.cons (by omega) U8.nil) (by decide) _ rfl 1 rfl (1, 2)).frm0 ((Frm.refl NoB _).alloc _)
  have hyb : By ((w2.alloc (.cells #[.int .u8 107] 5 (1, 2))).alloc (.cells #[.int .u8 97, .int .u8 98] 5 (2, 3))) (.slice (some ⟨w2.heap.size + 1, 0, none⟩) 2 2) [97, 98] := by
    have := by_mark (w2.alloc (.cells #[.int .u8 107] 5 (1, 2))) [97, 98] (U8.cons (by omega) (U8.cons (by omega) U8.nil)) (by decide) _ rfl 2 rfl (2, 3)
    rwa [World.size_alloc] at this
  have hf3 : Frm NoB w2 ((w2.alloc (.cells #[.int .u8 107] 5 (1, 2))).alloc (.cells #[.int .u8 97, .int .u8 98] 5 (2, 3))) := ((Frm.refl NoB w2).alloc _).alloc _
  have KP := hide (put_true w1.heap.size T [107] _ 2 5 300 [97, 98] _ _ (HRD.out.frm hf3 (fun e => e)) hyk (by decide) hyb (by decide) (by decide) (by decide) (by decide))
  have HF3 := hide (HF2.out.trans hf3)
  clear hyk hyb hf3
  have hpl : putP T [107] 2 5 300 [97, 98] = [2, 5, 172, 2, 2, 97, 98] ++ macP T [107] (txP 2 5 300 [97, 98]) := by unfold putP; rw [tx_aw]
  have hml := macP_length T [107] (txP 2 5 300 [97, 98])
  rw [hpl] at KP
  generalize macP T [107] (txP 2 5 300 [97, 98]) = D at *
  have HML : Hid (([2, 5, 172, 2, 2, 97, 98] ++ D : List Int).length = 39) := by show _ = _; rw [List.length_append, hml]; rfl
  clear hpl hml
  go_wp2_with fail
  refine KP.out.mono ?_
  rintro e w4 ⟨v4, rfl, hO4, hf4⟩
  have hY4 := hO4.by_
  obtain ⟨A4, c4, rfl, -⟩ := id hY4
  rw [HML.out] at hY4 ⊢
  have hc4 : 39 ≤ c4 := by
    obtain ⟨A', c', e, h1, h2, h3, h4, h5⟩ := id hY4
    injection e with e1 e2 e3
    omega
  have hcv := (hY4.take (k := 7) (by rw [HML.out]; decide)).string
  rw [show ([2, 5, 172, 2, 2, 97, 98] ++ D : List Int).take 7 = [2, 5, 172, 2, 2, 97, 98] from rfl, str_aw] at hcv
  have HF4 := hide (HF3.out.trans hf4)
  clear KP hO4 hf4 hY4 HML
  go_wp2_with fail
  have hst : AwRel w4 ((w4.alloc (.cells #[.int .i64 0, .int .u64 0] 25)).alloc (.cells awRow 61)) w4.heap.size (w4.heap.size + 1) 0 :=
    ⟨(Blk.new w4 _ _).alloc _, blk_snd _ _ _ _, ((Frm.refl NoB w4).alloc _).alloc _, Nat.le_refl _, by omega⟩
  have HST := hide hst
  clear hst hcv kc kc2 hc4
  generalize w4.heap.size + 1 = p38 at *
  generalize w4.heap.size = p4 at *
  go_loopw [40] (fun x wr => AwLoop w4 p4 p38 x wr) (fun i _ => 6 - (intOf i).toNat)
  case atStart => exact ⟨0, by omega, rfl, HST.out⟩
  case round =>
    clear HST
    obtain ⟨k, hk, rfl, hR⟩ := hrel
    by_cases hlt : k < 6
    · obtain ⟨ho, hs, hla, hq1, hq2⟩ := aw_once hlt
      obtain ⟨x0, x1, x2, x3⟩ := aw_row hlt
      have r0 := (hR.2.1.cell (k * 4)).trans x0
      have r1 := (hR.2.1.cell (k * 4 + 1)).trans x1
      have r2 := (hR.2.1.cell (k * 4 + 2)).trans x2
      have r3 := (hR.2.1.cell (k * 4 + 3)).trans x3
      have z0 := fun o => (hR.1.alloc o).cell 0
      have z1 := fun o => (hR.1.alloc o).cell 1
      have k0 : (0 : Int) ≤ (k : Int) := by omega
      have k1 : (k : Int) < 6 := by omega
      have KO : Hid (∀ W, Calls Try.prog 9 #[.agg #[.int .i64 (awLast k), .int .u64 (awSeen k)], .int .i64 (awSeq k)] W (OncePost W (awLast k) (awSeen k) (awSeq k))) := fun W => once_is W _ _ _ hs hla hq1 hq2
      unfold OncePost at KO
      rw [ho] at KO
      have HR := hide hR
      clear hR ho hs hla hq1 hq2 x0 x1 x2 x3
      have HN : Hid (∀ W, AwRel w4 W p4 p38 (k + 1) → AwLoop w4 p4 p38 (.int .i64 (k + 1 : Nat)) W) := fun W h => ⟨k + 1, by omega, rfl, h⟩
      unfold AwRel at HN
      generalize awLast (k + 1) = L1 at *
      generalize awSeen (k + 1) = S1 at *
      generalize awOk k = B at *
      generalize awSeq k = Q at *
      go_wp2_with fail
      refine (KO.out _).mono ?_
      rintro e w5 ⟨rfl, hf5⟩
      have hB5 : Blk w5 wr.heap.size 61 #[.int .i64 Q, .bool B, .int .i64 L1, .int .u64 S1] := (Blk.new wr _ _).frm hf5 (fun e => e)
      have hP5 : Blk w5 p4 25 #[.int .i64 (awLast k), .int .u64 (awSeen k)] := (HR.out.1.alloc _).frm hf5 (fun e => e)
      have hQ5 : Blk w5 p38 61 awRow := (HR.out.2.1.alloc _).frm hf5 (fun e => e)
      have HF5 : Hid (Frm NoB w4 w5) := (HR.out.2.2.1.alloc _).trans hf5
      have s1 := fun o => (hB5.alloc o).cell 1
      have s2 := fun o => (hB5.alloc o).cell 2
      have s3 := fun o => (hB5.alloc o).cell 3
      have y0 := fun o => (hP5.alloc o).cell 0
      have y1 := fun o => (hP5.alloc o).cell 1
      have g0 := fun o => (hP5.alloc o).frozen 0
      have g1 := fun o => (hP5.alloc o).frozen 1
      have hne5 : wr.heap.size ≠ p4 := by have := HR.out.1.lt; omega
      have hne6 : w5.heap.size ≠ p4 := by have := hP5.lt; omega
      have HP5 := hide hP5
      have HQ5 := hide hQ5
      clear hB5 hP5 hQ5 hf5 z0 z1 r0 r1 r2 r3 KO
      unfold winV
      go_wp2_with fail
      have hb : Blk (((w5.alloc (.cells #[.int .i64 L1, .int .u64 S1] 25)).setCell ⟨p4, 0, none⟩ (.int .i64 L1)).setCell ⟨p4, 1, none⟩ (.int .u64 S1)) p4 25 #[.int .i64 L1, .int .u64 S1] := by
        have := ((HP5.out.alloc (.cells #[.int .i64 L1, .int .u64 S1] 25)).set_ 0 (.int .i64 L1)).set_ 1 (.int .u64 S1)
        simpa using this
      have hn5 := HR.out.2.2.2.2
      have hq : Blk (((w5.alloc (.cells #[.int .i64 L1, .int .u64 S1] 25)).setCell ⟨p4, 0, none⟩ (.int .i64 L1)).setCell ⟨p4, 1, none⟩ (.int .u64 S1)) p38 61 awRow := ((HQ5.out.alloc _).far (by show p38 ≠ p4; omega) _).far (by show p38 ≠ p4; omega) _
      have hf : Frm NoB w4 (((w5.alloc (.cells #[.int .i64 L1, .int .u64 S1] 25)).setCell ⟨p4, 0, none⟩ (.int .i64 L1)).setCell ⟨p4, 1, none⟩ (.int .u64 S1)) := ((HF5.out.alloc _).setCell (p := ⟨p4, 0, none⟩) (.inr HR.out.2.2.2.1) _).setCell (p := ⟨p4, 1, none⟩) (.inr HR.out.2.2.2.1) _
      refine ⟨?_, by simp [intOf]; omega⟩
      rw [show ((k : Int) + 1) = ((k + 1 : Nat) : Int) from by omega]
      exact HN.out _ ⟨hb, hq, hf, HR.out.2.2.2.1, hn5⟩
    · have dk : decide ((k : Int) < 6) = false := decide_eq_false (by omega)
      have HF := hide (HF4.out.trans hR.2.2.1)
      clear hR
      go_wp2
      go_ret
      exact ⟨rfl, HF.out⟩
end Go.Proofs.Ytmahaihcmmmhbaa
