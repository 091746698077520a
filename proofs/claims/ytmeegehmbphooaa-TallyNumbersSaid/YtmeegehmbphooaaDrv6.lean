/-
  The drive: Write, at any place; of none.
-/
import Derived.Test.YtmeegehmbphooaaDrv5
namespace Go.Proofs.Ytmeegehmbphooaa
open Go.RowKit
section
variable {w : World} {g p q c : Nat} {s : NorS} {d : DrvS}
theorem dwrite_bad (a : Int) (A : Option Addr) (cp : Nat) (l : List Int) (h : DrvAt w g p d) (hn : NorAt w p q c s) (hd : d.Ok s) (he : ¬ d.rdE s a l.length = 0) (_ : (l.length : Int) ≤ 9223372036854775807) :
    Calls Try.prog 18 #[.pointer (some ⟨g, 0, none⟩), .int .i64 a, .slice A l.length cp] w fun e w' => e = .returned (.int .i64 (d.wrE s a l)) ∧ NorAt w' p q c (d.wr s a l) ∧ Frm (Two p q) w w' := by
  have hpl := hn.ltp
  have hql := hn.ltq
  have E : Hid (d.wr s a l = s) := by show _ = _; unfold DrvS.wr; rw [if_neg he]
  have E' : Hid (d.wrE s a l = d.rdE s a l.length) := by show _ = _; unfold DrvS.wrE; rw [if_neg he]
  obtain ⟨k, hk⟩ : ∃ k, d.rdE s a l.length = k := ⟨_, rfl⟩
  have hb : (k != 0) = true := by rw [← hk]; simpa using he
  have HN := hide hn
  have F0 : Hid (∀ X Y Z : Obj, Frm NoB w (((w.alloc X).alloc Y).alloc Z)) := fun X Y Z => (((Frm.refl NoB w).alloc X).alloc Y).alloc Z
  obtain ⟨y1, y2, y3⟩ := three_boxes (w := w) (c0 := #[.pointer (some ⟨g, 0, none⟩)]) (t0 := 24) (c1 := #[.slice A l.length cp]) (t1 := 31) (c2 := #[.int .i64 0]) (t2 := 29)
  have HR := hide (dread_is (a := a) (m := (l.length : Int)) (h.frm (F0.out (.cells #[.pointer (some ⟨g, 0, none⟩)] 24) (.cells #[.slice A l.length cp] 31) (.cells #[.int .i64 0] 29)) (fun e => e)) (hn.frm (F0.out _ _ _) (fun e => e) (fun e => e)) hd)
  have Y3 := hide y3
  have HK := hide hk
  clear he h hn hd y1 y2 y3 hk
  refine calls_marks Try.func18 rfl ?_
  simp only [Try.ntmps18, List.size_toArray, List.length_cons, List.length_nil, Nat.reduceAdd, Nat.reduceSub, Array.replicate_succ, Array.replicate_zero, List.push_toArray, List.append_toArray, List.nil_append, List.cons_append]
  go_wp2_with (go_at_call 11; refine HR.out.mono ?_; rintro e w1 ⟨A1, cp1, h1, hRd, hA1, hcp1, hF⟩; rw [HK.out] at h1; subst h1; have HF := hide hF; have y6 := (Y3.out.frm hF (fun e => e)).cell 0; have f6 := (Y3.out.frm hF (fun e => e)).frozen 0; clear hRd hA1 hcp1 hF)
  have hB6 : Blk (w1.setCell ⟨w.heap.size + 2, 0, none⟩ (.int .i64 k)) (w.heap.size + 2) 29 #[.int .i64 k] := Blk.set_ (Y3.out.frm HF.out (fun e => e)) 0 _
  have r6 : (w1.setCell ⟨w.heap.size + 1 + 1, 0, none⟩ (.int .i64 k)).cell? ⟨w.heap.size + 1 + 1, 0, none⟩ = some (.int .i64 k) := hB6.cell 0
  have hF1 : Frm NoB w (w1.setCell ⟨w.heap.size + 2, 0, none⟩ (.int .i64 k)) := ((F0.out _ _ _).trans HF.out).setCell (p := ⟨w.heap.size + 2, 0, none⟩) (.inr (by simp)) _
  refine postM_ret (v := .int .i64 k) (by simp [results, Try.results18, go_sem, r6]) rfl ⟨?_, ?_, hF1.mono (fun _ _ e => e.elim)⟩
  · rw [E'.out, HK.out]
  · rw [E.out]; exact HN.out.frm hF1 (fun e => e) (fun e => e)
theorem dwrite_is (a : Int) (A : Option Addr) (cp : Nat) (l : List Int) (h : DrvAt w g p d) (hn : NorAt w p q c s) (hd : d.Ok s) (hx : Rd w A (ints .u32 l)) (hA : l ≠ [] → ∀ x, A = some x → ¬ Two p q x.block ∧ x.block < w.heap.size) (ul : U32 l) (hcp : l.length ≤ cp) (hll : (l.length : Int) ≤ 9223372036854775807) :
    Calls Try.prog 18 #[.pointer (some ⟨g, 0, none⟩), .int .i64 a, .slice A l.length cp] w fun e w' => e = .returned (.int .i64 (d.wrE s a l)) ∧ NorAt w' p q c (d.wr s a l) ∧ Frm (Two p q) w w' := by
  by_cases he : d.rdE s a l.length = 0
  · obtain ⟨_, h1, _, _, _⟩ := DrvS.rdE_zero he
    obtain ⟨a', rfl⟩ := Int.eq_ofNat_of_zero_le h1
    exact dwrite_ok a' A cp l h hn hd hx hA ul hcp he
  · exact dwrite_bad a A cp l h hn hd he hll
theorem dwrite_at (a : Int) (A : Option Addr) (cp n : Nat) (l : List Int) (hl : l.length = n) (h : DrvAt w g p d) (hn : NorAt w p q c s) (hd : d.Ok s) (hx : Rd w A (ints .u32 l)) (hA : l ≠ [] → ∀ x, A = some x → ¬ Two p q x.block ∧ x.block < w.heap.size) (ul : U32 l) (hcp : l.length ≤ cp) (hll : (l.length : Int) ≤ 9223372036854775807) :
    Calls Try.prog 18 #[.pointer (some ⟨g, 0, none⟩), .int .i64 a, .slice A n cp] w fun e w' => e = .returned (.int .i64 (d.wrE s a l)) ∧ NorAt w' p q c (d.wr s a l) ∧ Frm (Two p q) w w' := by
  subst hl; exact dwrite_is a A cp l h hn hd hx hA ul hcp hll
theorem dwrite_no (a : Int) (v : Value) (A : Option Addr) (n cp : Nat) (h : NoDrv w v) (_ : (n : Int) ≤ 9223372036854775807) :
    Calls Try.prog 18 #[v, .int .i64 a, .slice A n cp] w fun e w' => e = .returned (.int .i64 1) ∧ Frm NoB w w' := by
  have hv : ∃ X, v = .pointer X := by rcases h with rfl | ⟨g, rfl, _⟩ <;> exact ⟨_, rfl⟩
  obtain ⟨X, rfl⟩ := hv
  have F0 : Hid (∀ X Y Z : Obj, Frm NoB w (((w.alloc X).alloc Y).alloc Z)) := fun X Y Z => (((Frm.refl NoB w).alloc X).alloc Y).alloc Z
  obtain ⟨y1, y2, y3⟩ := three_boxes (w := w) (c0 := #[.pointer X]) (t0 := 24) (c1 := #[.slice A n cp]) (t1 := 31) (c2 := #[.int .i64 0]) (t2 := 29)
  have HR := hide (dread_no a n _ (h.frm (F0.out (.cells #[.pointer X] 24) (.cells #[.slice A n cp] 31) (.cells #[.int .i64 0] 29))))
  have Y3 := hide y3
  clear h y1 y2 y3
  refine calls_marks Try.func18 rfl ?_
  simp only [Try.ntmps18, List.size_toArray, List.length_cons, List.length_nil, Nat.reduceAdd, Nat.reduceSub, Array.replicate_succ, Array.replicate_zero, List.push_toArray, List.append_toArray, List.nil_append, List.cons_append]
  go_wp2_with (go_at_call 11; refine HR.out.mono ?_; rintro e w1 ⟨rfl, hF⟩; have HF := hide hF; have y6 := (Y3.out.frm hF (fun e => e)).cell 0; have f6 := (Y3.out.frm hF (fun e => e)).frozen 0; clear hF)
  have hB6 : Blk (w1.setCell ⟨w.heap.size + 2, 0, none⟩ (.int .i64 1)) (w.heap.size + 2) 29 #[.int .i64 1] := Blk.set_ (Y3.out.frm HF.out (fun e => e)) 0 _
  have r6 : (w1.setCell ⟨w.heap.size + 1 + 1, 0, none⟩ (.int .i64 1)).cell? ⟨w.heap.size + 1 + 1, 0, none⟩ = some (.int .i64 1) := hB6.cell 0
  exact postM_ret (v := .int .i64 1) (by simp [results, Try.results18, go_sem, r6]) rfl ⟨rfl, ((F0.out _ _ _).trans HF.out).setCell (p := ⟨w.heap.size + 2, 0, none⟩) (.inr (by simp)) _⟩
end
end Go.Proofs.Ytmeegehmbphooaa
