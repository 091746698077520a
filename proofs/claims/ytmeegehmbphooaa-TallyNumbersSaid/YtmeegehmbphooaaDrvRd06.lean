/-
  A flash of a call's own, and drives of it; the statements' 'reads'. (Printed: wip/drvrd.py)
-/
import Derived.Test.YtmeegehmbphooaaDrv6
import Derived.Test.YtmeegehmbphooaaNorOwnG
namespace Go.Proofs.Ytmeegehmbphooaa
open Go.RowKit
theorem DrvS.ok_dec {d : DrvS} {s : NorS} (h : decide (1 ≤ d.many ∧ d.first + d.many ≤ s.n) = true) : d.Ok s := by
  have h := of_decide_eq_true h
  exact ⟨h.1, h.2⟩
section
variable {w0 w w' : World} {g p q c : Nat} {s : NorS} {d : DrvS}
theorem dreads_is (a : Int) (l : List Int) (B : Option Addr) (cp : Nat) (h : DrvAt w g p d) (hn : NorAt w p q c s) (hd : d.Ok s) (hx : l ≠ [] → ∀ x, B = some x → x.block < w.heap.size) (hr : Rd w B (ints .u32 l)) (hl : (l.length : Int) ≤ 9223372036854775807) :
    Calls Try.prog 31 #[.pointer (some ⟨g, 0, none⟩), .int .i64 a, .slice B l.length cp] w fun e w' => e = .returned (.bool (decide (d.rdE s a l.length = 0 ∧ d.rd s a l.length = l))) ∧ Frm NoB w w' := by
  have HR := hide (dread_is (a := a) (m := (l.length : Int)) h hn hd)
  have HX := hide hr
  have HB := hide hx
  have hlen : ((d.rd s a l.length).length : Int) ≤ 9223372036854775807 := by
    unfold DrvS.rd DrvS.words
    split
    · simp; omega
    · simp
  have HL := hide hlen
  clear h hn hd hx hr hlen
  obtain ⟨k, hk⟩ : ∃ k, d.rdE s a l.length = k := ⟨_, rfl⟩
  obtain ⟨m, hm⟩ : ∃ m, d.rd s a l.length = m := ⟨_, rfl⟩
  have HK := hide hk
  have HM := hide hm
  rw [hm] at HL
  clear hk hm
  by_cases he : k = 0
  · have hb : (k == 0) = true := by simpa using he
    have HE := hide he
    clear he
    go_enter Try.func31, Try.ntmps31
    go_wp2_with (first
      | (go_at_call 11; refine HR.out.mono ?_; rintro e w1 ⟨A1, cp1, h1, hRd, hA1, hcp1, hF⟩; rw [HK.out, HM.out] at h1; rw [HM.out] at hRd; subst h1; have HRd := hide hRd; have HF := hide hF; clear hRd hA1 hcp1 hF)
      | (go_at_call 62; refine (sameWords_is m l _ _ _ _ _ HRd.out (Rd.frm' HX.out HF.out (fun _ _ _ e => e)) HL.out).mono ?_; rintro e w2 ⟨rfl, m2, rfl⟩))
    go_ret
    refine ⟨ret_bool ?_, HF.out.drewN m2⟩
    rw [HK.out, HM.out]
    simp [HE.out, same]
  · have hb : (k == 0) = false := by simpa using he
    have HE := hide he
    clear he
    go_enter Try.func31, Try.ntmps31
    go_wp2_with (first
      | (go_at_call 11; refine HR.out.mono ?_; rintro e w1 ⟨A1, cp1, h1, hRd, hA1, hcp1, hF⟩; rw [HK.out, HM.out] at h1; rw [HM.out] at hRd; subst h1; have HRd := hide hRd; have HF := hide hF; clear hRd hA1 hcp1 hF))
    go_ret
    refine ⟨ret_bool ?_, HF.out⟩
    rw [HK.out]
    simp [HE.out]
theorem ownd_open (a m : Nat) (h : Own w0 w p q c s) (hm : 1 ≤ m) (hs : a + m ≤ s.n) :
    Calls Try.prog 17 #[.pointer (some ⟨p, 0, none⟩), .int .i64 a, .int .i64 m] w fun e w' => ∃ g, e = .returned (.tuple #[.pointer (some ⟨g, 0, none⟩), .int .i64 0]) ∧ DrvAt w' g p ⟨a, m⟩ ∧ Own w0 w' p q c s ∧ w.heap.size ≤ g ∧ Frm NoB w w' := by
  refine (dopen_is a m h.n hm hs).mono ?_
  rintro e w' ⟨rfl, rfl⟩
  have hf : Frm NoB w (w.alloc (.cells (drvCells p ⟨a, m⟩) 87)) := (Frm.refl NoB w).alloc _
  exact ⟨w.heap.size, rfl, ⟨Blk.new _ _ _⟩, h.frm hf, Nat.le_refl _, hf⟩
theorem DrvAt.own {w2 : World} (h : DrvAt w g p d) (ho : Own w0 w p q c s) (hf : Frm (Two p q) w w2) : DrvAt w2 g p d := h.frm hf (h.two ho.n)
theorem ownd_write (a : Int) (xs : List Int) (h : Own w0 w p q c s) (hg : DrvAt w g p d) (hd : d.Ok s) (ux : U32 xs) (hm : (xs.length : Int) ≤ 9223372036854775807) (n : Nat) (hn : xs.length = n) (cs : Array Value) (hcs : cs = (ints .u32 xs).toArray) :
    Calls Try.prog 18 #[.pointer (some ⟨g, 0, none⟩), .int .i64 a, .slice (some ⟨w.heap.size, 0, none⟩) n n] (w.alloc (.cells cs 37)) fun e w' => e = .returned (.int .i64 (d.wrE s a xs)) ∧ Own w0 w' p q c (d.wr s a xs) ∧ Frm (Two p q) w w' := by
  subst hcs
  have hA := h.alloc (.cells (ints .u32 xs).toArray 37)
  have hf0 : Frm NoB w (w.alloc (.cells (ints .u32 xs).toArray 37)) := (Frm.refl NoB w).alloc _
  refine (dwrite_at a _ n n xs hn (hg.frm hf0 (fun e => e)) hA.n hd (rd_lit w _ _) (fun _ x hx => ?_) ux (by omega) hm).mono ?_
  · injection hx with hx
    subst hx
    have h1 := h.n.ltp; have h2 := h.n.ltq
    refine ⟨fun e => ?_, by simp⟩
    rcases e with e | e
    · exact absurd e (by show ¬ w.heap.size = p; omega)
    · exact absurd e (by show ¬ w.heap.size = q; omega)
  · rintro e w' ⟨rfl, hn, hf⟩
    exact ⟨rfl, hA.step hn hf, (hf0.mono (fun _ _ e => e.elim)).trans hf⟩
theorem ownd_reads (a : Int) (xs : List Int) (h : Own w0 w p q c s) (hg : DrvAt w g p d) (hd : d.Ok s) (hm : (xs.length : Int) ≤ 9223372036854775807) (n : Nat) (hn : xs.length = n) (cs : Array Value) (hcs : cs = (ints .u32 xs).toArray) (b : Bool) (hb : decide (d.rdE s a xs.length = 0 ∧ d.rd s a xs.length = xs) = b) :
    Calls Try.prog 31 #[.pointer (some ⟨g, 0, none⟩), .int .i64 a, .slice (some ⟨w.heap.size, 0, none⟩) n n] (w.alloc (.cells cs 37)) fun e w' => e = .returned (.bool b) ∧ Own w0 w' p q c s ∧ Frm NoB w w' := by
  subst hcs hn hb
  have hA := h.alloc (.cells (ints .u32 xs).toArray 37)
  have hf0 : Frm NoB w (w.alloc (.cells (ints .u32 xs).toArray 37)) := (Frm.refl NoB w).alloc _
  refine (dreads_is a xs _ _ (hg.frm hf0 (fun e => e)) hA.n hd (fun _ x hx => ?_) (rd_lit w _ _) hm).mono ?_
  · injection hx with hx
    subst hx
    simp
  · rintro e w' ⟨rfl, hf⟩
    exact ⟨rfl, hA.frm hf, hf0.trans hf⟩
end
end Go.Proofs.Ytmeegehmbphooaa
