/-
  A flash of a call's own, and drives of it: contracts at literals.
-/
import Derived.Test.YtplngfphklpicaaDrv6
import Derived.Test.YtplngfphklpicaaNorOwnG
namespace Go.Proofs.Ytplngfphklpicaa
open Go.RowKit
theorem DrvS.ok_dec {d : DrvS} {s : NorS} (h : decide (1 ≤ d.many ∧ d.first + d.many ≤ s.n) = true) : d.Ok s := by
  have h := of_decide_eq_true h
  exact ⟨h.1, h.2⟩
section
variable {w0 w w' : World} {g p q c : Nat} {s : NorS} {d : DrvS}
theorem dreads_is (a : Int) (l : List Int) (B : Option Addr) (cp : Nat) (h : DrvAt w g p d) (hn : NorAt w p q c s) (hd : d.Ok s) (hx : l ≠ [] → ∀ x, B = some x → x.block < w.heap.size) (hr : Rd w B (ints .u32 l)) (hl : (l.length : Int) ≤ 9223372036854775807) :
    Calls Try.prog 26 #[.pointer (some ⟨g, 0, none⟩), .int .i64 a, .slice B l.length cp] w fun e w' => e = .returned (.bool (decide (d.rdE s a l.length = 0 ∧ d.rd s a l.length = l))) ∧ Frm NoB w w' := by
  have HR := hide (dread_is (a := a) (m := (l.length : Int)) h hn hd)
  have HX := hide hr
  have HB := hide hx
  have hlen : ((d.rd s a l.length).length : Int) ≤ 9223372036854775807 := by
    unfold DrvS.rd DrvS.words
    split
    · simp; omega
    · simp
  have HL := hide hlen
  clear h hn hd hx hr hlen
  obtain ⟨k, hk⟩ : ∃ k, d.rdE s a l.length = k := ⟨_, rfl⟩
  obtain ⟨m, hm⟩ : ∃ m, d.rd s a l.length = m := ⟨_, rfl⟩
  have HK := hide hk
  have HM := hide hm
  rw [hm] at HL
  clear hk hm
  by_cases he : k = 0
  · have hb : (k == 0) = true := by simpa using he
    have HE := hide he
    clear he
    go_enter Try.func26, Try.ntmps26
    go_wp2_with (first
      | (go_at_call 9; refine HR.out.mono ?_; rintro e w1 ⟨A1, cp1, h1, hRd, hA1, hcp1, hF⟩; rw [HK.out, HM.out] at h1; rw [HM.out] at hRd; subst h1; have HRd := hide hRd; have HF := hide hF; clear hRd hA1 hcp1 hF)
      | (go_at_call 24; refine (sameWords_is m l _ _ _ _ _ HRd.out (Rd.frm' HX.out HF.out (fun _ _ _ e => e)) HL.out).mono ?_; rintro e w2 ⟨rfl, m2, rfl⟩))
    go_ret
    refine ⟨ret_bool ?_, HF.out.drewN m2⟩
    rw [HK.out, HM.out]
    simp [HE.out, same]
  · have hb : (k == 0) = false := by simpa using he
    have HE := hide he
    clear he
    go_enter Try.func26, Try.ntmps26
    go_wp2_with (first
      | (go_at_call 9; refine HR.out.mono ?_; rintro e w1 ⟨A1, cp1, h1, hRd, hA1, hcp1, hF⟩; rw [HK.out, HM.out] at h1; rw [HM.out] at hRd; subst h1; have HRd := hide hRd; have HF := hide hF; clear hRd hA1 hcp1 hF))
    go_ret
    refine ⟨ret_bool ?_, HF.out⟩
    rw [HK.out]
    simp [HE.out]
theorem ownd_open (a m : Nat) (h : Own w0 w p q c s) (hm : 1 ≤ m) (hs : a + m ≤ s.n) :
    Calls Try.prog 16 #[.pointer (some ⟨p, 0, none⟩), .int .i64 a, .int .i64 m] w fun e w' => ∃ g, e = .returned (.tuple #[.pointer (some ⟨g, 0, none⟩), .int .i64 0]) ∧ DrvAt w' g p ⟨a, m⟩ ∧ Own w0 w' p q c s ∧ w.heap.size ≤ g ∧ Frm NoB w w' := by
  refine (dopen_is a m h.n hm hs).mono ?_
  rintro e w' ⟨rfl, rfl⟩
  have hf : Frm NoB w (w.alloc (.cells (drvCells p ⟨a, m⟩) 26)) := (Frm.refl NoB w).alloc _
  exact ⟨w.heap.size, rfl, ⟨Blk.new _ _ _⟩, h.frm hf, Nat.le_refl _, hf⟩
theorem DrvAt.own {w2 : World} (h : DrvAt w g p d) (ho : Own w0 w p q c s) (hf : Frm (Two p q) w w2) : DrvAt w2 g p d := h.frm hf (h.two ho.n)
theorem ownd_write (a : Int) (xs : List Int) (h : Own w0 w p q c s) (hg : DrvAt w g p d) (hd : d.Ok s) (ux : U32 xs) (hm : (xs.length : Int) ≤ 9223372036854775807) (n : Nat) (hn : xs.length = n) (cs : Array Value) (hcs : cs = (ints .u32 xs).toArray) :
    Calls Try.prog 11 #[.pointer (some ⟨g, 0, none⟩), .int .i64 a, .slice (some ⟨w.heap.size, 0, none⟩) n n] (w.alloc (.cells cs 48)) fun e w' => e = .returned (.int .i64 (d.wrE s a xs)) ∧ Own w0 w' p q c (d.wr s a xs) ∧ Frm (Two p q) w w' := by
  subst hcs
  have hA := h.alloc (.cells (ints .u32 xs).toArray 48)
  have hf0 : Frm NoB w (w.alloc (.cells (ints .u32 xs).toArray 48)) := (Frm.refl NoB w).alloc _
  refine (dwrite_at a _ n n xs hn (hg.frm hf0 (fun e => e)) hA.n hd (rd_lit w _ _) (fun _ x hx => ?_) ux (by omega) hm).mono ?_
  · injection hx with hx
    subst hx
    have h1 := h.n.ltp; have h2 := h.n.ltq
    refine ⟨fun e => ?_, by simp⟩
    rcases e with e | e
    · exact absurd e (by show ¬ w.heap.size = p; omega)
    · exact absurd e (by show ¬ w.heap.size = q; omega)
  · rintro e w' ⟨rfl, hn, hf⟩
    exact ⟨rfl, hA.step hn hf, (hf0.mono (fun _ _ e => e.elim)).trans hf⟩
theorem ownd_write_nil (a : Int) (h : Own w0 w p q c s) (hg : DrvAt w g p d) (hd : d.Ok s) :
    Calls Try.prog 11 #[.pointer (some ⟨g, 0, none⟩), .int .i64 a, .slice none 0 0] w fun e w' => e = .returned (.int .i64 (d.wrE s a [])) ∧ Own w0 w' p q c (d.wr s a []) ∧ Frm (Two p q) w w' := by
  refine (dwrite_at a none 0 0 [] rfl hg h.n hd (Rd.nil _ _) (fun e => (e rfl).elim) (fun x hx => by cases hx) (by simp) (by simp)).mono ?_
  rintro e w' ⟨rfl, hn, hf⟩
  exact ⟨rfl, h.step hn hf, hf⟩
theorem ownd_reads (a : Int) (xs : List Int) (h : Own w0 w p q c s) (hg : DrvAt w g p d) (hd : d.Ok s) (hm : (xs.length : Int) ≤ 9223372036854775807) (n : Nat) (hn : xs.length = n) (cs : Array Value) (hcs : cs = (ints .u32 xs).toArray) (b : Bool) (hb : decide (d.rdE s a xs.length = 0 ∧ d.rd s a xs.length = xs) = b) :
    Calls Try.prog 26 #[.pointer (some ⟨g, 0, none⟩), .int .i64 a, .slice (some ⟨w.heap.size, 0, none⟩) n n] (w.alloc (.cells cs 48)) fun e w' => e = .returned (.bool b) ∧ Own w0 w' p q c s ∧ Frm NoB w w' := by
  subst hcs hn hb
  have hA := h.alloc (.cells (ints .u32 xs).toArray 48)
  have hf0 : Frm NoB w (w.alloc (.cells (ints .u32 xs).toArray 48)) := (Frm.refl NoB w).alloc _
  refine (dreads_is a xs _ _ (hg.frm hf0 (fun e => e)) hA.n hd (fun _ x hx => ?_) (rd_lit w _ _) hm).mono ?_
  · injection hx with hx
    subst hx
    simp
  · rintro e w' ⟨rfl, hf⟩
    exact ⟨rfl, hA.frm hf, hf0.trans hf⟩
theorem ownd_erase (sec : Int) (h : Own w0 w p q c s) (hg : DrvAt w g p d) (hd : d.Ok s) (hs : -9223372036854775808 ≤ sec) :
    Calls Try.prog 12 #[.pointer (some ⟨g, 0, none⟩), .int .i64 sec] w fun e w' => e = .returned (.int .i64 (d.erE s sec)) ∧ Own w0 w' p q c (d.er s sec) ∧ Frm (Two p q) w w' := by
  refine (derase_is sec hg h.n (by have := hd.n; have := h.n.ok.n2; omega) hs).mono ?_
  rintro e w' ⟨rfl, hn, hf⟩
  exact ⟨rfl, h.step hn hf, hf⟩
theorem ownd_part (a m : Nat) (h : Own w0 w p q c s) (hg : DrvAt w g p d) (hd : d.Ok s) (hm : 1 ≤ m) (ham : a + m ≤ d.many) :
    Calls Try.prog 10 #[.pointer (some ⟨g, 0, none⟩), .int .i64 a, .int .i64 m] w fun e w' => ∃ g', e = .returned (.tuple #[.pointer (some ⟨g', 0, none⟩), .int .i64 0]) ∧ DrvAt w' g' p ⟨d.first + a, m⟩ ∧ Own w0 w' p q c s ∧ w.heap.size ≤ g' ∧ Frm NoB w w' := by
  refine (dpart_is a m hg (by have := hd.n; have := h.n.ok.n2; omega) hm ham).mono ?_
  rintro e w' ⟨g', rfl, h1, h2, hf⟩
  exact ⟨g', rfl, h1, h.frm hf, h2, hf⟩
theorem ownd_arm (k : Int) (h : Own w0 w p q c s) (hk : k ≤ 9223372036854775807) :
    Calls Try.prog 21 #[.pointer (some ⟨p, 0, none⟩), .int .i64 k] w fun e w' => e = .returned (.tuple #[]) ∧ Own w0 w' p q c (s.arms k) ∧ Frm (Two p q) w w' := by
  refine (arm_is k h.n hk).mono ?_
  rintro e w' ⟨rfl, hn, hf⟩
  exact ⟨rfl, h.step hn hf, hf⟩
theorem ownd_read (a m : Int) (h : Own w0 w p q c s) (hg : DrvAt w g p d) (hd : d.Ok s) (k : Int) (hk : d.rdE s a m = k) (n : Nat) (hn : (d.rd s a m).length = n) :
    Calls Try.prog 9 #[.pointer (some ⟨g, 0, none⟩), .int .i64 a, .int .i64 m] w fun e w' => ∃ A cp, e = .returned (.tuple #[.slice A n cp, .int .i64 k]) ∧ Own w0 w' p q c s ∧ Frm NoB w w' := by
  subst hk hn
  refine (dread_is a m hg h.n hd).mono ?_
  rintro e w' ⟨A, cp, rfl, _, _, _, hf⟩
  exact ⟨A, cp, rfl, h.frm hf, hf⟩
theorem ownd_blank (a m : Int) (h : Own w0 w p q c s) (hg : DrvAt w g p d) (hd : d.Ok s) (b : Bool) (hb : d.blank s a m = b) :
    Calls Try.prog 13 #[.pointer (some ⟨g, 0, none⟩), .int .i64 a, .int .i64 m] w fun e w' => e = .returned (.bool b) ∧ Own w0 w' p q c s ∧ Frm NoB w w' := by
  subst hb
  refine (dblank_is a m hg h.n hd).mono ?_
  rintro e w' ⟨rfl, hf⟩
  exact ⟨rfl, h.frm hf, hf⟩
end
end Go.Proofs.Ytplngfphklpicaa
