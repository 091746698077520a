/-
  The tally: write.
-/
import Derived.Test.YtmeegehmbphooaaTal4
namespace Go.Proofs.Ytmeegehmbphooaa
open Go.RowKit
theorem tsec_len : Try.prog.arrayLen 42 = 64 := by kernel_rfl
theorem tsec_elem : Try.prog.elem 42 = 37 := by kernel_rfl
/-- Three blocks. -/
def Tri (p q g : Nat) : Nat → Prop := fun k => k = p ∨ k = q ∨ k = g
theorem Tri.of_two {p q g : Nat} {w w' : World} (h : Frm (Two p q) w w') : Frm (Tri p q g) w w' := h.mono (fun k _ e => by rcases e with e | e; exact .inl e; exact .inr (.inl e))
theorem Tri.of_one {p q g : Nat} {w w' : World} (h : Frm (One g) w w') : Frm (Tri p q g) w w' := h.mono (fun _ _ e => .inr (.inr e))
theorem Tri.of_no {p q g : Nat} {w w' : World} (h : Frm NoB w w') : Frm (Tri p q g) w w' := h.mono (fun _ _ e => e.elim)
section
variable {w : World} {g gd p q c : Nat} {f : Nat → Int} {on count : Int} {over : Bool} {s : NorS} {d : DrvS}
theorem TalAt.ne (h : TalAt w g gd f on count over) (hn : NorAt w p q c s) : g ≠ p ∧ g ≠ q := by
  refine ⟨?_, ?_⟩
  · rintro rfl
    exact absurd (h.b.inj hn.blk).2 (by decide)
  · rintro rfl
    obtain ⟨cs, hb⟩ := hn.blkq
    exact absurd (h.b.inj hb).2 (by decide)
theorem TalAt.ned (h : TalAt w g gd f on count over) {p' : Nat} (hd : DrvAt w gd p' d) : gd ≠ g := by
  rintro rfl
  exact absurd (h.b.inj hd.b).2 (by decide)
theorem TalAt.two (h : TalAt w g gd f on count over) (hn : NorAt w p q c s) : ¬ Two p q g := fun e => by
  have := h.ne hn
  rcases e with e | e
  · exact this.1 e
  · exact this.2 e
theorem DrvAt.tri (hd : DrvAt w gd p d) (hn : NorAt w p q c s) (h : TalAt w g gd f on count over) : ¬ Tri p q g gd := fun e => by
  have h1 := hd.ne hn
  have h2 := h.ned hd
  rcases e with e | e | e
  · exact h1.1 e
  · exact h1.2 e
  · exact h2 e
def TwPost (w : World) (g gd p q c : Nat) (f : Nat → Int) (on count : Int) (over : Bool) (s : NorS) (d : DrvS) (bi : Int) (b : Nat) (l : List Int) (e : Ending) (w' : World) : Prop :=
  e = .returned (.int .i64 (d.wrE s bi l)) ∧ NorAt w' p q c (d.wr s bi l) ∧ TalAt w' g gd (if d.wrE s bi l = 0 then laidF f b l else f) on count over ∧ Frm (Tri p q g) w w'
theorem setRow_laid {w1 : World} {l : List Int} {k : Nat} (h : TalAt w1 g gd f on count over) (hk : k + l.length ≤ 128) :
    TalAt (w1.setRow g ((talCells gd f on count over).toList.take (1 + k) ++ ints .u32 l ++ (talCells gd f on count over).toList.drop (1 + k + (ints .u32 l).length)).toArray) g gd (laidF f k l) on count over := by
  refine ⟨?_⟩
  have := h.b.setRow ((talCells gd f on count over).toList.take (1 + k) ++ ints .u32 l ++ (talCells gd f on count over).toList.drop (1 + k + l.length)).toArray
  rw [ints_length]
  rwa [talCells_laid gd f on count over hk] at this ⊢
set_option maxRecDepth 100000 in
set_option maxHeartbeats 1000000 in
theorem twrite_0 (a : Nat) (A : Option Addr) (cp : Nat) (l : List Int) (hl : l ≠ []) (hal : a + l.length ≤ 64) (h : TalAt w g gd f on count over) (hg : DrvAt w gd p d) (hn : NorAt w p q c s) (hd : d.Ok s)
    (hx : Rd w A (ints .u32 l)) (hA : ∀ x, A = some x → ¬ Tri p q g x.block ∧ x.block < w.heap.size) (ul : U32 l) (hcp : l.length ≤ cp) :
    Calls Try.prog 36 #[.pointer (some ⟨g, 0, none⟩), .int .i64 0, .int .i64 a, .slice A l.length cp] w (TwPost w g gd p q c f on count over s d (a : Int) a l) := by
  have hpos : 0 < l.length := List.length_pos_iff.2 hl
  have KW := hide (dwrite_at (a : Int) A cp l.length l rfl hg hn hd hx (fun _ x hx => ⟨fun e => (hA x hx).1 (by rcases e with e | e; exact .inl e; exact .inr (.inl e)), (hA x hx).2⟩) ul hcp (by omega))
  have c0 := h.c0
  have HT := hide h
  have HN := hide hn
  have hk : (a : Int) ≤ 64 := by omega
  have hk' : ((64 : Nat) = a) = False := by simp; omega
  have hal' := tsec_len
  have hel := tsec_elem
  obtain ⟨b, o, rfl, hc⟩ := hx (ints_ne hl)
  have hc := hide hc
  have hA1 := hide (hA _ rfl)
  clear h hn hx hA hg hd ul
  obtain ⟨E, hE⟩ : ∃ E, d.wrE s a l = E := ⟨_, rfl⟩
  have HE := hide hE
  rw [hE] at KW
  clear hE
  by_cases h0 : E = 0
  · subst h0
    go_enter Try.func36, Try.ntmps36
    go_wp2_with fail
    refine KW.out.mono ?_
    rintro e w1 ⟨rfl, hn1, hF⟩
    have hT1 := HT.out.frm hF (HT.out.two HN.out)
    have HT1 := hide hT1
    have HN1 := hide hn1
    have HF := hide hF
    have hcp := run_copy_row (P := Try.prog) w1 31 31 3 37 g (1 + a) (64 - a) (64 - a) ⟨b, o, none⟩ l.length cp (talCells gd f on count over) 45 (ints .u32 l) Try.underlying31 word_size hT1.b
      (by rw [ints_length]; exact (Nat.min_eq_left (by omega)).symm) (fun j v hv => by rw [addr_add, hF.cell (p := ⟨b, o + j, none⟩) (show b < _ from hA1.out.2) (fun e => hA1.out.1 (by rcases e with e | e; exact .inl e; exact .inr (.inl e)))]; exact hc.out j v hv) (by rw [ints_length, talCells_size]; omega) ints_one
    clear hT1 hn1 hF
    go_wp2
    go_ret
    refine ⟨ret_int HE.out.symm, ?_, ?_, (Tri.of_two HF.out).setRow (.inl (.inr (.inr rfl))) _⟩
    · have hne := HT.out.ne HN.out
      exact (Hid.out HN1).frm (Frm.setRow (S := One g) (Frm.refl _ w1) (.inl rfl) _) (fun e => hne.1 e.symm) (fun e => hne.2 e.symm)
    · rw [if_pos HE.out]
      have h9 := setRow_laid (k := a) (l := l) HT1.out (by omega)
      rw [List.append_assoc] at h9
      exact h9
  · have t1 : (E == 0) = false := by simpa using h0
    have H0 := hide h0
    clear h0
    go_enter Try.func36, Try.ntmps36
    go_wp2_with fail
    refine KW.out.mono ?_
    rintro e w1 ⟨rfl, hn1, hF⟩
    have hT1 := HT.out.frm hF (HT.out.two HN.out)
    have HT1 := hide hT1
    have HN1 := hide hn1
    have HF := hide hF
    clear hT1 hn1 hF
    go_wp2
    go_ret
    refine ⟨ret_int HE.out.symm, HN1.out, ?_, Tri.of_two HF.out⟩
    rw [if_neg (by rw [HE.out]; exact H0.out)]
    exact HT1.out
set_option maxRecDepth 100000 in
set_option maxHeartbeats 1000000 in
theorem twrite_1 (a : Nat) (A : Option Addr) (cp : Nat) (l : List Int) (hl : l ≠ []) (hal : a + l.length ≤ 64) (h : TalAt w g gd f on count over) (hg : DrvAt w gd p d) (hn : NorAt w p q c s) (hd : d.Ok s)
    (hx : Rd w A (ints .u32 l)) (hA : ∀ x, A = some x → ¬ Tri p q g x.block ∧ x.block < w.heap.size) (ul : U32 l) (hcp : l.length ≤ cp) :
    Calls Try.prog 36 #[.pointer (some ⟨g, 0, none⟩), .int .i64 1, .int .i64 a, .slice A l.length cp] w (TwPost w g gd p q c f on count over s d (64 + (a : Int)) (64 + a) l) := by
  have hpos : 0 < l.length := List.length_pos_iff.2 hl
  have KW := hide (dwrite_at (64 + (a : Int)) A cp l.length l rfl hg hn hd hx (fun _ x hx => ⟨fun e => (hA x hx).1 (by rcases e with e | e; exact .inl e; exact .inr (.inl e)), (hA x hx).2⟩) ul hcp (by omega))
  have c0 := h.c0
  have HT := hide h
  have HN := hide hn
  have hk : (a : Int) ≤ 64 := by omega
  have hk' : ((64 : Nat) = a) = False := by simp; omega
  have hal' := tsec_len
  have hel := tsec_elem
  obtain ⟨b, o, rfl, hc⟩ := hx (ints_ne hl)
  have hc := hide hc
  have hA1 := hide (hA _ rfl)
  clear h hn hx hA hg hd ul
  obtain ⟨E, hE⟩ : ∃ E, d.wrE s (64 + (a : Int)) l = E := ⟨_, rfl⟩
  have HE := hide hE
  rw [hE] at KW
  clear hE
  by_cases h0 : E = 0
  · subst h0
    go_enter Try.func36, Try.ntmps36
    go_wp2_with fail
    refine KW.out.mono ?_
    rintro e w1 ⟨rfl, hn1, hF⟩
    have hT1 := HT.out.frm hF (HT.out.two HN.out)
    have HT1 := hide hT1
    have HN1 := hide hn1
    have HF := hide hF
    have hcp := run_copy_row (P := Try.prog) w1 31 31 3 37 g (65 + a) (64 - a) (64 - a) ⟨b, o, none⟩ l.length cp (talCells gd f on count over) 45 (ints .u32 l) Try.underlying31 word_size hT1.b
      (by rw [ints_length]; exact (Nat.min_eq_left (by omega)).symm) (fun j v hv => by rw [addr_add, hF.cell (p := ⟨b, o + j, none⟩) (show b < _ from hA1.out.2) (fun e => hA1.out.1 (by rcases e with e | e; exact .inl e; exact .inr (.inl e)))]; exact hc.out j v hv) (by rw [ints_length, talCells_size]; omega) ints_one
    clear hT1 hn1 hF
    go_wp2
    go_ret
    refine ⟨ret_int HE.out.symm, ?_, ?_, (Tri.of_two HF.out).setRow (.inl (.inr (.inr rfl))) _⟩
    · have hne := HT.out.ne HN.out
      exact (Hid.out HN1).frm (Frm.setRow (S := One g) (Frm.refl _ w1) (.inl rfl) _) (fun e => hne.1 e.symm) (fun e => hne.2 e.symm)
    · rw [if_pos HE.out]
      have h9 := setRow_laid (k := 64 + a) (l := l) HT1.out (by omega)
      rw [show 1 + (64 + a) = 65 + a from by omega, List.append_assoc] at h9
      exact h9
  · have t1 : (E == 0) = false := by simpa using h0
    have H0 := hide h0
    clear h0
    go_enter Try.func36, Try.ntmps36
    go_wp2_with fail
    refine KW.out.mono ?_
    rintro e w1 ⟨rfl, hn1, hF⟩
    have hT1 := HT.out.frm hF (HT.out.two HN.out)
    have HT1 := hide hT1
    have HN1 := hide hn1
    have HF := hide hF
    clear hT1 hn1 hF
    go_wp2
    go_ret
    refine ⟨ret_int HE.out.symm, HN1.out, ?_, Tri.of_two HF.out⟩
    rw [if_neg (by rw [HE.out]; exact H0.out)]
    exact HT1.out
end
end Go.Proofs.Ytmeegehmbphooaa
