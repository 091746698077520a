/-
  The drive: Read at any place; Blank.
-/
import Derived.Test.YtmeegehmbphooaaDrv3
import Derived.Test.YtmeegehmbphooaaDrvEq
namespace Go.Proofs.Ytmeegehmbphooaa
open Go.RowKit
theorem NoDrv.frm {w w' : World} {v : Value} (h : NoDrv w v) (hf : Frm NoB w w') : NoDrv w' v := by
  rcases h with rfl | ⟨g, rfl, hc⟩
  · exact .inl rfl
  · exact .inr ⟨g, rfl, (hf.cell (World.block_lt_of_cell? w _ hc) (fun e => e)).trans hc⟩
section
variable {w : World} {g p q c : Nat} {s : NorS} {d : DrvS}
theorem dread_is (a m : Int) (h : DrvAt w g p d) (hn : NorAt w p q c s) (hd : d.Ok s) :
    Calls Try.prog 11 #[.pointer (some ⟨g, 0, none⟩), .int .i64 a, .int .i64 m] w (DrdPost w d s a m) := by
  by_cases he : d.rdE s a m = 0
  · obtain ⟨_, h1, h2, _, _⟩ := DrvS.rdE_zero he
    obtain ⟨A, rfl⟩ := Int.eq_ofNat_of_zero_le h1
    obtain ⟨M, rfl⟩ := Int.eq_ofNat_of_zero_le h2
    exact dread_ok A M h hn hd he
  · exact dread_bad a m h hn hd he
/-- .. of none -/
theorem dread_no (a m : Int) (v : Value) (h : NoDrv w v) :
    Calls Try.prog 11 #[v, .int .i64 a, .int .i64 m] w fun e w' => e = .returned (.tuple #[.slice none 0 0, .int .i64 1]) ∧ Frm NoB w w' := by
  have hv : ∃ X, v = .pointer X := by rcases h with rfl | ⟨g, rfl, _⟩ <;> exact ⟨_, rfl⟩
  obtain ⟨X, rfl⟩ := hv
  have H := hide (h.frm ((((Frm.refl NoB w).alloc (.cells #[.pointer X] 24)).alloc (.cells #[.slice none 0 0] 31)).alloc (.cells #[.int .i64 0] 29)))
  clear h
  refine calls_marks Try.func11 rfl ?_
  simp only [Try.ntmps11, List.size_toArray, List.length_cons, List.length_nil, Nat.reduceAdd, Nat.reduceSub, Array.replicate_succ, Array.replicate_zero, List.push_toArray, List.append_toArray, List.nil_append, List.cons_append]
  go_wp2_with (go_at_call 40; refine (dthere_no _ _ _ H.out).mono ?_; rintro e w' ⟨rfl, rfl⟩)
  refine postM_ret (v := .tuple #[.slice none 0 0, .int .i64 1]) (by simp [results, Try.results11, go_sem]) rfl ⟨rfl, (((Frm.refl NoB w).alloc _).alloc _).alloc _⟩
theorem dblank_is (a m : Int) (h : DrvAt w g p d) (hn : NorAt w p q c s) (hd : d.Ok s) :
    Calls Try.prog 32 #[.pointer (some ⟨g, 0, none⟩), .int .i64 a, .int .i64 m] w fun e w' => e = .returned (.bool (d.blank s a m)) ∧ Frm NoB w w' := by
  have HR := hide (dread_is a m h hn hd)
  have hlen : ((d.rd s a m).length : Int) ≤ 9223372036854775807 := by
    unfold DrvS.rd DrvS.words
    split
    · rename_i he
      obtain ⟨_, h1, h2, h3, h4⟩ := DrvS.rdE_zero he
      have := hd.n; have := hn.ok.n2
      simp; omega
    · simp
  have HL := hide hlen
  clear h hn hd hlen
  by_cases he : d.rdE s a m = 0
  · have E : Hid (d.blank s a m = !((d.rd s a m).any (fun x => x != 4294967295))) := by
      show _ = _
      unfold DrvS.blank
      rw [he, List.not_any_eq_all_not]
      simp [bne]
    obtain ⟨l, hl⟩ : ∃ l, d.rd s a m = l := ⟨_, rfl⟩
    go_enter Try.func32, Try.ntmps32
    go_wp2_with (first
      | (go_at_call 11; refine HR.out.mono ?_; rintro e w' ⟨A, cp, h1, hRd, hA, hcp, hF⟩; rw [he, hl] at h1; rw [hl] at hRd; subst h1; have HRd := hide hRd; have HF := hide hF; clear hRd hA hcp hF)
      | (go_at_call 64; refine (contains_is l _ _ _ (HRd.out) (by rw [← hl]; exact HL.out)).mono ?_; rintro e w' ⟨rfl, rfl⟩))
    go_ret
    exact ⟨ret_bool (by rw [E.out, hl]), HF.out⟩
  · have E : Hid (d.blank s a m = false) := by
      show _ = _
      unfold DrvS.blank
      rw [decide_eq_false he]; rfl
    have hb : (d.rdE s a m == 0) = false := by simpa using he
    obtain ⟨l, hl⟩ : ∃ l, d.rd s a m = l := ⟨_, rfl⟩
    obtain ⟨k, hk⟩ : ∃ k, d.rdE s a m = k := ⟨_, rfl⟩
    rw [hk] at hb
    go_enter Try.func32, Try.ntmps32
    go_wp2_with (first
      | (go_at_call 11; refine HR.out.mono ?_; rintro e w' ⟨A, cp, h1, hRd, hA, hcp, hF⟩; rw [hk, hl] at h1; rw [hl] at hRd; subst h1; have HRd := hide hRd; have HF := hide hF; clear hRd hA hcp hF))
    go_ret
    exact ⟨ret_bool E.out.symm, HF.out⟩
theorem dblank_no (a m : Int) (v : Value) (h : NoDrv w v) :
    Calls Try.prog 32 #[v, .int .i64 a, .int .i64 m] w fun e w' => e = .returned (.bool false) ∧ Frm NoB w w' := by
  have HR := hide (dread_no a m v h)
  clear h
  go_enter Try.func32, Try.ntmps32
  go_wp2_with (go_at_call 11; refine HR.out.mono ?_; rintro e w' ⟨rfl, hF⟩; have HF := hide hF; clear hF)
  go_ret
  exact ⟨rfl, HF.out⟩
end
end Go.Proofs.Ytmeegehmbphooaa
