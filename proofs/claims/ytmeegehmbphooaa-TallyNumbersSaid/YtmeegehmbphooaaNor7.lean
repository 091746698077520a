/-
  The flash: Rewrite, Crash.
-/
import Derived.Test.YtmeegehmbphooaaNor6
import Derived.Laws.CopyOwn
namespace Go.Proofs.Ytmeegehmbphooaa
open Go.RowKit
theorem sector_len : Try.prog.arrayLen 97 = 64 := by kernel_rfl
theorem sector_elem : Try.prog.elem 97 = 37 := by kernel_rfl
theorem word_size : (Try.prog.info? 37).map (·.size) = some 1 := by kernel_rfl
theorem ints_one {k : IntKind} {xs : List Int} : ∀ v ∈ ints k xs, v.oneCell' = true := by
  intro v hv
  simp only [ints, List.mem_map] at hv
  obtain ⟨x, _, rfl⟩ := hv
  rfl

section
variable {w : World} {p q c : Nat} {s : NorS}
set_option maxRecDepth 100000 in
set_option maxHeartbeats 1000000 in
theorem rewrite_is (sec k : Int) (A : Option Addr) (cp : Nat) (xs : List Int) (h : NorAt w p q c s) (hx : Rd w A (ints .u32 xs)) (ux : U32 xs) (hm : (xs.length : Int) ≤ 9223372036854775807) :
    Calls Try.prog 25 #[.pointer (some ⟨p, 0, none⟩), .int .i64 sec, .int .i64 k, .slice A xs.length cp] w fun e w' => e = .returned (.int .i64 (s.rewriteE sec k xs)) ∧ NorAt w' p q c (s.rewrite sec k xs) ∧ Frm (Two p q) w w' := by
  have hn := h.ok.n2
  have c0 := h.c0
  have c1 := h.c1
  by_cases ht : s.there sec k xs.length = true
  · by_cases hg : sec < s.guard
    · have E' : Hid (s.rewriteE sec k xs = 41) := by show _ = _; unfold NorS.rewriteE; rw [if_pos ht, if_pos hg]
      have E : Hid (s.rewrite sec k xs = s) := by show _ = _; unfold NorS.rewrite; rw [E'.out]; rfl
      have ht0 : (!s.there sec k xs.length) = false := by simpa using ht
      have H := hide h
      clear h hx ux ht
      go_enter Try.func25, Try.ntmps25
      go_wp2_with (first
        | (go_at_call 51; refine (none_is H.out).mono ?_; rintro e w' ⟨rfl, rfl⟩)
        | (go_at_call 56; refine (there_is _ _ _ H.out (by omega) (by omega)).mono ?_; rintro e w' ⟨rfl, rfl⟩))
      go_ret
      exact ⟨ret_int E'.out.symm, by rw [E.out]; exact H.out, Frm.refl _ _⟩
    · have E' : Hid (s.rewriteE sec k xs = 0) := by show _ = _; unfold NorS.rewriteE; rw [if_pos ht, if_neg hg]
      have E : Hid (s.rewrite sec k xs = { s with l := NorS.lay s.l (NorS.at_ sec k) xs }) := by show _ = _; unfold NorS.rewrite; rw [if_pos E'.out]
      have ht2 := ht
      unfold NorS.there at ht2
      simp only [Bool.and_eq_true, decide_eq_true_eq] at ht2
      obtain ⟨⟨⟨⟨i0, i1⟩, i2⟩, i3⟩, i4⟩ := ht2
      obtain ⟨S, rfl⟩ := Int.eq_ofNat_of_zero_le i0
      obtain ⟨K, rfl⟩ := Int.eq_ofNat_of_zero_le i2
      have H := hide h
      have hlen := h.ok.len
      clear h
      obtain ⟨cur, hq⟩ := (Hid.out H).blkq
      have HQ := hide hq
      clear hq
      have hfit : S * 64 + K + xs.length ≤ cur.size := by
        obtain ⟨cur', t, h1, h2⟩ := NorAt.rowOk (n := S * 64 + K + xs.length) H.out (by omega)
        obtain ⟨rfl, -⟩ := Blk.inj (show Blk w q _ cur' from h1) HQ.out
        exact h2
      have hal := sector_len
      have hel := sector_elem
      have hk : (K : Int) ≤ 64 := by omega
      have ht0 : (!s.there (↑S) (↑K) xs.length) = false := by simpa using ht
      by_cases he : xs = []
      · subst he
        have ht1 : (!s.there (↑S) (↑K) 0) = false := by simpa using ht
        have ht3 : ∀ m : Int, 0 ≤ m → m ≤ 9223372036854775807 → Calls Try.prog 56 #[.pointer (some ⟨p, 0, none⟩), .int .i64 S, .int .i64 K, .int .i64 m] w fun e w' => e = .returned (.bool (s.there S K m)) ∧ w = w' := fun m h1 h2 => there_is _ _ _ H.out h1 h2
        have HT := hide ht3
        have hcp := fun dp dLen dCap sp sCap => run_copy_none (P := Try.prog) w 31 31 3 37 dp sp dLen dCap 0 sCap Try.underlying31 word_size (by simp)
        clear hm i4 i3 hx ux ht ht0 ht3 hfit
        go_enter Try.func25, Try.ntmps25
        go_wp2_with (first
          | (go_at_call 51; refine (none_is H.out).mono ?_; rintro e w' ⟨rfl, rfl⟩)
          | (go_at_call 56; refine (HT.out _ (by simp) (by simp)).mono ?_; rintro e w' ⟨rfl, rfl⟩))
        all_goals
          go_ret
          refine ⟨ret_int E'.out.symm, ?_, Frm.refl _ _⟩
          rw [E.out]
          exact H.out
      · obtain ⟨b, o, rfl, hc⟩ := hx (ints_ne he)
        have hpos : 0 < xs.length := List.length_pos_iff.2 he
        have hk' : ((64 : Nat) = K) = False := by simp; omega
        have hcp := run_copy_row (P := Try.prog) w 31 31 3 37 q (S * 64 + K) (64 - K) (64 - K) ⟨b, o, none⟩ xs.length cp cur 97 (ints .u32 xs) Try.underlying31 word_size HQ.out
          (by rw [ints_length]; exact (Nat.min_eq_left (by omega)).symm) (fun j v hv => by rw [addr_add]; exact hc j v hv) (by rw [ints_length]; exact hfit) ints_one
        rw [ints_length] at hcp
        have HX := hide ux
        clear hx ux ht hc
        go_enter Try.func25, Try.ntmps25
        go_wp2_with (first
          | (go_at_call 51; refine (none_is H.out).mono ?_; rintro e w' ⟨rfl, rfl⟩)
          | (go_at_call 56; refine (there_is _ _ _ H.out (by omega) (by omega)).mono ?_; rintro e w' ⟨rfl, rfl⟩))
        go_ret
        refine ⟨ret_int E'.out.symm, ?_, (Frm.refl _ w).setRow (.inl (.inr rfl)) _⟩
        rw [E.out]
        have h3 := NorAt.laid H.out (NorS.at_ S K) xs HX.out (by simp [NorS.at_]; omega) cur HQ.out
        have e1 : NorS.at_ S K = S * 64 + K := by simp [NorS.at_]
        rw [e1, ints_length] at h3
        rw [e1]
        simpa using h3
  · have E' : Hid (s.rewriteE sec k xs = 2) := by show _ = _; unfold NorS.rewriteE; rw [if_neg ht]
    have E : Hid (s.rewrite sec k xs = s) := by show _ = _; unfold NorS.rewrite; rw [E'.out]; rfl
    have ht0 : (!s.there sec k xs.length) = true := by simpa using ht
    have H := hide h
    clear h hx ux ht
    go_enter Try.func25, Try.ntmps25
    go_wp2_with (first
      | (go_at_call 51; refine (none_is H.out).mono ?_; rintro e w' ⟨rfl, rfl⟩)
      | (go_at_call 56; refine (there_is _ _ _ H.out (by omega) (by omega)).mono ?_; rintro e w' ⟨rfl, rfl⟩))
    go_ret
    exact ⟨ret_int E'.out.symm, by rw [E.out]; exact H.out, Frm.refl _ _⟩
theorem rewrite_no (sec k : Int) (A : Option Addr) (cp n : Nat) (v : Value) (h : NoNor w v) :
    Calls Try.prog 25 #[v, .int .i64 sec, .int .i64 k, .slice A n cp] w fun e w' => e = .returned (.int .i64 1) ∧ w = w' := by
  have H := hide h
  clear h
  go_enter Try.func25, Try.ntmps25
  go_wp2_with (first
    | (go_at_call 51; refine (none_no _ _ H.out).mono ?_; rintro e w' ⟨rfl, rfl⟩))
  go_ret
  exact ⟨rfl, rfl⟩
end
end Go.Proofs.Ytmeegehmbphooaa
