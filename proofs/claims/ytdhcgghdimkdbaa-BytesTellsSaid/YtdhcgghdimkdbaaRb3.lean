/-
  The document's bytes: parts; Uint, Word, Blob.
-/
import Derived.Test.YtdhcgghdimkdbaaRb2
namespace Go.Proofs.Ytdhcgghdimkdbaa
open Go.RowKit
section
variable {w : World} {va vb : Value} {xs ys : List Int}
theorem GrewPost.by_ {w : World} {B : Nat} {sv : Value} {zs : List Int} {e : Ending} {w' : World} (h : GrewPost w B sv zs e w') : ∃ v, e = .returned v ∧ By w' v zs ∧ Frm (fun k => RowB sv k) w w' := by
  obtain ⟨v, rfl, hG⟩ := h
  exact ⟨v, rfl, hG.o.by_, hG.f⟩
theorem Grew.fresh {w w1 w' : World} {v : Value} {zs : List Int} (hf : Frm NoB w w1) (h : Grew w1 w1.heap.size (.slice none 0 0) v zs w') : Grew w w.heap.size (.slice none 0 0) v zs w' :=
  have p := Grew.pre hf h
  ⟨p.o.lower hf.size, p.f, p.k, fun g n c e => by cases e⟩
/-- new bytes -/
def Fresh (w : World) (zs : List Int) : Ending → World → Prop := GrewPost w w.heap.size (.slice none 0 0) zs
theorem uv_le (n : Nat) : (uv n).length ≤ 10 := by have := uv_length n; have := dg_le n; omega
theorem refUint_is (n : Nat) (hn : n < 18446744073709551616) (ha : By w va xs) (hl : xs.length ≤ 16777000) : Calls Try.prog 29 #[va, .int .u64 n] w (Fresh w (xs ++ uv n)) := by
  have HA := hide ha
  have HV := hide (varint_is (w := w) n hn)
  have HU := hide (uv_le n)
  clear ha hn
  go_enter Try.func29, Try.ntmps29
  go_wp2_with fail
  refine HV.out.mono ?_
  rintro e w1 ⟨v, rfl, hG⟩
  have HG := hide hG
  clear hG
  go_wp2_with fail
  refine (behind_is (HA.out.frm0 HG.out.new) HG.out.o.by_ (by have := HU.out; omega)).mono ?_
  rintro e w2 ⟨v2, rfl, hG2⟩
  have HG2 := hide hG2
  clear hG2
  go_wp2
  go_ret
  exact ⟨v2, rfl, Grew.fresh HG.out.new HG2.out⟩
theorem refBlob_is (ha : By w va xs) (hb : By w vb ys) (hl : xs.length + ys.length ≤ 16777000) : Calls Try.prog 31 #[va, vb] w (Fresh w (xs ++ uv ys.length ++ ys)) := by
  have HA := hide ha
  have HB := hide hb
  have HU := hide (uv_le ys.length)
  have hq : (ys.length : Int) % 18446744073709551616 = ys.length := by omega
  obtain ⟨B, cb, rfl, -⟩ := hb
  have HV := hide (varint_is (w := w) ys.length (by omega))
  clear ha
  go_enter Try.func31, Try.ntmps31
  go_wp2_with fail
  refine HV.out.mono ?_
  rintro e w1 ⟨v, rfl, hG⟩
  have HG := hide hG
  clear hG
  go_wp2_with fail
  refine (behind_is (HA.out.frm0 HG.out.new) HG.out.o.by_ (by have := HU.out; omega)).mono ?_
  rintro e w2 ⟨v2, rfl, hG2⟩
  have HG2 := hide hG2
  clear hG2
  go_wp2_with fail
  refine (behind_is HG2.out.o.by_ ((HB.out.frm0 HG.out.new).frm0 HG2.out.new) (by have := HU.out; rw [List.length_append]; omega)).mono ?_
  rintro e w3 ⟨v3, rfl, hG3⟩
  have HG3 := hide hG3
  clear hG3
  go_wp2
  go_ret
  exact ⟨v3, rfl, Grew.fresh HG.out.new (Grew.fresh HG2.out.new HG3.out)⟩
theorem refBlob_is' (ha : By w va xs) (hb : By w vb ys) (hl : xs.length + ys.length ≤ 16777000) : Calls Try.prog 31 #[va, vb] w (Fresh w (xs ++ (uv ys.length ++ ys))) := by
  rw [← List.append_assoc]; exact refBlob_is ha hb hl
def PaRel (w : World) (f : Nat → Int) (n : Int) (m i : Value) (wr : World) : Prop := ∃ j : Nat, j ≤ 4 ∧ i = .int .i64 j ∧ m = .int .u32 (n % 256 ^ (4 - j)) ∧ Fil wr w.heap.size f 4 j ∧ Frm NoB w wr
theorem parts_is (n : Int) (hn : 0 ≤ n ∧ n < 4294967296) : Calls Try.prog 45 #[.int .u32 n] w (Fresh w (wb n)) := by
  obtain ⟨i0, hi0, hz0, hz1, hz2⟩ := info_parts uint8_info
  obtain ⟨f, hf⟩ : ∃ f : Nat → Int, (fun i => (wb n).getD i 0) = f := ⟨_, rfl⟩
  have E0 : Hid (f 0 = n / 16777216) := by subst hf; rfl
  have E1 : Hid (f 1 = n / 65536 % 256) := by subst hf; rfl
  have E2 : Hid (f 2 = n / 256 % 256) := by subst hf; rfl
  have E3 : Hid (f 3 = n % 256) := by subst hf; rfl
  have EA : Hid ((List.range 4).map f = wb n) := by subst hf; rfl
  have HN := hide hn
  have n0 : n % 4294967296 = n := by omega
  clear hf
  go_enter Try.func45, Try.ntmps45
  go_wp2_with (at_make; refine wpList_make_row w rfl (.const (.int .i64 4)) (.const (.int .i64 4)) 23 rfl 5 i0 (.int .u8 0) Try.underlying23 hi0 hz0 hz1 rfl .i64 .i64 4 (by first | rfl | (simp; done)) (by first | rfl | (simp; done)) (by rw [hz2]; omega) (by omega) ?_)
  have HM := hide (Fil.made w f 4)
  have HF0 := hide ((Frm.refl NoB w).alloc (.cells (madeCells #[.int .u8 0] 4) 5))
  generalize w.alloc (.cells (madeCells #[.int .u8 0] 4) 5) = w1 at *
  obtain ⟨g, hg⟩ : ∃ g, w.heap.size = g := ⟨_, rfl⟩
  rw [hg] at HM ⊢
  go_loopw [0, 4] (fun m i wr => PaRel w f n m i wr) (fun _ i _ => 4 - (intOf i).toNat)
  case atStart => exact ⟨0, by omega, rfl, by rw [show (256 : Int) ^ (4 - 0) = 4294967296 from rfl, n0], by rw [hg]; exact HM.out, HF0.out⟩
  case round =>
    obtain ⟨j, hj, rfl, rfl, hFi, hF⟩ := hrel
    rw [hg] at hFi
    by_cases hlt : j < 4
    · have HFn := hide hFi.next
      have HF1 : Hid (∀ y, Frm NoB w (wr.setCell ⟨g, j, none⟩ y)) := fun y => hF.setNew (by omega) j y
      obtain ⟨old, c2⟩ := hFi.cell hlt
      have c3 := Blk.frozen hFi j
      clear hFi hF n0 hn
      match j, hlt with
      | 0, _ =>
        obtain ⟨M, hM⟩ : ∃ M, n % 256 ^ (4 - 0) = M := ⟨_, rfl⟩
        have h1 : 0 ≤ M ∧ M < 4294967296 := by rw [← hM]; exact ⟨Int.emod_nonneg _ (by decide), Int.emod_lt_of_pos _ (by decide)⟩
        have h2 : M / 16777216 = f 0 := by rw [E0.out, ← hM]; have := HN.out; simp only [Nat.reduceSub, Int.reducePow]; omega
        have h3 : M % 16777216 = n % 256 ^ (4 - 1) := by rw [← hM]; simp only [Nat.reduceSub, Int.reducePow]; omega
        obtain ⟨b0, b1⟩ := h1
        have hb : 0 ≤ f 0 ∧ f 0 < 256 := by rw [← h2]; omega
        have H3 := hide h3
        rw [hM]
        generalize f 0 = y at *
        clear hM h3
        go_wp2
        refine wp_loop_rounds 5 ?_
        repeat any_goals (rw [rounds_succ]; go_wp2)
        refine ⟨⟨1, by omega, rfl, congrArg (Value.int .u32) H3.out, by rw [hg]; exact HFn.out, HF1.out _⟩, ?_⟩
        · simp [intOf]
      | 1, _ =>
        obtain ⟨M, hM⟩ : ∃ M, n % 256 ^ (4 - 1) = M := ⟨_, rfl⟩
        have h1 : 0 ≤ M ∧ M < 16777216 := by rw [← hM]; exact ⟨Int.emod_nonneg _ (by decide), Int.emod_lt_of_pos _ (by decide)⟩
        have h2 : M / 65536 = f 1 := by rw [E1.out, ← hM]; have := HN.out; simp only [Nat.reduceSub, Int.reducePow]; omega
        have h3 : M % 65536 = n % 256 ^ (4 - 2) := by rw [← hM]; simp only [Nat.reduceSub, Int.reducePow]; omega
        obtain ⟨b0, b1⟩ := h1
        have hb : 0 ≤ f 1 ∧ f 1 < 256 := by rw [← h2]; omega
        have H3 := hide h3
        rw [hM]
        generalize f 1 = y at *
        clear hM h3
        go_wp2
        refine wp_loop_rounds 5 ?_
        repeat any_goals (rw [rounds_succ]; go_wp2)
        refine ⟨⟨2, by omega, rfl, congrArg (Value.int .u32) H3.out, by rw [hg]; exact HFn.out, HF1.out _⟩, ?_⟩
        · simp [intOf]
      | 2, _ =>
        obtain ⟨M, hM⟩ : ∃ M, n % 256 ^ (4 - 2) = M := ⟨_, rfl⟩
        have h1 : 0 ≤ M ∧ M < 65536 := by rw [← hM]; exact ⟨Int.emod_nonneg _ (by decide), Int.emod_lt_of_pos _ (by decide)⟩
        have h2 : M / 256 = f 2 := by rw [E2.out, ← hM]; have := HN.out; simp only [Nat.reduceSub, Int.reducePow]; omega
        have h3 : M % 256 = n % 256 ^ (4 - 3) := by rw [← hM]; simp only [Nat.reduceSub, Int.reducePow]; omega
        obtain ⟨b0, b1⟩ := h1
        have hb : 0 ≤ f 2 ∧ f 2 < 256 := by rw [← h2]; omega
        have H3 := hide h3
        rw [hM]
        generalize f 2 = y at *
        clear hM h3
        go_wp2
        refine wp_loop_rounds 5 ?_
        repeat any_goals (rw [rounds_succ]; go_wp2)
        refine ⟨⟨3, by omega, rfl, congrArg (Value.int .u32) H3.out, by rw [hg]; exact HFn.out, HF1.out _⟩, ?_⟩
        · simp [intOf]
      | 3, _ =>
        obtain ⟨M, hM⟩ : ∃ M, n % 256 ^ (4 - 3) = M := ⟨_, rfl⟩
        have h1 : 0 ≤ M ∧ M < 256 := by rw [← hM]; exact ⟨Int.emod_nonneg _ (by decide), Int.emod_lt_of_pos _ (by decide)⟩
        have h2 : M / 1 = f 3 := by rw [E3.out, ← hM]; have := HN.out; simp only [Nat.reduceSub, Int.reducePow]; omega
        have h3 : M % 1 = n % 256 ^ (4 - 4) := by rw [← hM]; simp only [Nat.reduceSub, Int.reducePow]; omega
        obtain ⟨b0, b1⟩ := h1
        have hb : 0 ≤ f 3 ∧ f 3 < 256 := by rw [← h2]; omega
        have H3 := hide h3
        rw [hM]
        generalize f 3 = y at *
        clear hM h3
        go_wp2
        refine wp_loop_rounds 5 ?_
        repeat any_goals (rw [rounds_succ]; go_wp2)
        refine ⟨⟨4, by omega, rfl, congrArg (Value.int .u32) ((show (0 : Int) = M % 1 by omega).trans H3.out), by rw [hg, show M = y from by omega]; exact HFn.out, HF1.out _⟩, ?_⟩
        · simp [intOf]
    · obtain rfl : j = 4 := by omega
      have HFi := hide hFi
      have HF := hide hF
      clear hFi hF n0 hn
      go_wp2
      go_ret
      refine ⟨_, rfl, ?_⟩
      have h := HFi.out
      rw [← hg] at h ⊢
      exact h.grew HF.out EA.out (wb_u8 HN.out) (by omega)
theorem refWord_is (n : Int) (hn : 0 ≤ n ∧ n < 4294967296) (ha : By w va xs) (hl : xs.length ≤ 16777000) : Calls Try.prog 30 #[va, .int .u32 n] w (Fresh w (xs ++ wb n)) := by
  have HA := hide ha
  have HV := hide (parts_is (w := w) n hn)
  clear ha hn
  go_enter Try.func30, Try.ntmps30
  go_wp2_with fail
  refine HV.out.mono ?_
  rintro e w1 ⟨v, rfl, hG⟩
  have HG := hide hG
  clear hG
  go_wp2_with fail
  refine (behind_is (HA.out.frm0 HG.out.new) HG.out.o.by_ (by rw [wb_length]; omega)).mono ?_
  rintro e w2 ⟨v2, rfl, hG2⟩
  have HG2 := hide hG2
  clear hG2
  go_wp2
  go_ret
  exact ⟨v2, rfl, Grew.fresh HG.out.new HG2.out⟩
end
end Go.Proofs.Ytdhcgghdimkdbaa
