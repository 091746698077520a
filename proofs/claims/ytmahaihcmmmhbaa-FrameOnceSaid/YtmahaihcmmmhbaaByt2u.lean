/-
  bytes: Uint, Blob.
-/
import Derived.Test.YtmahaihcmmmhbaaByt1
import Derived.Test.YtmahaihcmmmhbaaByGp
import Derived.Lib.Varint
namespace Go.Proofs.Ytmahaihcmmmhbaa
open Go.RowKit
section
variable {w : World} {B : Nat} {sv vx : Value} {xs ys : List Int}
def UintRel (w : World) (B : Nat) (sv : Value) (xs : List Int) (n d : Nat) (v i : Value) (wr : World) : Prop := ∃ j : Nat, j ≤ d ∧ i = .int .i64 j ∧ Grew w B sv v (xs ++ (uv n).take j) wr
theorem pow7 (j : Nat) : ((2 : Int) ^ (7 * j)) = ((128 ^ j : Nat) : Int) := by
  rw [Int.pow_mul, Int.natCast_pow]; rfl
theorem digit_more {n j : Nat} (h : j < dg n) : bits .or .u8 ((n : Int) / 2 ^ (7 * j) % 256) 128 = (uv n).getD j 0 := by
  have e : (n : Int) / ((128 ^ j : Nat) : Int) = ((n / 128 ^ j : Nat) : Int) := (Int.natCast_ediv _ _).symm
  rw [pow7, uv_get h, e]
  rw [Lib.u8_or128_any _ (by omega) (by omega)]
  omega
theorem digit_last {n : Nat} (h : n < 18446744073709551616) : (n : Int) / 2 ^ (7 * dg n) % 256 = (uv n).getD (dg n) 0 := by
  have := uv_last_lt h
  have e : (n : Int) / ((128 ^ dg n : Nat) : Int) = ((n / 128 ^ dg n : Nat) : Int) := (Int.natCast_ediv _ _).symm
  rw [pow7, uv_last, e]
  clear e
  generalize n / 128 ^ dg n = q at *
  omega
theorem buint_is (n : Nat) (hn : n < 18446744073709551616) (ho : Ob w B sv xs) (hl : xs.length ≤ 16777000) (hB : B ≤ w.heap.size) :
    Calls Try.prog 59 #[sv, .int .u64 n] w (GrewPost w B sv (xs ++ uv n)) := by
  have HO := hide ho
  have HB := hide hB
  have HU := hide (uv_u8 hn)
  have hdg := dg_le n
  have hul := uv_length n
  have E1 : Hid (∀ j, j < dg n → bits .or .u8 ((n : Int) / 2 ^ (7 * j) % 256) 128 = (uv n).getD j 0) := fun j h => digit_more h
  have E2 : Hid _ := digit_last hn
  have HD := hide (digits_is n hn w)
  have HLx := hide hl
  obtain ⟨d, hd⟩ : ∃ d, dg n = d := ⟨_, rfl⟩
  rw [hd] at hdg hul E1 E2 HD
  have HUL := hide hul
  clear ho hB hd hul hl
  go_enter Try.func59, Try.ntmps59
  go_wp2_with fail
  refine HD.out.mono ?_
  rintro e w' ⟨rfl, rfl⟩
  have hw1 : IntKind.i64.wrap (((d + 1 : Nat) : Int) - 1) = (d : Int) := by
    rw [show (((d + 1 : Nat) : Int) - 1) = (d : Int) from by omega]; exact IntWalk.i64_in _ (by omega)
  go_wp2_with fail
  go_loopw [0, 11] (fun v i wr => UintRel w' B sv xs n d v i wr) (fun _ i _ => d - (intOf i).toNat)
  case atStart => exact ⟨0, by omega, rfl, by rw [List.take_zero, List.append_nil]; exact Grew.refl HO.out⟩
  case round =>
    obtain ⟨j, hj, rfl, hG⟩ := hrel
    have HG := hide hG
    have HSZ := hide hG.f.size
    have HUj := hide (HU.out.get j)
    clear hG
    by_cases hlt : j < d
    · have e1 := E1.out j hlt
      have HN := hide (take_next (l := uv n) (j := j) (by have := HUL.out; omega))
      have HLj : Hid (((uv n).take j).length = j) := by show _ = _; rw [List.length_take]; have := HUL.out; omega
      generalize (uv n).getD j 0 = y at *
      generalize hT1 : (uv n).take (j + 1) = t1 at *
      have HT1 := hide hT1
      clear hT1
      generalize (uv n).take j = t0 at *
      go_wp2_with (at_builtin; refine append_bytes rfl (.tmp 14) (.tmp 21) rfl B u0 _ (xs ++ t0) [y] rfl rfl (HG.out.o.frm0 ((Frm.refl NoB wr).alloc _)) (by_lit wr [y] (U8.cons HUj.out U8.nil) (by simp) _ rfl 1 rfl) (by have h1 := HLj.out; have h2 := HLx.out; rw [List.length_append, h1]; simp only [List.length_singleton]; omega) (by have := HSZ.out; have := HB.out; simp; omega) ?_; intro v' w1 hg)
      have HG1 := hide ((HG.out.frm ((Frm.refl NoB wr).alloc (.cells #[.int .u8 y] 5))).trans hg)
      clear hg
      go_wp2
      go_roundw
      case rel =>
        refine ⟨j + 1, by omega, by go_num, ?_⟩
        have := HG1.out
        rw [List.append_assoc, HN.out] at this
        rw [HT1.out]
        exact this
      case measure => simp [intOf]; omega
    · obtain rfl : j = d := by omega
      have e2 := E2.out
      have HN := hide (take_next (l := uv n) (j := j) (by have := HUL.out; omega))
      have HLj : Hid (((uv n).take j).length = j) := by show _ = _; rw [List.length_take]; have := HUL.out; omega
      have HT : Hid ((uv n).take (j + 1) = uv n) := by show _ = _; rw [← HUL.out, List.take_length]
      generalize (uv n).getD j 0 = y at *
      generalize (uv n).take (j + 1) = t1 at *
      generalize (uv n).take j = t0 at *
      go_wp2_with (at_builtin; refine append_bytes rfl (.tmp 24) (.tmp 30) rfl B u0 _ (xs ++ t0) [y] rfl rfl (HG.out.o.frm0 ((Frm.refl NoB wr).alloc _)) (by_lit wr [y] (U8.cons HUj.out U8.nil) (by simp) _ rfl 1 rfl) (by have h1 := HLj.out; have h2 := HLx.out; rw [List.length_append, h1]; simp only [List.length_singleton]; omega) (by have := HSZ.out; have := HB.out; simp; omega) ?_; intro v' w1 hg)
      have HG1 := hide ((HG.out.frm ((Frm.refl NoB wr).alloc (.cells #[.int .u8 y] 5))).trans hg)
      clear hg
      go_ret
      refine ⟨v', rfl, ?_⟩
      have := HG1.out
      rw [List.append_assoc, HN.out, HT.out] at this
      exact this
theorem bblob_is (ho : Ob w B sv xs) (hy : By w vx ys) (hd : ys ≠ [] → ∀ k, RowB vx k → ¬ RowB sv k) (hl : xs.length + ys.length ≤ 16770000) (hB : B ≤ w.heap.size) :
    Calls Try.prog 40 #[sv, vx] w (GrewPost w B sv (xs ++ (uv ys.length ++ ys))) := by
  have HO := hide ho
  have HY := hide hy
  have HDis := hide hd
  have HLn : Hid (ys.length < 18446744073709551616) := hide (by omega)
  have hul := uv_length ys.length
  have hdg := dg_le ys.length
  have hu : (uv ys.length).length ≤ 10 := by omega
  have hw : IntKind.u64.wrap (ys.length : Int) = ys.length := by
    have e : IntKind.u64.wrap (ys.length : Int) = (ys.length : Int) % 18446744073709551616 := by simp [IntKind.wrap, IntKind.bits, IntKind.signed]
    rw [e]; omega
  have hm : (ys.length : Int) % 18446744073709551616 = ys.length := by omega
  obtain ⟨A, c, rfl, -⟩ := hy
  clear ho hd hul hdg
  go_enter Try.func40, Try.ntmps40
  go_wp2_with fail
  refine (buint_is ys.length HLn.out HO.out (by omega) hB).mono ?_
  rintro e w1 ⟨v1, rfl, hG⟩
  have HG := hide hG
  have hsz := hG.f.size
  clear hG
  go_wp2_with (at_builtin; refine append_bytes rfl (.tmp 10) (.tmp 11) rfl B v1 _ (xs ++ uv ys.length) ys rfl rfl HG.out.o (HY.out.frm1 HG.out.f HDis.out) (by rw [List.length_append]; omega) (by omega) ?_; intro v' w2 hg)
  go_ret
  refine ⟨v', rfl, ?_⟩
  have := HG.out.trans hg
  rw [List.append_assoc] at this
  exact this
end
end Go.Proofs.Ytmahaihcmmmhbaa
