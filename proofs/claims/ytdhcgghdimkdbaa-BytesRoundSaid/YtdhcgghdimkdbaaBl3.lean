/-
  Pieces that are written down, and read back.
-/
import Derived.Test.YtdhcgghdimkdbaaBl2
import Derived.Test.YtdhcgghdimkdbaaBytL
namespace Go.Proofs.Ytdhcgghdimkdbaa
open Go.RowKit
/-- something to be written down -/
structure PcS where
  kind : Int
  n : Nat
  b : List Int
/-- as it is written down -/
def PcS.wrt (p : PcS) : List Int := if p.kind = 1 then wb ((p.n : Int) % 4294967296) else if p.kind = 2 then uv p.b.length ++ p.b else uv p.n
structure PcS.Ok (p : PcS) : Prop where
  k0 : 0 ≤ p.kind
  k1 : p.kind ≤ 255
  n : p.n < 18446744073709551616
  u : U8 p.b
  l : p.b.length ≤ 100
theorem uv_len_le (n : Nat) : 1 ≤ (uv n).length ∧ (uv n).length ≤ 10 := by
  have := dg_le n; rw [uv_length]; omega
theorem PcS.wrt_len {p : PcS} (h : p.Ok) : 1 ≤ p.wrt.length ∧ p.wrt.length ≤ 110 := by
  have h1 := uv_len_le p.b.length; have h2 := uv_len_le p.n; have h3 := h.l
  unfold PcS.wrt
  split
  · rw [wb_length]; omega
  split
  · rw [List.length_append]; omega
  · omega
theorem PcS.wrt_u8 {p : PcS} (h : p.Ok) : U8 p.wrt := by
  have h3 := h.l
  unfold PcS.wrt
  split
  · exact wb_u8 (by omega)
  split
  · exact (uv_u8 (by omega)).append h.u
  · exact uv_u8 h.n
theorem wv_wb {n : Int} (h : 0 ≤ n ∧ n < 4294967296) (r : List Int) : wv (wb n ++ r) = n := by
  unfold wv wb
  simp only [List.cons_append, List.getD_cons_zero, List.getD_cons_succ]
  omega
/-- a number that stands there -/
theorem reads_uint {X r : List Int} {a n : Nat} (hn : n < 18446744073709551616) (ha : a ≤ X.length) (hd : X.drop a = uv n ++ r) : gE X a = 0 ∧ gN X a = n ∧ gX X a = ((a + (uv n).length : Nat) : Int) := by
  obtain ⟨h1, h2, h3⟩ := gu_uv hn r
  have e : gE X a = 0 := by unfold gE; rw [if_pos (by omega), Int.toNat_natCast, hd, h1]
  refine ⟨e, ?_, ?_⟩
  · unfold gN; rw [if_pos e, Int.toNat_natCast, hd, h2]
  · unfold gX; rw [if_pos e, Int.toNat_natCast, hd]; omega
theorem reads_word {X r : List Int} {a : Nat} {n : Int} (hn : 0 ≤ n ∧ n < 4294967296) (ha : a ≤ X.length) (hd : X.drop a = wb n ++ r) : wE X a = 0 ∧ wN X a = n ∧ wX X a = ((a + 4 : Nat) : Int) := by
  have hl : (X.drop a).length = X.length - a := List.length_drop
  rw [hd, List.length_append, wb_length] at hl
  have e : wE X a = 0 := by unfold wE; rw [if_pos (by omega), if_neg (by omega)]
  refine ⟨e, ?_, ?_⟩
  · unfold wN; rw [if_pos e, Int.toNat_natCast, hd, wv_wb hn]
  · unfold wX; rw [if_pos e]; omega
theorem reads_blob {X r b : List Int} {a : Nat} (hb : b.length < 18446744073709551616) (ha : a ≤ X.length) (hd : X.drop a = uv b.length ++ b ++ r) (most : Int) (hm : (b.length : Int) ≤ most) :
    bE X a most = 0 ∧ bB X a most = b ∧ bX X a most = ((a + (uv b.length ++ b).length : Nat) : Int) := by
  rw [List.append_assoc] at hd
  obtain ⟨h1, h2, h3⟩ := reads_uint hb ha hd
  have hl : (X.drop a).length = X.length - a := List.length_drop
  rw [hd, List.length_append, List.length_append] at hl
  have e : bE X a most = 0 := by unfold bE; rw [if_pos h1, h2, h3, if_neg (by omega), if_neg (by omega)]
  refine ⟨e, ?_, ?_⟩
  · unfold bB; rw [if_pos e, h2, h3, Int.toNat_natCast, Int.toNat_natCast, ← List.drop_drop, hd, List.drop_left, List.take_left]
  · unfold bX; rw [if_pos e, h2, h3, List.length_append]; omega
/-- what is known of a piece that came in -/
structure PcIn (W : World) (p : PcS) (v : Value) : Prop where
  y : By W v p.b
  k : p.b ≠ [] → ∀ k, RowB v k → k < W.heap.size
  k0 : 0 ≤ p.kind
  k1 : p.kind ≤ 255
  n : p.n < 18446744073709551616
theorem PcIn.ok {W : World} {p : PcS} {v : Value} (h : PcIn W p v) (hl : p.b.length ≤ 100) : p.Ok := ⟨h.k0, h.k1, h.n, h.y.u, hl⟩
/-- pieces in a row; their bytes lie below block B -/
structure PcAt (w : World) (B bl o : Nat) (ps : List PcS) : Prop where
  at_ : ∀ i (h : i < ps.length), ∃ v, By w v (ps[i]'h).b ∧ ((ps[i]'h).b ≠ [] → ∀ k, RowB v k → k < B) ∧
    w.cell? ⟨bl, o + i * 3, none⟩ = some (.int .u8 (ps[i]'h).kind) ∧ w.cell? ⟨bl, o + i * 3 + 1, none⟩ = some (.int .u64 (ps[i]'h).n) ∧ w.cell? ⟨bl, o + i * 3 + 2, none⟩ = some v
def wrtAll (ps : List PcS) : List Int := ps.flatMap PcS.wrt
theorem wrtAll_next {ps : List PcS} {j : Nat} (h : j < ps.length) : wrtAll (ps.take (j + 1)) = wrtAll (ps.take j) ++ (ps[j]'h).wrt := by
  unfold wrtAll
  rw [List.take_succ_eq_append_getElem h, List.flatMap_append]
  simp
theorem wrtAll_len : ∀ (ps : List PcS), (∀ p ∈ ps, p.Ok) → (wrtAll ps).length ≤ 110 * ps.length
  | [], _ => by simp [wrtAll]
  | p :: r, h => by
    have := wrtAll_len r (fun q hq => h q (List.mem_cons_of_mem _ hq))
    have := (PcS.wrt_len (h p List.mem_cons_self)).2
    show ((p :: r).flatMap PcS.wrt).length ≤ _
    rw [List.flatMap_cons, List.length_append, List.length_cons]
    unfold wrtAll at this
    have h3 : (r.flatMap PcS.wrt).length ≤ 110 * r.length := wrtAll_len r (fun q hq => h q (List.mem_cons_of_mem _ hq))
    omega
section
variable {w : World} {B : Nat} {sv : Value} {xs : List Int}
def WrtRel (w : World) (B : Nat) (sv : Value) (xs : List Int) (ps : List PcS) (v i : Value) (wr : World) : Prop := ∃ j : Nat, j ≤ ps.length ∧ i = .int .i64 j ∧ Grew w B sv v (xs ++ wrtAll (ps.take j)) wr
set_option maxHeartbeats 2000000 in
theorem written_is (bl o n c : Nat) (A : Option Addr) (ps : List PcS) (hA : ps ≠ [] → A = some ⟨bl, o, none⟩) (hp : PcAt w B bl o ps) (hbl : ps ≠ [] → bl < B) (hok : ∀ p ∈ ps, p.Ok) (ho : Ob w B sv xs) (hB : B ≤ w.heap.size) (hn : ps.length = n) (hl : xs.length + 110 * n ≤ 16000000) :
    Calls Try.prog 32 #[sv, .slice A n c] w (GrewPost w B sv (xs ++ wrtAll ps)) := by
  subst hn
  have HP := hide hp
  have HO := hide ho
  have HK := hide hok
  clear hp ho hok
  go_enter Try.func32, Try.ntmps32
  go_wp2
  go_loopw [0, 9] (fun v i wr => WrtRel w B sv xs ps v i wr) (fun _ i _ => ps.length - (intOf i).toNat)
  case atStart => exact ⟨0, by omega, rfl, by rw [List.take_zero]; show Grew w B sv sv (xs ++ []) w; rw [List.append_nil]; exact Grew.refl HO.out⟩
  case round =>
    obtain ⟨j, hj, rfl, hG⟩ := hrel
    have HG := hide hG
    have hsz := hG.f.size
    clear hG
    by_cases hlt : j < ps.length
    · have hbl := hbl (by intro e; rw [e] at hlt; simp at hlt)
      obtain rfl := hA (by intro e; rw [e] at hlt; simp at hlt)
      obtain ⟨v, hb, hbk, k0, k1, k2⟩ := HP.out.at_ j hlt
      have hS : ¬ RowB sv bl := fun e => by have := (HO.out.lo e).1; omega
      have c0 := (HG.out.f.cell (World.block_lt_of_cell? w _ k0) hS).trans k0
      have c1 := (HG.out.f.cell (World.block_lt_of_cell? w _ k1) hS).trans k1
      have c2 := (HG.out.f.cell (World.block_lt_of_cell? w _ k2) hS).trans k2
      have pk := HK.out _ (List.getElem_mem hlt)
      have HBr := hide (hb.frm1 HG.out.f (fun hne k hk e => by have := hbk hne k hk; have := (HO.out.lo e).1; omega))
      have hnext := wrtAll_next hlt
      have hlen := wrtAll_len (ps.take j) (fun p hp => HK.out p (List.mem_of_mem_take hp))
      have htl : (ps.take j).length = j := by rw [List.length_take]; omega
      obtain ⟨p, hp⟩ : ∃ p, ps[j]'hlt = p := ⟨_, rfl⟩
      rw [hp] at pk c0 c1 HBr hbk hnext
      obtain ⟨kind, pn, pb⟩ := p
      simp only at c0 c1 HBr hbk
      obtain ⟨p0, p1, p2, p3, p4⟩ := pk
      simp only at p0 p1 p2 p3 p4
      obtain ⟨Av, cv, rfl, -⟩ := HBr.out
      have i0 : (0 : Int) ≤ (j : Int) := by omega
      have i1 : (j : Int) < (ps.length : Int) := by omega
      rw [htl] at hlen
      have hxl : (xs ++ wrtAll (ps.take j)).length ≤ 16000000 := by rw [List.length_append]; omega
      have HNX := hide hnext
      have HXL := hide hxl
      have HBK := hide hbk
      have HF := hide ((Frm.refl NoB wr).alloc (.cells #[.int .u8 kind, .int .u64 pn, .slice Av pb.length cv] 54))
      have hBw : B ≤ wr.heap.size := by omega
      clear k0 k1 k2 hb hp hnext hxl hbk hlen htl hS
      by_cases e1 : kind = 1
      · subst e1
        go_wp2_with fail
        refine (bword_is ((pn : Int) % 4294967296) (by omega) (HG.out.o.frm0 HF.out) (by have := HXL.out; omega) (by simp; omega)).mono ?_
        rintro e w2 ⟨v2, rfl, hG2⟩
        have HG2 := hide (HG.out.trans (hG2.pre HF.out))
        clear hG2
        go_wp2
        go_roundw
        case rel =>
          refine ⟨j + 1, by omega, by go_num, ?_⟩
          have := HG2.out
          rw [HNX.out, ← List.append_assoc]
          exact this
        case measure => simp [intOf]; omega
      by_cases e2 : kind = 2
      · subst e2
        go_wp2_with fail
        refine (bblob_is (HG.out.o.frm0 HF.out) (HBr.out.frm0 HF.out) (fun hne k hk e => by have := HBK.out hne k hk; have := (HG.out.o.lo e).1; omega) (by have := HXL.out; omega) (by simp; omega)).mono ?_
        rintro e w2 ⟨v2, rfl, hG2⟩
        have HG2 := hide (HG.out.trans (hG2.pre HF.out))
        clear hG2
        go_wp2
        go_roundw
        case rel =>
          refine ⟨j + 1, by omega, by go_num, ?_⟩
          have := HG2.out
          rw [HNX.out, ← List.append_assoc]
          exact this
        case measure => simp [intOf]; omega
      have b1 : (kind == 1) = false := by rw [beq_eq_false_iff_ne]; exact e1
      have b2 : (kind == 2) = false := by rw [beq_eq_false_iff_ne]; exact e2
      have HW : Hid (PcS.wrt ⟨kind, pn, pb⟩ = uv pn) := by show _ = _; unfold PcS.wrt; rw [if_neg e1, if_neg e2]
      go_wp2_with fail
      refine (buint_is pn p2 (HG.out.o.frm0 HF.out) (by have := HXL.out; omega) (by simp; omega)).mono ?_
      rintro e w2 ⟨v2, rfl, hG2⟩
      have HG2 := hide (HG.out.trans (hG2.pre HF.out))
      clear hG2
      go_wp2
      go_roundw
      case rel =>
        refine ⟨j + 1, by omega, by go_num, ?_⟩
        have := HG2.out
        rw [HNX.out, HW.out, ← List.append_assoc]
        exact this
      case measure => simp [intOf]; omega
    · obtain rfl : j = ps.length := by omega
      have := HG.out
      rw [List.take_length] at this
      have HG2 := hide this
      go_wp2
      go_ret
      exact ⟨u0, rfl, HG2.out⟩
end
end Go.Proofs.Ytdhcgghdimkdbaa
