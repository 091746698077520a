/-
  drive.pieces: its iterator's contract.
-/
import Derived.Test.YtmeegehmbphooaaRoundOp
import Derived.Test.YtmeegehmbphooaaPieceP
import Derived.Shelf.RegionOpen
import Derived.IntWalk
namespace Go.Proofs.Ytmeegehmbphooaa
open Go.RowKit
attribute [local go_sem] Oper.semAt_some

/-- what a round is handed: a sector, a place in it, how many words -/
def pieceV (first a m j : Nat) : Array Value := #[.agg #[.int .i64 ((first : Int) + (pcur a m j : Int) / 64), .int .i64 ((pcur a m j : Int) % 64)], .int .i64 (plen a m j)]
/-- how many words are left -/
def leftOf (bm : Nat) (w : World) : Nat := match w.cell? ⟨bm, 0, none⟩ with | some (.int _ n) => n.toNat | _ => 0
/-- behind j pieces -/
structure PieceRel (bm ba bd dp first a m : Nat) (J : List Nat → World → Prop) (W wr : World) (j x left : Nat) : Prop where
  le : j ≤ pnum a m
  hx : x = pcur a m j
  hl : x + left = a + m
  cm : wr.cell? ⟨bm, 0, none⟩ = some (.int .i64 left)
  ca : wr.cell? ⟨ba, 0, none⟩ = some (.int .i64 x)
  fm : wr.frozen? ⟨bm, 0, none⟩ = false
  fa : wr.frozen? ⟨ba, 0, none⟩ = false
  cd : wr.cell? ⟨bd, 0, none⟩ = some (.pointer (some ⟨dp, 0, none⟩))
  cf : wr.cell? ⟨dp, 1, none⟩ = some (.int .i64 first)
  J : J (List.range j) wr

theorem range_pre {j m : Nat} (h : j < m) : List.range j ++ [j] <+: List.range m := by
  rw [← List.range_succ]
  exact ⟨List.map (fun i => j + 1 + i) (List.range (m - (j + 1))), by rw [← List.range_add]; congr 1; omega⟩
theorem round_bool {F : Fence} {n l : Nat} {P : Program} {fn : FuncId} {tmps : Array Value} {assign body : Code} {W : World} {A B : World → Prop}
    (h : RoundIn F n P l fn tmps assign body W fun e W' => (e = .returned (.bool true) ∧ A W') ∨ (e = .returned (.bool false) ∧ B W')) :
    RoundIn F n P l fn tmps assign body W fun e W' => ∃ b : Bool, e = .returned (.bool b) ∧ ((b = true ∧ A W') ∨ (b = false ∧ B W')) :=
  h.mono (fun e W' hh => by
    rcases hh with ⟨rfl, ha⟩ | ⟨rfl, hb⟩
    · exact ⟨true, rfl, .inl ⟨rfl, ha⟩⟩
    · exact ⟨false, rfl, .inr ⟨rfl, hb⟩⟩)
theorem PieceRel.after {bm ba bd dp first a m : Nat} {J : List Nat → World → Prop} {W wr W3 : World} {j x left : Nat} (h : PieceRel bm ba bd dp first a m J W wr j x left) (_ : j < pnum a m)
    (hk : Keep (fun k => Two bm ba k ∨ Two bd dp k) wr.drew W3) :
    W3.cell? ⟨bm, 0, none⟩ = some (.int .i64 left) ∧ W3.cell? ⟨ba, 0, none⟩ = some (.int .i64 x) ∧ W3.frozen? ⟨bm, 0, none⟩ = false ∧ W3.frozen? ⟨ba, 0, none⟩ = false ∧
    W3.cell? ⟨bd, 0, none⟩ = some (.pointer (some ⟨dp, 0, none⟩)) ∧ W3.cell? ⟨dp, 1, none⟩ = some (.int .i64 first) := by
  have k1 := hk.2 bm (.inl (.inl rfl)) (World.block_lt_of_cell? wr _ h.cm)
  have k2 := hk.2 ba (.inl (.inr rfl)) (World.block_lt_of_cell? wr _ h.ca)
  have k3 := hk.2 bd (.inr (.inl rfl)) (World.block_lt_of_cell? wr _ h.cd)
  have k4 := hk.2 dp (.inr (.inr rfl)) (World.block_lt_of_cell? wr ⟨dp, 1, none⟩ h.cf)
  exact ⟨(World.cell?_of_block k1).trans h.cm, (World.cell?_of_block k2).trans h.ca, (World.frozen?_of_block k1).trans h.fm, (World.frozen?_of_block k2).trans h.fa, (World.cell?_of_block k3).trans h.cd, (World.cell?_of_block k4).trans h.cf⟩
theorem two_sets {W : World} {p q : Nat} {a b : Value} (hpq : p ≠ q) (u v : Value) (hp : W.cell? ⟨p, 0, none⟩ = some a) (hq : W.cell? ⟨q, 0, none⟩ = some b) (fp : W.frozen? ⟨p, 0, none⟩ = false) (fq : W.frozen? ⟨q, 0, none⟩ = false) :
    (((W.setCell ⟨p, 0, none⟩ u).setCell ⟨q, 0, none⟩ v).drew.cell? ⟨p, 0, none⟩ = some u ∧ ((W.setCell ⟨p, 0, none⟩ u).setCell ⟨q, 0, none⟩ v).drew.cell? ⟨q, 0, none⟩ = some v) ∧
    (((W.setCell ⟨p, 0, none⟩ u).setCell ⟨q, 0, none⟩ v).drew.frozen? ⟨p, 0, none⟩ = false ∧ ((W.setCell ⟨p, 0, none⟩ u).setCell ⟨q, 0, none⟩ v).drew.frozen? ⟨q, 0, none⟩ = false) ∧
    Frm (Two p q) W ((W.setCell ⟨p, 0, none⟩ u).setCell ⟨q, 0, none⟩ v).drew := by
  have h1 : (W.setCell ⟨p, 0, none⟩ u).cell? ⟨p, 0, none⟩ = some u := World.cell?_setCell_same W ⟨p, 0, none⟩ u hp
  have h2 : (W.setCell ⟨p, 0, none⟩ u).cell? ⟨q, 0, none⟩ = some b := (World.cell?_setCell_other W ⟨p, 0, none⟩ ⟨q, 0, none⟩ u (by simp)).trans hq
  refine ⟨⟨?_, ?_⟩, ⟨?_, ?_⟩, ?_⟩
  · show ((W.setCell ⟨p, 0, none⟩ u).setCell ⟨q, 0, none⟩ v).cell? _ = _
    rw [World.cell?_setCell_other _ _ _ _ (by simp)]; exact h1
  · exact World.cell?_setCell_same _ ⟨q, 0, none⟩ v h2
  · show ((W.setCell ⟨p, 0, none⟩ u).setCell ⟨q, 0, none⟩ v).frozen? _ = _
    rw [World.frozen?_setCell, World.frozen?_setCell]; exact fp
  · show ((W.setCell ⟨p, 0, none⟩ u).setCell ⟨q, 0, none⟩ v).frozen? _ = _
    rw [World.frozen?_setCell, World.frozen?_setCell]; exact fq
  · exact (((Frm.refl _ W).setCell (p := ⟨p, 0, none⟩) (.inl (.inl rfl)) u).setCell (p := ⟨q, 0, none⟩) (.inl (.inr rfl)) v).drew
theorem PieceRel.next {bm ba bd dp first a m : Nat} {J : List Nat → World → Prop} {W wr W3 w' : World} {j x left x' left' : Nat} (h : PieceRel bm ba bd dp first a m J W wr j x left) (hlt : j < pnum a m)
    (h1 : bm ≠ bd) (h2 : bm ≠ dp) (h3 : ba ≠ bd) (h4 : ba ≠ dp)
    (hJ : ∀ s A B, J s A → Frm (Two bm ba) A B → J s B) (hJ3 : J (List.range j ++ [j]) W3) (hk : Keep (fun k => Two bm ba k ∨ Two bd dp k) wr.drew W3) (hf : Frm (Two bm ba) W3 w')
    (hx : x' = x + plen a m j) (hl : left' + plen a m j = left) (cm : w'.cell? ⟨bm, 0, none⟩ = some (.int .i64 left')) (ca : w'.cell? ⟨ba, 0, none⟩ = some (.int .i64 x')) (fm : w'.frozen? ⟨bm, 0, none⟩ = false) (fa : w'.frozen? ⟨ba, 0, none⟩ = false) :
    (∃ j x left, PieceRel bm ba bd dp first a m J W w' j x left) ∧ leftOf bm w' < leftOf bm wr := by
  obtain ⟨-, -, -, -, cd3, cf3⟩ := h.after hlt hk
  refine ⟨⟨j + 1, x', left', by omega, ?_, by have := h.hl; omega, cm, ca, fm, fa, ?_, ?_, ?_⟩, ?_⟩
  · rw [pcur_next hlt, ← h.hx]; exact hx
  · rw [hf.cell (p := ⟨bd, 0, none⟩) (World.block_lt_of_cell? _ _ cd3) (fun e => by rcases e with e | e; exact h1 e.symm; exact h3 e.symm)]; exact cd3
  · rw [hf.cell (p := ⟨dp, 1, none⟩) (World.block_lt_of_cell? _ _ cf3) (fun e => by rcases e with e | e; exact h2 e.symm; exact h4 e.symm)]; exact cf3
  · rw [List.range_succ]; exact hJ _ _ _ hJ3 hf
  · have := plen_pos hlt
    unfold leftOf
    rw [cm, h.cm]
    simp only [Int.toNat_natCast]
    omega
set_option maxRecDepth 100000 in
set_option maxHeartbeats 2000000 in
theorem pieces1_in (n : Nat) (hn : 1 ≤ n) (bm ba bd dp first a m : Nat) (w : World) (hne : bm ≠ ba) (h1 : bm ≠ bd) (h2 : bm ≠ dp) (h3 : ba ≠ bd) (h4 : ba ≠ dp) (hlo : first + a + m ≤ 1000000000000)
    (hm : w.cell? ⟨bm, 0, none⟩ = some (.int .i64 m)) (ha : w.cell? ⟨ba, 0, none⟩ = some (.int .i64 a)) (fm : w.frozen? ⟨bm, 0, none⟩ = false) (fa : w.frozen? ⟨ba, 0, none⟩ = false)
    (hd : w.cell? ⟨bd, 0, none⟩ = some (.pointer (some ⟨dp, 0, none⟩))) (hf : w.cell? ⟨dp, 1, none⟩ = some (.int .i64 first)) :
    SeqL Fence.wide n Try.prog 69 #[.pointer (some ⟨bm, 0, none⟩), .pointer (some ⟨ba, 0, none⟩), .pointer (some ⟨bd, 0, none⟩)] (pieceV first a m) (Two bm ba) (Two bd dp) (List.range (pnum a m)) w := by
  intro l J Jx W hF hJ hJx hY h0
  refine callsIn_of_wp Try.func69 rfl trivial ?_ rfl
  simp only [Try.ntmps69, List.size_toArray, List.length_cons, List.length_nil, Nat.reduceAdd, Nat.reduceSub, Array.replicate_succ, Array.replicate_zero, List.push_toArray, List.append_toArray, List.nil_append, List.cons_append]
  have hmo : Try.prog.follows .mixedOrders = true := by kernel_rfl
  have old : ∀ {p : Addr} {u : Value}, w.cell? p = some u → W.cell? p = some u := fun {p u} hu => by
    rw [hF.cell (World.block_lt_of_cell? w _ hu) (fun e => e)]; exact hu
  have oldf : ∀ {p : Addr} {u : Value}, w.cell? p = some u → W.frozen? p = w.frozen? p := fun {p u} hu => hF.frozen (World.block_lt_of_cell? w _ hu) (fun e => e)
  have R0 : PieceRel bm ba bd dp first a m J W W 0 a m := ⟨Nat.zero_le _, (pcur_zero _ _).symm, rfl, old hm, old ha, (oldf hm).trans fm, (oldf ha).trans fa, old hd, old hf, h0⟩
  have HJ := hide hJ
  have HJx := hide hJx
  have HY := hide hY
  clear hm ha fm fa hd hf old oldf hJ hJx hY h0 hF
  gi_wp2
  gi_loopw [5] (fun _ wr => ∃ j x left : Nat, PieceRel bm ba bd dp first a m J W wr j x left) (fun _ wr => leftOf bm wr)
  case atStart => exact ⟨0, a, m, R0⟩
  case round =>
    clear R0
    obtain ⟨j, x, left, R⟩ := hrel
    have cm := R.cm; have ca := R.ca; have fm := R.fm; have fa := R.fa; have cd := R.cd; have cf := R.cf
    have hsum := R.hl
    have hx0 := R.hx
    have HX := hide hx0
    have HR := hide R
    have hxlo : x + left ≤ 1000000000000 := by omega
    clear hsum hx0 R
    by_cases hl : 0 < left
    · have hlt : j < pnum a m := pnum_lt.2 (by have := HX.out; have := (HR.out).hl; omega)
      have hpl : Hid (plen a m j = min left (64 - x % 64)) := by
        have h1 := plen_eq hlt
        have h2 := HX.out; have h3 := (HR.out).hl
        show _ = _
        rw [h1, ← h2]; congr 1; omega
      rcases Nat.lt_or_ge (64 - x % 64) left with hc | hc
      · have hlen : Hid ((plen a m j : Int) = 64 - (x : Int) % 64) := by have := hpl.out; show _ = _; omega
        have hp : List.range j ++ [j] <+: List.range (pnum a m) := range_pre hlt
        have hy0 := HY.out (List.range j) j wr.drew (HJ.out _ _ _ (HR.out).J ((Frm.refl _ wr).drew)) hp
        unfold pieceV at hy0
        rw [← HX.out, hlen.out] at hy0
        obtain ⟨fn, tmps, assign, body, hy, hR⟩ := hy0
        have HRd := hide (round_bool hR)
        have HP := hide hp
        clear hR hp
        gi_wp2
        have hxf := HX.out
        have hxle := pcur_le a m j
        have hw1 : IntKind.i64.wrap ((x : Int) / 64) = (x : Int) / 64 := IntWalk.i64_in _ (by omega)
        have hw2 : IntKind.i64.wrap ((first : Int) + (x : Int) / 64) = (first : Int) + (x : Int) / 64 := IntWalk.i64_in _ (by omega)
        clear hxf hxle
        gi_region_with_o ((refine HRd.out.mono ?_; clear hy; rintro e W3 ⟨b, rfl, hb⟩))
        all_goals
          rcases hb with ⟨rfl, hJ3, hk3⟩ | ⟨rfl, hJx3⟩
          · have R3 := HR.out.after hlt hk3
            obtain ⟨cm3, ca3, fm3, fa3, cd3, cf3⟩ := R3
            have HJ3 := hide hJ3
            have HK3 := hide hk3
            have hw3 : IntKind.i64.wrap ((x : Int) + (64 - (x : Int) % 64)) = ((x + plen a m j : Nat) : Int) := (IntWalk.i64_in _ (by omega)).trans (by have := hlen.out; omega)
            have hw4 : IntKind.i64.wrap ((left : Int) - (64 - (x : Int) % 64)) = ((left - plen a m j : Nat) : Int) := (IntWalk.i64_in _ (by omega)).trans (by have := hlen.out; omega)
            have S1 := hide (two_sets hne (.int .i64 (((left - plen a m j : Nat) : Int))) (.int .i64 (((x + plen a m j : Nat) : Int))) cm3 ca3 fm3 fa3)
            have S2 := hide (two_sets (fun e => hne e.symm) (.int .i64 (((x + plen a m j : Nat) : Int))) (.int .i64 (((left - plen a m j : Nat) : Int))) ca3 cm3 fa3 fm3)
            clear hJ3 hk3
            gi_wp2
            gi_region
            all_goals
              gi_wp2
              first
                | (obtain ⟨⟨e1, e2⟩, ⟨e3, e4⟩, e5⟩ := S1.out; exact HR.out.next hlt h1 h2 h3 h4 HJ.out HJ3.out HK3.out e5 (x' := x + plen a m j) (left' := left - plen a m j) rfl (by have := hpl.out; omega) e1 e2 e3 e4)
                | (obtain ⟨⟨e1, e2⟩, ⟨e3, e4⟩, e5⟩ := S2.out; exact HR.out.next hlt h1 h2 h3 h4 HJ.out HJ3.out HK3.out (e5.mono (fun _ _ e => e.symm)) (x' := x + plen a m j) (left' := left - plen a m j) rfl (by have := hpl.out; omega) e2 e1 e4 e3)
          · gi_wp2
            refine bodyPost_ret (results_none rfl _ _ _) rfl ?_
            exact ⟨⟨_, rfl⟩, .inr ⟨_, HP.out, hJx3⟩⟩
      · have hlen : Hid ((plen a m j : Int) = (left : Int)) := by have := hpl.out; show _ = _; omega
        have hp : List.range j ++ [j] <+: List.range (pnum a m) := range_pre hlt
        have hy0 := HY.out (List.range j) j wr.drew (HJ.out _ _ _ (HR.out).J ((Frm.refl _ wr).drew)) hp
        unfold pieceV at hy0
        rw [← HX.out, hlen.out] at hy0
        obtain ⟨fn, tmps, assign, body, hy, hR⟩ := hy0
        have HRd := hide (round_bool hR)
        have HP := hide hp
        clear hR hp
        gi_wp2
        have hxf := HX.out
        have hxle := pcur_le a m j
        have hw1 : IntKind.i64.wrap ((x : Int) / 64) = (x : Int) / 64 := IntWalk.i64_in _ (by omega)
        have hw2 : IntKind.i64.wrap ((first : Int) + (x : Int) / 64) = (first : Int) + (x : Int) / 64 := IntWalk.i64_in _ (by omega)
        clear hxf hxle
        gi_region_with_o ((refine HRd.out.mono ?_; clear hy; rintro e W3 ⟨b, rfl, hb⟩))
        all_goals
          rcases hb with ⟨rfl, hJ3, hk3⟩ | ⟨rfl, hJx3⟩
          · have R3 := HR.out.after hlt hk3
            obtain ⟨cm3, ca3, fm3, fa3, cd3, cf3⟩ := R3
            have HJ3 := hide hJ3
            have HK3 := hide hk3
            have hw3 : IntKind.i64.wrap ((x : Int) + (left : Int)) = ((x + plen a m j : Nat) : Int) := (IntWalk.i64_in _ (by omega)).trans (by have := hlen.out; omega)
            have hw4 : IntKind.i64.wrap 0 = 0 := by decide
            have S1 := hide (two_sets hne (.int .i64 (((0 : Nat) : Int))) (.int .i64 (((x + plen a m j : Nat) : Int))) cm3 ca3 fm3 fa3)
            have S2 := hide (two_sets (fun e => hne e.symm) (.int .i64 (((x + plen a m j : Nat) : Int))) (.int .i64 (((0 : Nat) : Int))) ca3 cm3 fa3 fm3)
            clear hJ3 hk3
            gi_wp2
            gi_region
            all_goals
              gi_wp2
              first
                | (obtain ⟨⟨e1, e2⟩, ⟨e3, e4⟩, e5⟩ := S1.out; exact HR.out.next hlt h1 h2 h3 h4 HJ.out HJ3.out HK3.out e5 (x' := x + plen a m j) (left' := 0) rfl (by have := hlen.out; omega) e1 e2 e3 e4)
                | (obtain ⟨⟨e1, e2⟩, ⟨e3, e4⟩, e5⟩ := S2.out; exact HR.out.next hlt h1 h2 h3 h4 HJ.out HJ3.out HK3.out (e5.mono (fun _ _ e => e.symm)) (x' := x + plen a m j) (left' := 0) rfl (by have := hlen.out; omega) e2 e1 e4 e3)
          · gi_wp2
            refine bodyPost_ret (results_none rfl _ _ _) rfl ?_
            exact ⟨⟨_, rfl⟩, .inr ⟨_, HP.out, hJx3⟩⟩
    · obtain rfl : left = 0 := by omega
      gi_wp2
      refine bodyPost_end (results_none rfl _ _ _) rfl ?_
      have hj : j = pnum a m := by
        rcases Nat.lt_or_ge j (pnum a m) with h | h
        · have h2 := pnum_lt.1 h
          have h3 := HX.out; have h4 := (HR.out).hl; omega
        · have := (HR.out).le; omega
      subst hj
      exact ⟨⟨_, rfl⟩, .inl (HR.out).J⟩
end Go.Proofs.Ytmeegehmbphooaa
