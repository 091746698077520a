/-
  slices.Chunk at bytes, by fours: its iterator's contract.
-/
import Derived.Test.YtdhcgghdimkdbaaRangeL
namespace Go.Proofs.Ytdhcgghdimkdbaa
open Go.RowKit
attribute [local go_sem] Oper.semAt_some

set_option maxRecDepth 100000 in
set_option maxHeartbeats 2000000 in
theorem chunk1_in (F : Fence) (n : Nat) (hf : F.fn 47) (hro : F.round = none) (hn : 1 ≤ n) (bs bn g off m cap : Nat) (A : Option Addr) (hA : 0 < m → A = some ⟨g, off, none⟩) (hm : 4 * m ≤ cap) (hcap : (cap : Int) ≤ 9223372036854775807) (w : World)
    (hs : w.cell? ⟨bs, 0, none⟩ = some (.slice A (4 * m) cap)) (hb : w.cell? ⟨bn, 0, none⟩ = some (.int .i64 4)) :
    SeqL F n Try.prog 47 #[.pointer (some ⟨bs, 0, none⟩), .pointer (some ⟨bn, 0, none⟩)] (fun k : Nat => #[.slice (some ⟨g, off + 4 * k, none⟩) 4 4]) NoB (Two bs bn) (List.range m) w := by
  intro l J Jx W hF hJ hJx hY h0
  refine callsIn_of_wp Try.func47 rfl hf ?_ hro
  simp only [Try.ntmps47, List.size_toArray, List.length_cons, List.length_nil, Nat.reduceAdd, Nat.reduceSub, Array.replicate_succ, Array.replicate_zero, List.push_toArray, List.append_toArray, List.nil_append, List.cons_append]
  gi_wp2
  gi_loopw [4] (fun i wr => ∃ k : Nat, k ≤ m ∧ i = .int .i64 (4 * k : Nat) ∧ J (List.range k) wr ∧ Keep (fun k => NoB k ∨ Two bs bn k) W wr) (fun i _ => 4 * m - (intOf i).toNat)
  case atStart => exact ⟨0, Nat.zero_le _, rfl, h0, Keep.refl _ _⟩
  case round =>
    obtain ⟨k, hk, rfl, hJs, hkp⟩ := hrel
    have hlt1 := World.block_lt_of_cell? w _ hs
    have hlt2 := World.block_lt_of_cell? w _ hb
    have hs' : wr.cell? ⟨bs, 0, none⟩ = some (.slice A (4 * m) cap) := by
      rw [World.cell?_of_block (hkp.2 bs (.inr (.inl rfl)) (Nat.lt_of_lt_of_le hlt1 hF.size)), hF.cell hlt1 (fun e => e)]; exact hs
    have hb' : wr.cell? ⟨bn, 0, none⟩ = some (.int .i64 4) := by
      rw [World.cell?_of_block (hkp.2 bn (.inr (.inr rfl)) (Nat.lt_of_lt_of_le hlt2 hF.size)), hF.cell hlt2 (fun e => e)]; exact hb
    by_cases hlt : k < m
    · have hA := hA (by omega)
      subst hA
      have hp : List.range k ++ [k] <+: List.range m := by
        rw [← List.range_succ]
        exact ⟨List.map (fun j => k + 1 + j) (List.range (m - (k + 1))), by rw [← List.range_add]; congr 1; omega⟩
      obtain ⟨fn, tmps, assign, body, hy, hR⟩ := hY (List.range k) k wr.drew (hJ _ _ _ hJs ((Frm.refl _ wr).drew)) hp
      have HY := hide hY
      have HP := hide hp
      have HR := hide hR
      have hc1 : 4 * k + 4 ≤ 4 * m := by omega
      have hc2 : 4 * k < cap := by omega
      have HJ := hide hJ
      have HJx := hide hJx
      clear hY hp hR hJ hJx hs hb
      gi_wp2
      gi_region
      gi_wp2
      all_goals
        refine HR.out.mono ?_
        clear hy
        rintro e W3 (⟨rfl, hJ3, hk3⟩ | ⟨rfl, hJx3⟩)
        · have hb3 : W3.cell? ⟨bn, 0, none⟩ = some (.int .i64 4) := by
            rw [World.cell?_of_block (hk3.2 bn (.inr (.inr rfl)) (World.block_lt_of_cell? wr _ hb'))]; exact hb'
          have hkp3 : Keep (fun k => NoB k ∨ Two bs bn k) W W3 := hkp.trans hk3
          rw [← List.range_succ] at hJ3
          gi_wp2
          go_roundw
          case rel => exact ⟨k + 1, by omega, by go_num, hJ3, hkp3⟩
          case measure => simp [intOf]; omega
        · gi_wp2
          refine bodyPost_ret (results_none rfl _ _ _) rfl ?_
          exact ⟨⟨_, rfl⟩, .inr ⟨_, HP.out, hJx3⟩⟩
    · obtain rfl : k = m := by omega
      gi_wp2
      refine bodyPost_end (results_none rfl _ _ _) rfl ?_
      exact ⟨⟨_, rfl⟩, .inl hJs⟩
end Go.Proofs.Ytdhcgghdimkdbaa
