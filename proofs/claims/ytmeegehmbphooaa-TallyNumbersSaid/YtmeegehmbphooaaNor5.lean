/-
  The flash: New.
-/
import Derived.Test.YtmeegehmbphooaaNor4
import Derived.Deep.RegionHeld3
import Derived.Deep.AppendLies
import Derived.Deep.RegionLaw
import Derived.Deep.DeepMust
namespace Go.Proofs.Ytmeegehmbphooaa
open Go.RowKit

theorem ones64_len : ones64.toList.length = 1 * 64 := by kernel_rfl
theorem ones64_one : ∀ u ∈ ones64.toList, u.oneCell' = true := by
  intro u hu
  simp only [ones64, Array.toList_replicate] at hu
  rw [List.eq_of_mem_replicate hu]
  rfl
theorem sector_info : (Try.prog.info? 97).map (fun i => (i.zero, i.size, i.bytes)) = some (some (.agg zeros64), 64, 256) := by kernel_rfl

/-- one more sector of ones -/
theorem step_append_ones {w : World} {ops : Array Oper} {o : Oper} {a : Act} {K : Act → World → Prop} {Q : Exit → Act → World → Prop} {E : Prop} (hgd : o.guard = none) (s x : Operand)
    (ho : o.op = .call { callee := .builtin .append, args := #[s, x], argTypes := #[94, 94] })
    (base n b : Nat) (v : Value) (xs : List Value) (hs : a.eval s = v) (hx : a.eval x = .slice (some ⟨b, 0, none⟩) 1 1)
    (hown : w.ownsRow base 97 64 v n xs) (cs : Array Value) (hb : Blk w b 97 cs) (hcs : cs = ones64) (hn : n ≤ 1024) (hbase : base ≤ w.heap.size)
    (h : ∀ g cap w', w'.ownsRow base 97 64 (.slice (some ⟨g, 0, none⟩) (n + 1) cap) (n + 1) (xs ++ ones64.toList) → w.grownBy w' v.ownBlock → K (a.put o.dst (.slice (some ⟨g, 0, none⟩) (n + 1) cap)) w') :
    if Region.wanted o (yielded ops a.tmps) = true then Oper.wp Try.prog o a w K Q else E := by
  subst hcs
  obtain ⟨i0, hi0, hz0, hz1, hz2⟩ := info_parts sector_info
  exact step_append_lies w hgd s x 94 ho base 97 i0 _ 64 256 Try.underlying94 hi0 hz0 hz1 hz2 (by kernel_rfl) (by omega) v n xs hs hown ⟨b, 0, none⟩ 1 1 ones64.toList hx ones64_len (World.news_of_block hb) ones64_one (by omega) (by simp [maxLen]; omega) (by omega) hbase w.heap.size rfl (fun g cap w' h1 h2 _ _ => h g cap w' h1 h2)

theorem new_round {w wr w1 w2 : World} {j : Nat} {v : Value} {g : Int} {X : Obj} {g2 cap : Nat} (hf : Frm NoB w wr) (HB : Blk wr w.heap.size 96 #[v, .int .i64 g, .int .i64 (-1), .bool false, .int .i64 (-1)])
    (hf1 : Frm NoB wr w1) (hg : (w1.alloc X).grownBy w2 v.ownBlock) (hne : some w.heap.size ≠ v.ownBlock) (hv : ∀ b, v.ownBlock = some b → w.heap.size < b)
    (ho : w2.ownsRow (w.heap.size + 1) 97 64 (.slice (some ⟨g2, 0, none⟩) (j + 1) cap) (j + 1) (List.replicate (64 * j) one32 ++ ones64.toList)) :
    Blk (w2.setCell ⟨w.heap.size, 0, none⟩ (.slice (some ⟨g2, 0, none⟩) (j + 1) cap)) w.heap.size 96 #[.slice (some ⟨g2, 0, none⟩) (j + 1) cap, .int .i64 g, .int .i64 (-1), .bool false, .int .i64 (-1)] ∧
    (w2.setCell ⟨w.heap.size, 0, none⟩ (.slice (some ⟨g2, 0, none⟩) (j + 1) cap)).ownsRow (w.heap.size + 1) 97 64 (.slice (some ⟨g2, 0, none⟩) (j + 1) cap) (j + 1) (List.replicate (64 * (j + 1)) one32) ∧
    Frm NoB w (w2.setCell ⟨w.heap.size, 0, none⟩ (.slice (some ⟨g2, 0, none⟩) (j + 1) cap)) := by
  have hb1 := (HB.frm hf1 (fun e => e)).alloc X
  have hb2 : Blk w2 w.heap.size 96 #[v, .int .i64 g, .int .i64 (-1), .bool false, .int .i64 (-1)] := (hg.block _ hb1.lt hne).trans hb1
  refine ⟨hb2.set_ 0 _, ?_, ?_⟩
  · have hl := (ho.lt g2 rfl).1
    have e : List.replicate (64 * (j + 1)) one32 = List.replicate (64 * j) one32 ++ ones64.toList := by
      unfold ones64
      rw [Array.toList_replicate, List.replicate_append_replicate, Nat.mul_add]
    rw [e]
    exact own_frm ho ((Frm.refl (One w.heap.size) w2).set1 0 _) (fun b hb => by
      have : g2 = b := by simpa [Value.ownBlock] using hb
      intro h
      have : b = w.heap.size := h
      omega)
  · exact (((hf.trans hf1).alloc X).grown hg (fun b hb hlt => by have := hv b hb; omega)).setNew (Nat.le_refl _) _ _

/-- behind j sectors -/
def NewRel (w : World) (n : Nat) (g : Int) (i : Value) (wr : World) : Prop := ∃ (j : Nat) (v : Value), j ≤ n ∧ i = .int .i64 j ∧ Blk wr w.heap.size 96 #[v, .int .i64 g, .int .i64 (-1), .bool false, .int .i64 (-1)] ∧ wr.ownsRow (w.heap.size + 1) 97 64 v j (List.replicate (64 * j) one32) ∧ Frm NoB w wr
set_option maxHeartbeats 1000000 in
set_option maxRecDepth 100000 in
theorem new_is (n g : Nat) (w : World) (h1 : 1 ≤ n) (h2 : n ≤ 1024) (hg : g ≤ n) :
    Calls Try.prog 16 #[.int .i64 n, .int .i64 g] w fun e w' => ∃ p q c, e = .returned (.tuple #[.pointer (some ⟨p, 0, none⟩), .int .i64 0]) ∧ NorAt w' p q c (NorS.new n g) ∧ w.heap.size ≤ p ∧ w.heap.size ≤ q ∧ Frm NoB w w' := by
  have b1 : decide ((n : Int) < 1) = false := by simp; omega
  have b2 : decide (1024 < (n : Int)) = false := by simp; omega
  have b3 : decide ((g : Int) < 0) = false := by simp
  have b4 : decide ((n : Int) < (g : Int)) = false := by simp; omega
  have b5 : decide (n < g) = false := by simp; omega
  go_enter Try.func16, Try.ntmps16
  go_wp2
  go_loopw [26] (fun i wr => NewRel w n g i wr) (fun i _ => n - (intOf i).toNat)
  case atStart => exact ⟨0, .slice none 0 0, by omega, rfl, Blk.new _ _ _, World.ownsRow_nil _ _ _ _, (Frm.refl _ _).alloc _⟩
  case round =>
    obtain ⟨j, v, hj, rfl, hb, hrow, hf⟩ := hrel
    by_cases hlt : j < n
    · have hc := hb.cell 0
      have hz := hb.frozen 0
      have HB := hide hb
      have HR := hide hrow
      clear hb hrow
      go_wp2
      have hlt0 := Blk.lt HB.out
      have hne : Hid (some w.heap.size ≠ v.ownBlock) := fun e => by have := ((Hid.out HR).lt _ e.symm).1; omega
      have hos : ones64.size = 64 := by kernel_rfl
      have hcv : wr.cell? ⟨w.heap.size, 0, none⟩ = some v := hc
      clear hc
      go_region_law (first
          | (refine step_append_ones (by rfl) (.tmp 32) (.tmp 34) (by rfl) (w.heap.size + 1) j w1.heap.size v (List.replicate (64 * j) one32) (by rfl) (by rfl) ((own_frm (S := NoB) (w := wr.drew) (Hid.out HR) hf1 (fun _ _ e => e)).alloc _) _ (Blk.new _ _ _) (by kernel_rfl) (by omega) (by simp; omega) ?_; intro g2 cap w2 hown2 hgrow2; have hzz : w2.frozen? ⟨w.heap.size, 0, none⟩ = false := (by rw [hgrow2.frozen_far ⟨w.heap.size, 0, none⟩ (by simp; omega) hne.out, World.frozen?_alloc_old _ _ _ (by simp; omega), hf1.frozen (p := ⟨w.heap.size, 0, none⟩) (by simpa using hlt0) (fun e => e)]; exact hz); have hcc : w2.cell? ⟨w.heap.size, 0, none⟩ = some v := (by rw [hgrow2.cell_far ⟨w.heap.size, 0, none⟩ (by simp; omega) hne.out, World.cell?_alloc_old _ _ _ (by simp; omega), hf1.cell (p := ⟨w.heap.size, 0, none⟩) (by simpa using hlt0) (fun e => e)]; exact hcv))
          | (go_simp; go_at_call 46; refine (blank_is _).mono ?_; rintro e w1 ⟨rfl, hf1⟩; have hlt1 : wr.heap.size ≤ w1.heap.size := hf1.size; have hlt3 : w.heap.size < w1.heap.size := (by omega); have hcw : w1.cell? ⟨w.heap.size, 0, none⟩ = some v := (by rw [hf1.cell (p := ⟨w.heap.size, 0, none⟩) (by simpa using hlt0) (fun e => e)]; exact hcv)))
      all_goals
        have hR := new_round (wr := wr.drew) hf.drew HB.out hf1 hgrow2 hne.out (fun b hb => by have := ((Hid.out HR).lt b hb).1; omega) hown2
        clear hgrow2 hown2 hzz hcc hcw
        have HR2 := hide hR
        clear hR
        go_wp2
        go_roundw
        case rel =>
          obtain ⟨r1, r2, r3⟩ := (HR2.out)
          exact ⟨j + 1, _, by omega, by go_num, r1, r2, r3⟩
        case measure => simp [intOf]; omega
    · obtain rfl : j = n := by omega
      have HB := hide hb
      have HR := hide hrow
      clear hb hrow
      go_wp2
      go_ret2
      have hR := (Hid.out HR)
      obtain ⟨q, c, rfl, hq, hq2⟩ := hR.form (by omega)
      refine ⟨w.heap.size, q, c, rfl, ⟨HB.out, ?_, ?_⟩, Nat.le_refl _, by omega, hf⟩
      · have : ints .u32 (NorS.new j g).l = List.replicate (64 * j) one32 := by simp [ints, NorS.new, one32]
        rw [this]
        exact ⟨hR.1, by
          rcases hR.2 with h | ⟨a, b, c, e, h1, h2⟩
          · exact .inl h
          · exact .inr ⟨a, b, c, e, Nat.zero_le _, h2⟩⟩
      · exact ⟨by simp [NorS.new], h1, h2, by simp [NorS.new], by simp [NorS.new]; omega, by simp [NorS.new], by simp [NorS.new], by simp [NorS.new], by simp [NorS.new]; omega, fun x hx => by
          rw [List.eq_of_mem_replicate hx]; omega⟩
theorem new_bad (n g : Int) (w : World) (h : n < 1 ∨ 1024 < n ∨ g < 0 ∨ n < g) :
    Calls Try.prog 16 #[.int .i64 n, .int .i64 g] w fun e w' => e = .returned (.tuple #[.pointer none, .int .i64 2]) ∧ w = w' := by
  have hb : (decide (n < 1) || decide (1024 < n) || decide (g < 0) || decide (n < g)) = true := by simp; omega
  have H := hide h
  clear h
  by_cases h1 : n < 1
  · go_enter Try.func16, Try.ntmps16
    go_wp2
    go_ret2
    exact ⟨rfl, rfl⟩
  · by_cases h2 : 1024 < n
    · go_enter Try.func16, Try.ntmps16
      go_wp2
      go_ret2
      exact ⟨rfl, rfl⟩
    · by_cases h3 : g < 0
      · go_enter Try.func16, Try.ntmps16
        go_wp2
        go_ret2
        exact ⟨rfl, rfl⟩
      · have h4 : n < g := by have := H.out; omega
        go_enter Try.func16, Try.ntmps16
        go_wp2
        go_ret2
        exact ⟨rfl, rfl⟩
end Go.Proofs.Ytmeegehmbphooaa
