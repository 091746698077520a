/-
  frame.Once: the walk.
-/
import Derived.Test.YtmahaihcmmmhbaaFrP2
import Derived.Test.YtmahaihcmmmhbaaGen
import Derived.Laws.BitsLemmas
import Derived.Laws.BitsAllLaws
import Derived.Deep.DeepCutAuto
namespace Go.Proofs.Ytmahaihcmmmhbaa
open Go.RowKit
theorem win_size : (Try.prog.info? 25).map (·.size) = some 2 := by kernel_rfl
theorem blk_two (w : World) (X : Obj) (t : TypeId) (cs : Array Value) : Blk ((w.alloc X).alloc (.cells cs t)) (w.heap.size + 1) t cs := by
  have := Blk.new (w.alloc X) t cs
  rwa [World.size_alloc] at this
theorem ret_cell_tmp {P : Program} {fn : Func} {p u : Tmp} {ty : TypeId} (h : fn.results = #[.cell p ty, .tmp u]) (tmps : Array Value) (w : World) (g : Nat) (t : TypeId) (cs : Array Value) (fr : Nat × Nat) (d : TypeDesc)
    (hp : tmps.getD p undef = .pointer (some ⟨g, 0, none⟩)) (hg : w.heap[g]? = some (.cells cs t fr))
    (hu : P.underlying ty = some d) (hd : (match d with | .struct _ | .array _ _ => true | _ => false) = true) (hi : (P.info? ty).map (·.size) = some cs.size) :
    (results fn tmps).run P w = .ok (.tuple #[.agg cs, tmps.getD u undef]) w := by
  rw [results_cell_tmp h, hp]
  simp [asAddr, run_loadVar_row w g t ty cs fr d hg hu hd hi, Result.andThen]
theorem or_shift (seen k : Nat) : bits .or .u64 (IntKind.u64.wrap ((seen : Int) * 2 ^ k)) 1 = ((((seen <<< k) % 2 ^ 64) ||| 1 : Nat) : Int) := by
  have e : IntKind.u64.wrap ((seen : Int) * 2 ^ k) = (((seen <<< k) % 2 ^ 64 : Nat) : Int) := by
    rw [IntKind.wrap_u64, Nat.shiftLeft_eq]
    have : ((seen : Int) * 2 ^ k) = ((seen * 2 ^ k : Nat) : Int) := by simp
    rw [this]
    omega
  rw [e]
  exact u64_or_nat _ 1 (Nat.mod_lt _ (by decide)) (by decide)
theorem or_zero : bits .or .u64 0 1 = 1 := by kernel_rfl
theorem and_bit {seen b : Nat} (hs : seen < 2 ^ 64) : bits .and .u64 ((seen : Int) / 2 ^ b) 1 = if seen.testBit b = true then 1 else 0 := by
  have e : (seen : Int) / 2 ^ b = ((seen / 2 ^ b : Nat) : Int) := by simp
  rw [e]
  have hlt : seen / 2 ^ b < 18446744073709551616 := Nat.lt_of_le_of_lt (Nat.div_le_self _ _) hs
  have := u64_and_nat (seen / 2 ^ b) 1 hlt (by decide)
  rw [show ((1 : Nat) : Int) = 1 from rfl] at this
  rw [this, Nat.and_one_is_mod]
  have ht : seen.testBit b = decide (seen / 2 ^ b % 2 = 1) := Nat.testBit_eq_decide_div_mod_eq
  rw [ht]
  by_cases h : seen / 2 ^ b % 2 = 1
  · rw [if_pos (decide_eq_true h), h]; rfl
  · rw [if_neg (by simp [h])]
    have : seen / 2 ^ b % 2 = 0 := by omega
    rw [this]; rfl
theorem or_bit {seen b : Nat} (hs : seen < 2 ^ 64) (hb : b < 64) : bits .or .u64 (seen : Int) (IntKind.u64.wrap (1 * 2 ^ b)) = ((seen ||| (1 <<< b) : Nat) : Int) := by
  have hp : 2 ^ b < 2 ^ 64 := Nat.pow_lt_pow_right (by decide) hb
  have e : IntKind.u64.wrap (1 * 2 ^ b) = (((1 <<< b) : Nat) : Int) := by
    rw [IntKind.wrap_u64, Nat.one_shiftLeft]
    have : ((1 : Int) * 2 ^ b) = ((2 ^ b : Nat) : Int) := by simp
    rw [this]
    exact Int.emod_eq_of_lt (Int.natCast_nonneg _) (Int.ofNat_lt.2 hp)
  rw [e]
  exact u64_or_nat _ _ hs (by rw [Nat.one_shiftLeft]; exact hp)
def winV (last seen : Nat) : Value := .agg #[.int .i64 last, .int .u64 seen]
def OncePost (w : World) (last seen seq : Nat) (e : Ending) (w' : World) : Prop := e = .returned (.tuple #[winV (onceN last seen seq).1 (onceN last seen seq).2.1, .bool (onceN last seen seq).2.2]) ∧ Frm NoB w w'
set_option maxRecDepth 100000 in
set_option maxHeartbeats 4000000 in
theorem once_is (w : World) (last seen seq : Nat) (hs : seen < 2 ^ 64) (hl : last ≤ 1099511627776) (h1 : 1 ≤ seq) (h2 : seq ≤ 1099511627776) :
    Calls Try.prog 9 #[.agg #[.int .i64 last, .int .u64 seen], .int .i64 seq] w (OncePost w last seen seq) := by
  have d1 : decide ((seq : Int) < 1) = false := decide_eq_false (by omega)
  have d2 : decide ((seq : Int) > 1099511627776) = false := decide_eq_false (by omega)
  have d2' : decide ((1099511627776 : Int) < (seq : Int)) = false := decide_eq_false (by omega)
  have d3 : decide ((last : Int) < 0) = false := decide_eq_false (by omega)
  have d4 : decide ((1099511627776 : Int) < (last : Int)) = false := decide_eq_false (by omega)
  by_cases hlt : last < seq
  · have d5 : decide ((last : Int) < (seq : Int)) = true := decide_eq_true (by omega)
    obtain ⟨k, hk⟩ : ∃ k : Nat, seq = last + k := ⟨seq - last, by omega⟩
    subst hk
    have hw : IntKind.i64.wrap (((last + k : Nat) : Int) - (last : Int)) = (k : Int) := by rw [IntWalk.i64_in _ (by omega)]; omega
    by_cases h64 : k < 64
    · have d6 : decide ((k : Int) < 64) = true := decide_eq_true (by omega)
      have k0 : (0 : Int) ≤ (k : Int) := by omega
      go_enter Try.func9, Try.ntmps9
      go_wp2
      refine bodyPost_ret (ret_cell_tmp rfl _ _ (w.heap.size + 1) 25 _ (0, 0) _ rfl (blk_two _ _ _ _) Try.underlying25 rfl win_size) rfl ⟨?_, ((Frm.refl NoB w).alloc _).alloc _⟩
      unfold onceN winV
      rw [if_pos hlt, if_pos (by omega), or_shift, show last + k - last = k from by omega]
      simp
    · have d6 : decide ((k : Int) < 64) = false := decide_eq_false (by omega)
      go_enter Try.func9, Try.ntmps9
      go_wp2
      refine bodyPost_ret (ret_cell_tmp rfl _ _ (w.heap.size + 1) 25 _ (0, 0) _ rfl (blk_two _ _ _ _) Try.underlying25 rfl win_size) rfl ⟨?_, ((Frm.refl NoB w).alloc _).alloc _⟩
      unfold onceN winV
      rw [if_pos hlt, if_neg (by omega)]
      simp [or_zero]
  · have d5 : decide ((last : Int) < (seq : Int)) = false := decide_eq_false (by omega)
    obtain ⟨b, hb⟩ : ∃ b : Nat, last = seq + b := ⟨last - seq, by omega⟩
    subst hb
    have b0 : (0 : Int) ≤ (b : Int) := by omega
    by_cases h64 : 64 ≤ b
    · have d6 : decide (64 ≤ (b : Int)) = true := decide_eq_true (by omega)
      have d7 : decide ((b : Int) ≥ 64) = true := decide_eq_true (by omega)
      go_enter Try.func9, Try.ntmps9
      go_wp2
      refine bodyPost_ret (ret_cell_tmp rfl _ _ (w.heap.size + 1) 25 _ (0, 0) _ rfl (blk_two _ _ _ _) Try.underlying25 rfl win_size) rfl ⟨?_, ((Frm.refl NoB w).alloc _).alloc _⟩
      unfold onceN winV
      rw [if_neg hlt, if_pos (.inl (by omega))]
      simp
    · have d6 : decide (64 ≤ (b : Int)) = false := decide_eq_false (by omega)
      have d7 : decide ((b : Int) ≥ 64) = false := decide_eq_false (by omega)
      have hab := and_bit (b := b) hs
      by_cases ht : seen.testBit b = true
      · rw [if_pos ht] at hab
        go_enter Try.func9, Try.ntmps9
        go_wp2
        refine bodyPost_ret (ret_cell_tmp rfl _ _ (w.heap.size + 1) 25 _ (0, 0) _ rfl (blk_two _ _ _ _) Try.underlying25 rfl win_size) rfl ⟨?_, ((Frm.refl NoB w).alloc _).alloc _⟩
        unfold onceN winV
        rw [if_neg hlt, if_pos (.inr (by rw [show seq + b - seq = b from by omega]; exact ht))]
        simp
      · rw [if_neg ht] at hab
        have hob := or_bit (b := b) hs (by omega)
        go_enter Try.func9, Try.ntmps9
        go_upto_region 12 with fail
        go_region
        all_goals
          go_wp2
          refine bodyPost_ret (ret_cell_tmp rfl _ _ (w.heap.size + 1) 25 _ (0, 0) _ rfl (blk_two _ _ _ _) Try.underlying25 rfl win_size) rfl ⟨?_, ?_⟩
          · unfold onceN winV
            rw [if_neg hlt, if_neg (fun h => h.elim (fun e => h64 (by omega)) (fun e => ht (by rwa [show seq + b - seq = b from by omega] at e))), show seq + b - seq = b from by omega]
            rw [Int.one_mul] at hob
            simp [hob]
          · exact (((Frm.refl NoB w).alloc _).alloc _).drew
end Go.Proofs.Ytmahaihcmmmhbaa
