/-
  Operations and regions within a round of a range over a function: as everywhere.
-/
import Derived.Test.YtmeegehmbphooaaRangeL
import Derived.OrdersIn
import Derived.Deep.QuietTactic
import Derived.BigQuiet
namespace Go.Proofs.Ytmeegehmbphooaa
open Go.RowKit
variable {P : Program} {n l₀ : Nat}

/-- it is no defer statement -/
def Oper.calm (o : Oper) : Bool := match o.op with | .defer _ => false | _ => true
theorem Oper.calm_ne {o : Oper} (h : Oper.calm o = true) : ∀ c, o.op ≠ .defer c := fun c e => by
  unfold Oper.calm at h; rw [e] at h; cases h
theorem callsIn_round {f : FuncId} {args : Array Value} {w : World} {R : Ending → World → Prop} (h : Calls P f args w R) : CallsIn (Fence.wide.inRound l₀) n P f args w R := CallsIn.inRound l₀ (callsIn_wide.2 h)
theorem room_wide' (k : Nat) : Fence.wide.room k := by simp [Fence.room, Fence.wide]
theorem rowsIn_round {row : String} {args : Array Value} {w : World} {R : Value → World → Prop} (h : Rows P row args w R) : RowsIn (Fence.wide.inRound l₀) n P row args w R := by
  intro c cs _
  obtain ⟨v, w', r, s⟩ := h c cs
  exact ⟨v, w', r, stepsIn_wide.2 s⟩
theorem opIn_of_op {o : Oper} {a : Act} {w : World} {K : Act → World → Prop} {Q : Exit → Act → World → Prop} (hc : Oper.calm o = true) (h : o.wp P a w K Q) : o.wpIn (Fence.wide.inRound l₀) n P a w K Q := by
  unfold Oper.wpIn
  refine ⟨fun _ _ => trivial, ?_⟩
  rw [Oper.semAt_plain _ _ _ (Oper.calm_ne hc)]
  unfold Oper.wp at h
  generalize (execOp a.eval o).run P w = r at *
  cases r with
  | ok x w' =>
    cases x <;> simp only [Oper.upon, Oper.uponIn] at h ⊢ <;>
      first
        | exact h
        | exact ⟨fun e => absurd e (by simp [Fence.wide]), callsIn_round h⟩
        | exact ⟨fun e => absurd e (by simp [Fence.wide]), rowsIn_round h⟩
        | exact h.elim
  | halt x w' => cases x <;> simp only [Oper.upon, Oper.uponIn] at h ⊢ <;> exact h

/-- an operation of a plain region -/
theorem listIn_of_op {ops : Array Oper} {rest : List Oper} {o : Oper} {a : Act} {w : World} {Q : Exit → Act → World → Prop} (hg : o.guard = none) (hc : Oper.calm o = true)
    (h : ∀ K : Act → World → Prop, (∀ a w, wpListIn (Fence.wide.inRound l₀) n P ops Q rest a w → K a w) → o.wp P a w K Q) : wpListIn (Fence.wide.inRound l₀) n P ops Q (o :: rest) a w :=
  wpListIn_plain hg (fun K hK => opIn_of_op hc (h K hK))
theorem calm_all {l : List Oper} (h : l.all (fun o => Oper.calm o) = true) {i : Nat} {o : Oper} (hi : l.toArray[i]? = some o) : Oper.calm o = true := by
  rw [List.getElem?_toArray] at hi
  exact List.all_eq_true.1 h o (List.mem_of_getElem? hi)
theorem anyIn_of_any {md : Region.Mode} {l : List Oper} {Q : Exit → Act → World → Prop} (hc : l.all (fun o => Oper.calm o) = true) (hQ : ¬ LetsOut Q) : ∀ (fuel : Nat) (listed : Array Bool) (a : Act) (w : World),
    wpAny P md l.toArray Q fuel listed a w → wpAnyIn (Fence.wide.inRound l₀) n P md l.toArray Q fuel listed a w
  | 0, _, _, _, h => h
  | fuel + 1, listed, a, w, h => ⟨h.1, fun i hi => by
      have h2 := h.2 i hi
      unfold wpOp at h2
      unfold wpOpIn
      cases hl : l.toArray[i]? with
      | none => rw [hl] at h2; exact anyIn_of_any hc hQ fuel _ _ _ h2
      | some o =>
        rw [hl] at h2
        simp only at h2 ⊢
        by_cases hw : Region.wanted o (yielded l.toArray a.tmps) = true
        · rw [if_pos hw] at h2 ⊢
          refine opIn_of_op (calm_all hc hl) ?_
          rcases h2 with h2 | h2
          · exact Oper.wp_mono (fun a' w' h3 => anyIn_of_any hc hQ fuel _ _ _ h3) h2
          · exact absurd h2.2 hQ
        · rw [if_neg hw] at h2 ⊢
          exact ⟨fun _ _ => trivial, anyIn_of_any hc hQ fuel _ _ _ h2⟩⟩
theorem opIn_of_qOp {l : List Oper} {C : World → Prop} (hc : l.all (fun o => Oper.calm o) = true) {i : Nat} {a : Act} {K : Act → Prop} {K' : Act → World → Prop} {Q' : Exit → Act → World → Prop} {w : World} (hC : C w) (h : ∀ a w', C w' → K a → K' a w')
    (hh : qOp P l.toArray C i K a) : wpOpIn (Fence.wide.inRound l₀) n P l.toArray Q' i K' a w := by
  unfold qOp at hh
  unfold wpOpIn
  cases hl : l.toArray[i]? with
  | none => rw [hl] at hh; exact h _ _ hC hh
  | some o =>
    rw [hl] at hh
    simp only at hh ⊢
    by_cases hw : Region.wanted o (yielded l.toArray a.tmps) = true
    · rw [if_pos hw] at hh ⊢
      exact opIn_of_op (calm_all hc hl) (Oper.wp_of_quiet hC h hh)
    · rw [if_neg hw] at hh ⊢
      exact ⟨fun _ _ => trivial, h _ _ hC hh⟩
theorem anyIn_of_quiet {md : Region.Mode} {l : List Oper} {C : World → Prop} {Q : Act → Prop} {Q' : Exit → Act → World → Prop} (hc : l.all (fun o => Oper.calm o) = true) (hQ : ∀ a w, C w → Q a → Q' .normal a w) : ∀ (fuel : Nat) (listed : Array Bool) (a : Act) (w : World), C w →
    wpAnyQ P md l.toArray C Q fuel listed a → wpAnyIn (Fence.wide.inRound l₀) n P md l.toArray Q' fuel listed a w
  | 0, _, _, _, hw, h => ⟨h.1, hQ _ _ hw h.2⟩
  | fuel + 1, _, _, _, hw, h => ⟨fun h0 => hQ _ _ hw (h.1 h0), fun i hi => opIn_of_qOp hc hw (fun a' w' hw' => anyIn_of_quiet hc hQ fuel _ a' w' hw') (h.2 i hi)⟩
/-- A region that draws its order, within a round, its operations quiet. -/
theorem region_quiet_round {id : Nat} {Q : Exit → Act → World → Prop} {a : Act} {w : World} {l : List Oper} (hm : P.follows .mixedOrders = true) (hB : Region.lexB .any l.toArray = true) (hc : l.all (fun o => Oper.calm o) = true)
    (h : wpQuiet P l.toArray (fun w' => ∃ n, w' = w.drewN n) (fun a' => ∀ w', (∃ n, w' = w.drewN n) → Q .normal a' w') l a) : (Code.region id l.toArray true).wpIn (Fence.wide.inRound l₀) n P Q a w := by
  have hB' := hB
  simp only [Region.lexB, Bool.and_eq_true] at hB'
  refine wpIn_region_any hm (anyIn_of_quiet (C := fun w' => ∃ n, w' = w.drewN n) (Q := fun a' => ∀ w', (∃ n, w' = w.drewN n) → Q .normal a' w') hc (fun _ w' hw' h => h w' hw') _ _ _ _ ⟨1, rfl⟩ ?_)
  have := wpAnyQ_lex (C := fun w' => ∃ n, w' = w.drewN n) (md := .any) hB'.1 l.toArray.toList 0 (Array.replicate l.toArray.size false) a (by simp) (by simpa using hB'.2) (by simpa using h)
  simpa using this
end Go.Proofs.Ytmeegehmbphooaa
