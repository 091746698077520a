/-
  Words at an argument; a word more behind an own row.
-/
import Derived.Test.YtmahaihcmmmhbaaKit
import Derived.Deep.AppendLies
namespace Go.Proofs.Ytmahaihcmmmhbaa
open Go.RowKit
theorem ints_take {k : IntKind} {xs : List Int} {n : Nat} : ints k (xs.take n) = (ints k xs).take n := by simp [ints]
theorem Rd.take {w : World} {A : Option Addr} {vs : List Value} (h : Rd w A vs) (n : Nat) : Rd w A (vs.take n) := fun hv => by
  have h0 : vs ≠ [] := fun e => hv (by rw [e]; simp)
  obtain ⟨b, o, e, hc⟩ := h h0
  refine ⟨b, o, e, fun i v hi => hc i v ?_⟩
  rw [List.getElem?_take] at hi
  split at hi
  · exact hi
  · cases hi
theorem below_two {B p q : Nat} (hp : B ≤ p) (hq : B ≤ q) : ∀ k, k < B → ¬ Two p q k := fun k hk h => by
  rcases h with h | h <;> omega
theorem uint32_info : (Try.prog.info? 38).map (fun i => (i.zero, i.size, i.bytes)) = some (some (.int .u32 0), 1, 4) := by kernel_rfl
/-- one word more behind an own row of words -/
theorem append_word {w : World} {ops : Array Oper} {rest : List Oper} {o : Oper} {a : Act} {Q : Exit → Act → World → Prop} (hgd : o.guard = none) (s x : Operand)
    (ho : o.op = .call { callee := .builtin .append, args := #[s, x], argTypes := #[117, 117] })
    (base n b : Nat) (v : Value) (xs : List Int) (y : Int) (hs : a.eval s = v) (hx : a.eval x = .slice (some ⟨b, 0, none⟩) 1 1)
    (hown : w.ownsRow base 38 1 v n (ints .u32 xs)) (hb : Blk w b 38 #[.int .u32 y]) (hn : n ≤ 16777216) (hbase : base ≤ w.heap.size)
    (h : ∀ g cap w', w'.ownsRow base 38 1 (.slice (some ⟨g, 0, none⟩) (n + 1) cap) (n + 1) (ints .u32 (xs ++ [y])) → w.grownBy w' v.ownBlock → wpList Try.prog ops Q rest (a.put o.dst (.slice (some ⟨g, 0, none⟩) (n + 1) cap)) w') :
    wpList Try.prog ops Q (o :: rest) a w := by
  obtain ⟨i0, hi0, hz0, hz1, hz2⟩ := info_parts uint32_info
  refine wpList_append_lies w hgd s x 117 ho base 38 i0 _ 1 4 Try.underlying117 hi0 hz0 hz1 hz2 rfl (by omega) v n (ints .u32 xs) hs hown ⟨b, 0, none⟩ 1 1 [.int .u32 y] hx rfl (World.news_of_block (cs := #[.int .u32 y]) hb) (by simp [Value.oneCell']) (by omega) (by simp [maxLen]; omega) (by omega) hbase w.heap.size rfl (fun g cap w' h1 h2 _ _ => h g cap w' ?_ h2)
  have e : ints .u32 (xs ++ [y]) = ints .u32 xs ++ [.int .u32 y] := by simp [ints]
  rw [e]
  exact h1

theorem Rd.of_own {w : World} {base : Nat} {e : TypeId} {v : Value} {n : Nat} {xs : List Value} (h : w.ownsRow base e 1 v n xs) : ∃ A c, v = .slice A n c ∧ Rd w A xs ∧ (∀ a, A = some a → base ≤ a.block ∧ a.block < w.heap.size) ∧ n ≤ c := by
  rcases h.2 with ⟨rfl, rfl⟩ | ⟨g, cap, cur, rfl, h1, h2, h3, h4, h5, h6⟩
  · refine ⟨none, 0, rfl, ?_, (fun a ha => by cases ha), Nat.le_refl _⟩
    have : xs = [] := List.eq_nil_of_length_eq_zero (by simpa using h.1)
    rw [this]; exact Rd.nil _ _
  · refine ⟨_, _, rfl, (fun _ => ⟨g, 0, rfl, fun i v hv => ?_⟩), (fun a ha => ?_), h3⟩
    · have hi : i < xs.length := (List.getElem?_eq_some_iff.1 hv).1
      have := h.cellAt i (by rw [← h.1]; exact hi)
      rw [Nat.zero_add, this]; exact hv
    · injection ha with ha; subst ha; exact ⟨h1, (h.lt g rfl).2⟩
end Go.Proofs.Ytmahaihcmmmhbaa
