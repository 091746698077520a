/-
  sha: primes: the walk.
-/
import Derived.Test.YtmahaihcmmmhbaaSh2
namespace Go.Proofs.Ytmahaihcmmmhbaa
open Go.RowKit
theorem uint64_info : (Try.prog.info? 23).map (fun i => (i.zero, i.size, i.bytes)) = some (some (.int .u64 0), 1, 8) := by kernel_rfl
theorem append_u64 {w : World} {ops : Array Oper} {rest : List Oper} {o : Oper} {a : Act} {Q : Exit → Act → World → Prop} (hgd : o.guard = none) (s x : Operand)
    (ho : o.op = .call { callee := .builtin .append, args := #[s, x], argTypes := #[63, 63] })
    (base n b : Nat) (v : Value) (xs : List Int) (y : Int) (hs : a.eval s = v) (hx : a.eval x = .slice (some ⟨b, 0, none⟩) 1 1)
    (hown : w.ownsRow base 23 1 v n (ints .u64 xs)) (hb : Blk w b 23 #[.int .u64 y]) (hn : n ≤ 16777216) (hbase : base ≤ w.heap.size)
    (h : ∀ g cap w', w'.ownsRow base 23 1 (.slice (some ⟨g, 0, none⟩) (n + 1) cap) (n + 1) (ints .u64 (xs ++ [y])) → w.grownBy w' v.ownBlock → (v.ownBlock = some g ∨ g = w.heap.size) → wpList Try.prog ops Q rest (a.put o.dst (.slice (some ⟨g, 0, none⟩) (n + 1) cap)) w') :
    wpList Try.prog ops Q (o :: rest) a w := by
  obtain ⟨i0, hi0, hz0, hz1, hz2⟩ := info_parts uint64_info
  refine wpList_append_lies w hgd s x 63 ho base 23 i0 _ 1 8 Try.underlying63 hi0 hz0 hz1 hz2 rfl (by omega) v n (ints .u64 xs) hs hown ⟨b, 0, none⟩ 1 1 [.int .u64 y] hx rfl (World.news_of_block (cs := #[.int .u64 y]) hb) (by simp [Value.oneCell']) (by omega) (by simp [maxLen]; omega) (by omega) hbase w.heap.size rfl (fun g cap w' h1 h2 h3 _ => h g cap w' ?_ h2 h3)
  have e : ints .u64 (xs ++ [y]) = ints .u64 xs ++ [.int .u64 y] := by simp [ints]
  rw [e]
  exact h1
theorem hits_take {l : List Int} {p : Int} {j : Nat} (hj : j < l.length) : hits (l.take (j + 1)) p = (hits (l.take j) p || decide (p % l.getD j 0 = 0)) := by
  unfold hits
  rw [List.take_succ_eq_append_getElem hj, List.any_append, List.getD_eq_getElem?_getD, List.getElem?_eq_getElem hj]
  simp
theorem hits_of {l : List Int} {p : Int} {j : Nat} (hj : j < l.length) (h : p % l.getD j 0 = 0) : hits l p = true := by
  unfold hits
  rw [List.any_eq_true]
  refine ⟨l[j], List.getElem_mem hj, ?_⟩
  rw [List.getD_eq_getElem?_getD, List.getElem?_eq_getElem hj] at h
  exact decide_eq_true h
def IxRel (l : List Int) (p : Int) (w : World) (v : Value) (wr : World) : Prop := ∃ j : Nat, j ≤ l.length ∧ v = .int .i64 j ∧ hits (l.take j) p = false ∧ wr = w
def IxPost (l : List Int) (p : Int) (w : World) (e : Ending) (w' : World) : Prop := ∃ r : Int, e = .returned (.int .i64 r) ∧ hits l p = decide (r ≥ 0) ∧ w = w'
set_option maxHeartbeats 1000000 in
theorem index64_is (l : List Int) (p : Int) (A : Option Addr) (cp n bf bp : Nat) (w : World) (hr : Rd w A (ints .u64 l)) (hn : l.length = n) (hl : n ≤ 1000) (hin : ∀ x ∈ l, 2 ≤ x ∧ x < 1000) (h0 : 0 ≤ p) (h1 : p < 1000)
    (hf : w.cell? ⟨bf, 0, none⟩ = some (.func (.func 36) #[] #[])) (hp : w.cell? ⟨bp, 0, none⟩ = some (.int .u64 p)) :
    Calls Try.prog 57 #[.slice A n cp, .func (.func 38) #[] #[.pointer (some ⟨bf, 0, none⟩), .pointer (some ⟨bp, 0, none⟩)]] w (IxPost l p w) := by
  subst hn
  have HR := hide hr
  have HIN := hide hin
  have KT : Hid (∀ q : Int, 2 ≤ q → q < 1000 → Calls Try.prog 38 #[.int .u64 q, .pointer (some ⟨bf, 0, none⟩), .pointer (some ⟨bp, 0, none⟩)] w fun e w' => e = .returned (.bool (decide (p % q = 0))) ∧ w = w') := fun q h2 h3 => test_is p q bf bp h0 h1 h2 h3 w hf hp
  have hl' : (l.length : Int) ≤ 1000 := by omega
  clear hr hin hf hp h0 h1
  go_enter Try.func57, Try.ntmps57
  go_wp2
  go_loopw [8] (fun v wr => IxRel l p w v wr) (fun v _ => l.length - (intOf v).toNat)
  case atStart => exact ⟨0, by omega, rfl, by simp [hits], rfl⟩
  case round =>
    obtain ⟨j, hj, rfl, hh, rfl⟩ := hrel
    have HH := hide hh
    clear hh
    by_cases hlt : j < l.length
    · obtain ⟨b, o, rfl, hc⟩ := HR.out (ints_ne (by intro e; subst e; simp at hlt))
      have h1 := hc j _ (ints_get hlt)
      have i0 : (0 : Int) ≤ (j : Int) := by omega
      have i1 : (j : Int) < (l.length : Int) := by omega
      have K1 : Hid (p % l.getD j 0 = 0 → hits l p = true) := fun h => hits_of hlt h
      have K2 : Hid (¬ p % l.getD j 0 = 0 → hits (l.take (j + 1)) p = false) := fun h => by rw [hits_take hlt, HH.out, decide_eq_false h]; rfl
      have hx := HIN.out (l.getD j 0) (by rw [List.getD_eq_getElem?_getD, List.getElem?_eq_getElem hlt]; exact List.getElem_mem hlt)
      have HX := hide hx
      clear hc hx
      generalize l.getD j 0 = x at *
      obtain ⟨b0, hb0⟩ : ∃ b0, decide (p % x = 0) = b0 := ⟨_, rfl⟩
      have KX := KT.out x HX.out.1 HX.out.2
      rw [hb0] at KX
      have KX := hide KX
      have HB0 := hide hb0
      clear hb0
      cases b0
      · go_wp2_with fail
        refine KX.out.mono ?_
        rintro e w' ⟨rfl, rfl⟩
        go_wp2
        go_roundw
        case rel => exact ⟨j + 1, by omega, by go_num, K2.out (of_decide_eq_false HB0.out), rfl⟩
        case measure => simp [intOf]; omega
      · go_wp2_with fail
        refine KX.out.mono ?_
        rintro e w' ⟨rfl, rfl⟩
        go_wp2
        go_ret
        exact ⟨_, rfl, by rw [K1.out (of_decide_eq_true HB0.out), decide_eq_true (by omega)], rfl⟩
    · obtain rfl : j = l.length := by omega
      have E : Hid (hits l p = false) := by have := HH.out; rwa [List.take_length] at this
      go_wp2
      go_ret
      exact ⟨_, rfl, by rw [E.out]; rfl, rfl⟩
set_option maxHeartbeats 1000000 in
theorem contains64_is (l : List Int) (p : Int) (A : Option Addr) (cp n bf bp : Nat) (w : World) (hr : Rd w A (ints .u64 l)) (hn : l.length = n) (hl : n ≤ 1000) (hin : ∀ x ∈ l, 2 ≤ x ∧ x < 1000) (h0 : 0 ≤ p) (h1 : p < 1000)
    (hf : w.cell? ⟨bf, 0, none⟩ = some (.func (.func 36) #[] #[])) (hp : w.cell? ⟨bp, 0, none⟩ = some (.int .u64 p)) :
    Calls Try.prog 37 #[.slice A n cp, .func (.func 38) #[] #[.pointer (some ⟨bf, 0, none⟩), .pointer (some ⟨bp, 0, none⟩)]] w fun e w' => e = .returned (.bool (hits l p)) ∧ w = w' := by
  have K := hide (index64_is l p A cp n bf bp w hr hn hl hin h0 h1 hf hp)
  clear hr hn hl hin h0 h1 hf hp
  go_enter Try.func37, Try.ntmps37
  go_wp2_with fail
  refine K.out.mono ?_
  rintro e w' ⟨r, rfl, hh, rfl⟩
  have HH := hide hh
  clear hh K
  go_wp2
  go_ret
  exact ⟨by rw [HH.out]; rfl, rfl⟩
end Go.Proofs.Ytmahaihcmmmhbaa
