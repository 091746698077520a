/-
  CopyWords: words in a block of their own.
-/
import Derived.Test.YtdhcgghdimkdbaaGen
namespace Go.Proofs.Ytdhcgghdimkdbaa
open Go.RowKit
theorem append_words {w : World} {ops : Array Oper} {rest : List Oper} {o : Oper} {a : Act} {Q : Exit → Act → World → Prop} (hgd : o.guard = none) (s x : Operand)
    (ho : o.op = .call { callee := .builtin .append, args := #[s, x], argTypes := #[30, 30] })
    (base b o1 c : Nat) (ys : List Int) (hs : a.eval s = .slice none 0 0) (hx : a.eval x = .slice (some ⟨b, o1, none⟩) ys.length c)
    (hR : ∀ i, i < ys.length → w.cell? ⟨b, o1 + i, none⟩ = some (.int .u32 (ys.getD i 0))) (hm : 0 < ys.length) (hl : ys.length ≤ 16777216) (hbase : base ≤ w.heap.size)
    (h : ∀ g cap w', w'.ownsRow base 27 1 (.slice (some ⟨g, 0, none⟩) ys.length cap) ys.length (ints .u32 ys) → w.grownBy w' (Value.slice none 0 0).ownBlock → wpList Try.prog ops Q rest (a.put o.dst (.slice (some ⟨g, 0, none⟩) ys.length cap)) w') :
    wpList Try.prog ops Q (o :: rest) a w := by
  obtain ⟨i0, hi0, hz0, hz1, hz2⟩ := info_parts uint32_info
  refine wpList_append_lies w hgd s x 30 ho base 27 i0 _ 1 4 Try.underlying30 hi0 hz0 hz1 hz2 rfl (by omega) (.slice none 0 0) 0 [] hs (World.ownsRow_nil w _ _ _) ⟨b, o1, none⟩ ys.length c (ints .u32 ys) hx (by rw [ints_length, Nat.mul_one]) (fun j u hu => ?_) (fun u hu => ?_) hm (by simp [maxLen]; omega) (by omega) hbase w.heap.size rfl (fun g cap w' h1 h2 _ _ => ?_)
  · have hj : j < ys.length := by have := (List.getElem?_eq_some_iff.1 hu).1; rwa [ints_length] at this
    rw [ints_get hj] at hu
    have := hR j hj
    rw [addr_add, this]
    exact hu
  · unfold ints at hu
    obtain ⟨y, _, rfl⟩ := List.mem_map.1 hu
    rfl
  · rw [Nat.zero_add] at h1 ⊢
    rw [List.nil_append] at h1
    exact h g cap w' h1 h2
theorem own_blk {w : World} {base : Nat} {e : TypeId} {g n cap : Nat} {xs : List Value} (h : w.ownsRow base e 1 (.slice (some ⟨g, 0, none⟩) n cap) n xs) : ∃ arr, Blk w g e arr ∧ base ≤ g ∧ n ≤ arr.size ∧ arr.toList.take n = xs := by
  rcases h.2 with ⟨h1, _⟩ | ⟨g', cap', cur, h1, h2, h3, h4, h5, h6, h7⟩
  · cases h1
  · injection h1 with h1 _ h8
    injection h1 with h1
    injection h1 with h1
    subst h1 h8
    exact ⟨cur, h3, h2, by omega, by simpa using h7⟩
theorem copyWords_is (w : World) (A : Option Addr) (cp : Nat) (xs : List Int) (hx : Rd w A (ints .u32 xs)) (hne : 0 < xs.length) (hl : xs.length ≤ 16777216) :
    Calls Try.prog 21 #[.slice A xs.length cp] w fun e w' => ∃ g c arr, e = .returned (.slice (some ⟨g, 0, none⟩) xs.length c) ∧ Blk w' g 27 arr ∧ (∀ i, i < xs.length → arr[i]? = some (.int .u32 (xs.getD i 0))) ∧ w.heap.size ≤ g ∧ Frm NoB w w' := by
  obtain ⟨b, o1, rfl, hc⟩ := hx (ints_ne (by intro e; rw [e] at hne; simp at hne))
  have HC : Hid (∀ i, i < xs.length → w.cell? ⟨b, o1 + i, none⟩ = some (.int .u32 (xs.getD i 0))) := fun i hi => hc i _ (ints_get hi)
  clear hc hx
  go_enter Try.func21, Try.ntmps21
  go_wp2_with (at_builtin; refine append_words rfl (.tmp 4) (.tmp 5) rfl w.heap.size b o1 cp xs rfl rfl HC.out hne hl (Nat.le_refl _) ?_; intro g cap w' hown hgrow)
  go_ret
  obtain ⟨arr, h1, h2, h3, h4⟩ := own_blk hown
  refine ⟨g, cap, arr, rfl, h1, fun i hi => ?_, h2, (Frm.refl NoB w).grown hgrow (fun b hb _ => by cases hb)⟩
  have e : (arr.toList.take xs.length)[i]? = some (.int .u32 (xs.getD i 0)) := by rw [h4]; exact ints_get hi
  rw [List.getElem?_take_of_lt hi] at e
  simpa using e
theorem copyWords_at (w : World) (A : Option Addr) (cp n : Nat) (xs : List Int) (hn : xs.length = n) (hx : Rd w A (ints .u32 xs)) (hne : 0 < xs.length) (hl : xs.length ≤ 16777216) :
    Calls Try.prog 21 #[.slice A n cp] w fun e w' => ∃ g c arr, e = .returned (.slice (some ⟨g, 0, none⟩) n c) ∧ Blk w' g 27 arr ∧ (∀ i, i < xs.length → arr[i]? = some (.int .u32 (xs.getD i 0))) ∧ w.heap.size ≤ g ∧ Frm NoB w w' := by
  subst hn; exact copyWords_is w A cp xs hx hne hl
end Go.Proofs.Ytdhcgghdimkdbaa
