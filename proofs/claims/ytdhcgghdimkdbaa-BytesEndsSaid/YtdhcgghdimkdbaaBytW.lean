/-
  Rows of bytes: one that is read, one of a call's own; bytes more behind an own row.
-/
import Derived.Test.YtdhcgghdimkdbaaBytP
import Derived.Maps.AppendAt
import Derived.Laws.AppendOwnNone
namespace Go.Proofs.Ytdhcgghdimkdbaa
open Go.RowKit
/-- bytes at a value -/
def By (w : World) (v : Value) (xs : List Int) : Prop := ∃ A c, v = .slice A xs.length c ∧ Rd w A (ints .u8 xs) ∧ (A = none → c = 0) ∧ xs.length ≤ c ∧ (c : Int) ≤ 9223372036854775807 ∧ U8 xs
/-- bytes in a row of one's own -/
def Ob (w : World) (B : Nat) (v : Value) (xs : List Int) : Prop := w.ownsRow B 5 1 v xs.length (ints .u8 xs) ∧ U8 xs
/-- the block of a value -/
def RowB (v : Value) : Nat → Prop := fun k => v.ownBlock = some k
theorem By.u {w : World} {v : Value} {xs : List Int} (h : By w v xs) : U8 xs := by obtain ⟨_, _, _, _, _, _, _, h⟩ := h; exact h
theorem By.frm1 {S : Nat → Prop} {w w' : World} {v : Value} {xs : List Int} (h : By w v xs) (hf : Frm S w w') (hn : xs ≠ [] → ∀ k, RowB v k → ¬ S k) : By w' v xs := by
  obtain ⟨A, c, rfl, h1, h2, h3, h4, h5⟩ := h
  refine ⟨A, c, rfl, ?_, h2, h3, h4, h5⟩
  by_cases e : xs = []
  · rw [e]; exact Rd.nil _ _
  · exact h1.frm hf (fun a ha => hn e _ (by subst ha; rfl))
theorem By.frm {S : Nat → Prop} {w w' : World} {v : Value} {xs : List Int} (h : By w v xs) (hf : Frm S w w') (hn : ∀ k, RowB v k → ¬ S k) : By w' v xs := h.frm1 hf (fun _ => hn)
theorem By.frm0 {w w' : World} {v : Value} {xs : List Int} (h : By w v xs) (hf : Frm NoB w w') : By w' v xs := h.frm hf (fun _ _ e => e)
theorem By.nil (w : World) : By w (.slice none 0 0) [] := ⟨none, 0, rfl, Rd.nil _ _, fun _ => rfl, Nat.le_refl _, by omega, U8.nil⟩
theorem Ob.nil (w : World) (B : Nat) : Ob w B (.slice none 0 0) [] := ⟨World.ownsRow_nil w _ _ _, U8.nil⟩
theorem Ob.by_ {w : World} {B : Nat} {v : Value} {xs : List Int} (h : Ob w B v xs) : By w v xs := by
  obtain ⟨h1, h2⟩ := h
  rcases h1.2 with ⟨rfl, h3⟩ | ⟨g, cap, cur, rfl, h4, h5, h6, h7, h8, h9⟩
  · have : xs = [] := List.eq_nil_of_length_eq_zero h3
    subst this; exact By.nil w
  · refine ⟨_, cap, rfl, fun _ => ⟨g, 0, rfl, fun i v hv => ?_⟩, (fun e => by cases e), h6, by simp only [maxLen] at h7; omega, h2⟩
    have hi : i < (ints .u8 xs).length := (List.getElem?_eq_some_iff.1 hv).1
    have := h1.cellAt i (by rw [← h1.1]; exact hi)
    rw [Nat.zero_add, this]; exact hv
theorem Ob.frm {S : Nat → Prop} {w w' : World} {B : Nat} {v : Value} {xs : List Int} (h : Ob w B v xs) (hf : Frm S w w') (hn : ∀ k, RowB v k → ¬ S k) : Ob w' B v xs := ⟨own_frm h.1 hf hn, h.2⟩
theorem Ob.frm0 {w w' : World} {B : Nat} {v : Value} {xs : List Int} (h : Ob w B v xs) (hf : Frm NoB w w') : Ob w' B v xs := h.frm hf (fun _ _ e => e)
theorem Ob.lo {w : World} {B : Nat} {v : Value} {xs : List Int} (h : Ob w B v xs) {k : Nat} (hk : RowB v k) : B ≤ k ∧ k < w.heap.size := h.1.lt k hk
theorem Ob.lower {w : World} {B B' : Nat} {v : Value} {xs : List Int} (h : Ob w B v xs) (hB : B' ≤ B) : Ob w B' v xs := by
  refine ⟨⟨h.1.1, ?_⟩, h.2⟩
  rcases h.1.2 with h1 | ⟨g, cap, cur, h1, h2, h3⟩
  · exact .inl h1
  · exact .inr ⟨g, cap, cur, h1, by omega, h3⟩
theorem By.take {w : World} {A : Option Addr} {n c : Nat} {xs : List Int} (h : By w (.slice A n c) xs) {k : Nat} (hk : k ≤ xs.length) : By w (.slice A k c) (xs.take k) := by
  obtain ⟨A', c', e, h1, h2, h3, h4, h5⟩ := h
  injection e with e1 e2 e3
  subst e1 e3
  have hl : (xs.take k).length = k := by rw [List.length_take]; omega
  refine ⟨A, c, by rw [hl], fun hne => ?_, h2, by omega, h4, h5.take k⟩
  obtain ⟨b, o, e, hc⟩ := h1 (ints_ne (by intro e; subst e; simp [ints] at hne))
  refine ⟨b, o, e, fun i v hi => hc i v ?_⟩
  have hik : i < k := by have := (List.getElem?_eq_some_iff.1 hi).1; rwa [ints_length, hl] at this
  rw [← hi]
  simp only [ints, List.map_take]
  rw [List.getElem?_take_of_lt hik]
/-- what an append came to: the row, and whose block it is -/
structure Grew (w : World) (B : Nat) (sv v' : Value) (xs : List Int) (w' : World) : Prop where
  o : Ob w' B v' xs
  f : Frm (RowB sv) w w'
  k : ∀ k, RowB v' k → RowB sv k ∨ w.heap.size ≤ k
theorem Grew.trans {w w1 w2 : World} {B : Nat} {sv v1 v2 : Value} {xs ys : List Int} (h : Grew w B sv v1 xs w1) (g : Grew w1 B v1 v2 ys w2) : Grew w B sv v2 ys w2 :=
  ⟨g.o, h.f.then_ g.f (fun i hi hk => by
    rcases h.k i hk with h1 | h1
    · exact h1
    · omega), fun k hk => by
    rcases g.k k hk with h1 | h1
    · exact h.k k h1
    · have := h.f.size; right; omega⟩
theorem Grew.frm {w w1 w2 : World} {B : Nat} {sv v1 : Value} {xs : List Int} (h : Grew w B sv v1 xs w1) (hf : Frm NoB w1 w2) : Grew w B sv v1 xs w2 := ⟨h.o.frm0 hf, h.f.trans (hf.mono (fun _ _ e => e.elim)), h.k⟩
theorem Grew.refl {w : World} {B : Nat} {v : Value} {xs : List Int} (h : Ob w B v xs) : Grew w B v v xs w := ⟨h, Frm.refl _ _, fun _ hk => .inl hk⟩
theorem Grew.pre {w0 w w' : World} {B : Nat} {sv v' : Value} {xs : List Int} (hf : Frm NoB w0 w) (h : Grew w B sv v' xs w') : Grew w0 B sv v' xs w' :=
  ⟨h.o, (hf.mono (fun _ _ e => e.elim)).trans h.f, fun k hk => by
    rcases h.k k hk with h1 | h1
    · exact .inl h1
    · have := hf.size; right; omega⟩
/-- behind a row of none all is new -/
theorem Grew.new {w w' : World} {B : Nat} {v' : Value} {xs : List Int} (h : Grew w B (.slice none 0 0) v' xs w') : Frm NoB w w' := h.f.mono (fun k _ e => by cases e)
/-- nothing below B is another one -/
theorem Grew.below {w0 w w' : World} {B : Nat} {sv v' : Value} {xs ys : List Int} (h : Grew w B sv v' xs w') (ho : Ob w B sv ys) (hf : Frm NoB w0 w) (hB : w0.heap.size ≤ B) : Frm NoB w0 w' :=
  hf.then_ h.f (fun i hi hk => by have := (ho.lo hk).1; omega)
theorem uint8_info : (Try.prog.info? 5).map (fun i => (i.zero, i.size, i.bytes)) = some (some (.int .u8 0), 1, 1) := by kernel_rfl
/-- bytes more -/
theorem append_bytes {w : World} {ops : Array Oper} {rest : List Oper} {o : Oper} {a : Act} {Q : Exit → Act → World → Prop} (hgd : o.guard = none) (s x : Operand)
    (ho : o.op = .call { callee := .builtin .append, args := #[s, x], argTypes := #[23, 23] })
    (base : Nat) (v vx : Value) (xs ys : List Int) (hs : a.eval s = v) (hx : a.eval x = vx) (hown : Ob w base v xs) (hy : By w vx ys) (hl : xs.length + ys.length ≤ 16777216) (hbase : base ≤ w.heap.size)
    (h : ∀ v' w', Grew w base v v' (xs ++ ys) w' → wpList Try.prog ops Q rest (a.put o.dst v') w') :
    wpList Try.prog ops Q (o :: rest) a w := by
  obtain ⟨i0, hi0, hz0, hz1, hz2⟩ := info_parts uint8_info
  obtain ⟨A, c, rfl, h1, h2, h3, h4, h5⟩ := hy
  cases A with
  | none =>
    obtain rfl := h2 rfl
    have e : ys = [] := List.eq_nil_of_length_eq_zero (by omega)
    subst e
    refine wpList_append_own_none hgd s x 23 ho base 5 i0 1 Try.underlying23 hi0 v _ _ hs hown.1 hx ?_
    refine h v w ?_
    rw [List.append_nil]
    exact Grew.refl hown
  | some ad =>
    refine wpList_append_own_at w hgd s x 23 ho base 5 i0 _ 1 1 Try.underlying23 hi0 hz0 hz1 hz2 rfl (by omega) v xs.length (ints .u8 xs) hs hown.1 ad ys.length c (ints .u8 ys) hx (by rw [ints_length, Nat.mul_one]) (fun j u hu => ?_) (fun u hu => ?_) (by simp only [maxLen]; omega) (by omega) hbase (fun v' w' k1 k2 _ k3 => h v' w' ⟨⟨?_, hown.2.append h5⟩, ?_, fun k hk => ?_⟩)
    · obtain ⟨b, o1, e, hc⟩ := h1 (fun e => by rw [e] at hu; cases hu)
      injection e with e
      subst e
      rw [addr_add]
      exact hc j u hu
    · unfold ints at hu
      obtain ⟨y, _, rfl⟩ := List.mem_map.1 hu
      rfl
    · rw [List.length_append, ints_append]; exact k1
    · exact (Frm.refl _ w).grown k2 (fun g hg _ => hg)
    · rcases k3 with k3 | k3
      · exact .inl (by unfold RowB at hk ⊢; rw [← k3]; exact hk)
      · right
        unfold RowB at hk
        rw [k3] at hk
        injection hk with hk
        omega
/-- bytes that were just laid -/
theorem by_lit (w : World) (ys : List Int) (u : U8 ys) (hl : ys.length ≤ 16777216) (cs : Array Value) (hcs : cs = (ints .u8 ys).toArray) (n : Nat) (hn : ys.length = n) : By (w.alloc (.cells cs 5)) (.slice (some ⟨w.heap.size, 0, none⟩) n n) ys := by
  subst hcs hn
  refine ⟨_, _, rfl, fun _ => ⟨w.heap.size, 0, rfl, fun i v hv => ?_⟩, (fun e => by cases e), Nat.le_refl _, by omega, u⟩
  rw [Nat.zero_add, (Blk.new w 5 (ints .u8 ys).toArray).cell i]
  simpa using hv
end Go.Proofs.Ytdhcgghdimkdbaa
