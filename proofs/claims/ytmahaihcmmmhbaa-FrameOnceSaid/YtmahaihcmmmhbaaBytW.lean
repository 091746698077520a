/-
  Rows of bytes: one that is read, one of a call's own; bytes more behind an own row.
-/
import Derived.Test.YtmahaihcmmmhbaaBytP
import Derived.Maps.AppendAt
import Derived.ArgAppend
import Derived.Laws.AppendOwnNone
namespace Go.Proofs.Ytmahaihcmmmhbaa
open Go.RowKit
/-- bytes at a value -/
def By (w : World) (v : Value) (xs : List Int) : Prop := ∃ A c, v = .slice A xs.length c ∧ Rd w A (ints .u8 xs) ∧ (A = none → c = 0) ∧ xs.length ≤ c ∧ (c : Int) ≤ 9223372036854775807 ∧ U8 xs
/-- bytes in a row of one's own -/
def Ob (w : World) (B : Nat) (v : Value) (xs : List Int) : Prop := w.ownsRow B 5 1 v xs.length (ints .u8 xs) ∧ U8 xs
/-- the block of a value -/
def RowB (v : Value) : Nat → Prop := fun k => v.ownBlock = some k
theorem By.u {w : World} {v : Value} {xs : List Int} (h : By w v xs) : U8 xs := by obtain ⟨_, _, _, _, _, _, _, h⟩ := h; exact h
theorem By.frm1 {S : Nat → Prop} {w w' : World} {v : Value} {xs : List Int} (h : By w v xs) (hf : Frm S w w') (hn : xs ≠ [] → ∀ k, RowB v k → ¬ S k) : By w' v xs := by
  obtain ⟨A, c, rfl, h1, h2, h3, h4, h5⟩ := h
  refine ⟨A, c, rfl, ?_, h2, h3, h4, h5⟩
  by_cases e : xs = []
  · rw [e]; exact Rd.nil _ _
  · exact h1.frm hf (fun a ha => hn e _ (by subst ha; rfl))
theorem By.frm {S : Nat → Prop} {w w' : World} {v : Value} {xs : List Int} (h : By w v xs) (hf : Frm S w w') (hn : ∀ k, RowB v k → ¬ S k) : By w' v xs := h.frm1 hf (fun _ => hn)
theorem By.frm0 {w w' : World} {v : Value} {xs : List Int} (h : By w v xs) (hf : Frm NoB w w') : By w' v xs := h.frm hf (fun _ _ e => e)
theorem By.nil (w : World) : By w (.slice none 0 0) [] := ⟨none, 0, rfl, Rd.nil _ _, fun _ => rfl, Nat.le_refl _, by omega, U8.nil⟩
theorem Ob.nil (w : World) (B : Nat) : Ob w B (.slice none 0 0) [] := ⟨World.ownsRow_nil w _ _ _, U8.nil⟩
theorem Ob.by_ {w : World} {B : Nat} {v : Value} {xs : List Int} (h : Ob w B v xs) : By w v xs := by
  obtain ⟨h1, h2⟩ := h
  rcases h1.2 with ⟨rfl, h3⟩ | ⟨g, cap, cur, rfl, h4, h5, h6, h7, h8, h9⟩
  · have : xs = [] := List.eq_nil_of_length_eq_zero h3
    subst this; exact By.nil w
  · refine ⟨_, cap, rfl, fun _ => ⟨g, 0, rfl, fun i v hv => ?_⟩, (fun e => by cases e), h6, by simp only [maxLen] at h7; omega, h2⟩
    have hi : i < (ints .u8 xs).length := (List.getElem?_eq_some_iff.1 hv).1
    have := h1.cellAt i (by rw [← h1.1]; exact hi)
    rw [Nat.zero_add, this]; exact hv
theorem Ob.frm {S : Nat → Prop} {w w' : World} {B : Nat} {v : Value} {xs : List Int} (h : Ob w B v xs) (hf : Frm S w w') (hn : ∀ k, RowB v k → ¬ S k) : Ob w' B v xs := ⟨own_frm h.1 hf hn, h.2⟩
theorem Ob.frm0 {w w' : World} {B : Nat} {v : Value} {xs : List Int} (h : Ob w B v xs) (hf : Frm NoB w w') : Ob w' B v xs := h.frm hf (fun _ _ e => e)
theorem Ob.lo {w : World} {B : Nat} {v : Value} {xs : List Int} (h : Ob w B v xs) {k : Nat} (hk : RowB v k) : B ≤ k ∧ k < w.heap.size := h.1.lt k hk
theorem Ob.lower {w : World} {B B' : Nat} {v : Value} {xs : List Int} (h : Ob w B v xs) (hB : B' ≤ B) : Ob w B' v xs := by
  refine ⟨⟨h.1.1, ?_⟩, h.2⟩
  rcases h.1.2 with h1 | ⟨g, cap, cur, h1, h2, h3⟩
  · exact .inl h1
  · exact .inr ⟨g, cap, cur, h1, by omega, h3⟩
theorem By.take {w : World} {A : Option Addr} {n c : Nat} {xs : List Int} (h : By w (.slice A n c) xs) {k : Nat} (hk : k ≤ xs.length) : By w (.slice A k c) (xs.take k) := by
  obtain ⟨A', c', e, h1, h2, h3, h4, h5⟩ := h
  injection e with e1 e2 e3
  subst e1 e3
  have hl : (xs.take k).length = k := by rw [List.length_take]; omega
  refine ⟨A, c, by rw [hl], fun hne => ?_, h2, by omega, h4, h5.take k⟩
  obtain ⟨b, o, e, hc⟩ := h1 (ints_ne (by intro e; subst e; simp [ints] at hne))
  refine ⟨b, o, e, fun i v hi => hc i v ?_⟩
  have hik : i < k := by have := (List.getElem?_eq_some_iff.1 hi).1; rwa [ints_length, hl] at this
  rw [← hi]
  simp only [ints, List.map_take]
  rw [List.getElem?_take_of_lt hik]
/-- of a block the first n cells are as they were -/
def Pfx (w w' : World) (g n : Nat) : Prop := ∀ cur t, Blk w g t cur → ∃ cur', Blk w' g t cur' ∧ cur'.size = cur.size ∧ cur'.toList.take n = cur.toList.take n
theorem Pfx.refl (w : World) (g n : Nat) : Pfx w w g n := fun cur t h => ⟨cur, h, rfl, rfl⟩
theorem Pfx.of_frm {S : Nat → Prop} {w w' : World} {g n : Nat} (hf : Frm S w w') (hg : ¬ S g) : Pfx w w' g n := fun cur t h => ⟨cur, h.frm hf hg, rfl, rfl⟩
theorem Pfx.trans {w w1 w2 : World} {g n m : Nat} (h : Pfx w w1 g n) (k : Pfx w1 w2 g m) (hn : n ≤ m) : Pfx w w2 g n := fun cur t hc => by
  obtain ⟨c1, b1, s1, t1⟩ := h cur t hc
  obtain ⟨c2, b2, s2, t2⟩ := k c1 t b1
  refine ⟨c2, b2, s2.trans s1, ?_⟩
  have e := congrArg (List.take n) t2
  rw [List.take_take, List.take_take, Nat.min_eq_left hn] at e
  exact e.trans t1
/-- what an append came to: the row, whose block it is; and the old row is as it was -/
structure Grew (w : World) (B : Nat) (sv v' : Value) (xs : List Int) (w' : World) : Prop where
  o : Ob w' B v' xs
  f : Frm (RowB sv) w w'
  k : ∀ k, RowB v' k → RowB sv k ∨ w.heap.size ≤ k
  p : ∀ g n c, sv = .slice (some ⟨g, 0, none⟩) n c → g < w.heap.size → Pfx w w' g n ∧ ∀ n' c', v' = .slice (some ⟨g, 0, none⟩) n' c' → n ≤ n'
theorem Ob.form {w : World} {B : Nat} {v : Value} {xs : List Int} (h : Ob w B v xs) : v = .slice none 0 0 ∨ ∃ g n c, v = .slice (some ⟨g, 0, none⟩) n c ∧ g < w.heap.size := by
  rcases h.1.2 with ⟨h1, _⟩ | ⟨g, cap, cur, h1, _⟩
  · exact .inl h1
  · exact .inr ⟨g, _, cap, h1, (h.1.lt g (by rw [h1]; rfl)).2⟩
theorem Grew.trans {w w1 w2 : World} {B : Nat} {sv v1 v2 : Value} {xs ys : List Int} (h : Grew w B sv v1 xs w1) (g : Grew w1 B v1 v2 ys w2) : Grew w B sv v2 ys w2 :=
  ⟨g.o, h.f.then_ g.f (fun i hi hk => by
    rcases h.k i hk with h1 | h1
    · exact h1
    · omega), fun k hk => by
    rcases g.k k hk with h1 | h1
    · exact h.k k h1
    · have := h.f.size; right; omega, fun b n c e hb => by
    obtain ⟨p1, l1⟩ := h.p b n c e hb
    have hs := h.f.size
    have far : ¬ RowB v1 b → Pfx w w2 b n ∧ ∀ n' c', v2 = .slice (some ⟨b, 0, none⟩) n' c' → n ≤ n' := fun hn =>
      ⟨p1.trans (Pfx.of_frm g.f hn) (Nat.le_refl n), fun n' c' e2 => by
        rcases g.k b (by rw [e2]; rfl) with h1 | h1
        · exact absurd h1 hn
        · omega⟩
    rcases h.o.form with h1 | ⟨b1, n1, c1, h1, h2⟩
    · exact far (by rw [h1]; intro e; cases e)
    · by_cases hb1 : b1 = b
      · subst hb1
        obtain ⟨p2, l2⟩ := g.p _ _ _ h1 h2
        have := l1 n1 c1 h1
        exact ⟨p1.trans p2 this, fun n' c' e2 => by have := l2 n' c' e2; omega⟩
      · exact far (by rw [h1]; intro e; injection e with e; exact hb1 e)⟩
theorem Grew.frm {w w1 w2 : World} {B : Nat} {sv v1 : Value} {xs : List Int} (h : Grew w B sv v1 xs w1) (hf : Frm NoB w1 w2) : Grew w B sv v1 xs w2 :=
  ⟨h.o.frm0 hf, h.f.trans (hf.mono (fun _ _ e => e.elim)), h.k, fun b n c e hb => ⟨(h.p b n c e hb).1.trans (Pfx.of_frm hf (fun e => e)) (Nat.le_refl n), (h.p b n c e hb).2⟩⟩
theorem Grew.refl {w : World} {B : Nat} {v : Value} {xs : List Int} (h : Ob w B v xs) : Grew w B v v xs w :=
  ⟨h, Frm.refl _ _, fun _ hk => .inl hk, fun b n c e _ => ⟨Pfx.refl _ _ _, fun n' c' e2 => by rw [e] at e2; injection e2 with e3 e4 e5; omega⟩⟩
theorem Grew.pre {w0 w w' : World} {B : Nat} {sv v' : Value} {xs : List Int} (hf : Frm NoB w0 w) (h : Grew w B sv v' xs w') : Grew w0 B sv v' xs w' :=
  ⟨h.o, (hf.mono (fun _ _ e => e.elim)).trans h.f, fun k hk => by
    rcases h.k k hk with h1 | h1
    · exact .inl h1
    · have := hf.size; right; omega, fun b n c e hb => by
    obtain ⟨p1, l1⟩ := h.p b n c e (by have := hf.size; omega)
    exact ⟨(Pfx.of_frm hf (fun e => e)).trans p1 (Nat.le_refl n), l1⟩⟩
/-- the old row is as it was -/
theorem Grew.old {w w' : World} {B : Nat} {sv v' : Value} {xs ys : List Int} (h : Grew w B sv v' ys w') (ho : Ob w B sv xs) : Ob w' B sv xs := by
  refine ⟨⟨ho.1.1, ?_⟩, ho.2⟩
  rcases ho.1.2 with h1 | ⟨g, cap, cur, h1, h2, h3, h4, h5, h6, h7⟩
  · exact .inl h1
  · have hlt := (ho.1.lt g (by rw [h1]; rfl)).2
    obtain ⟨p, _⟩ := h.p g _ cap h1 hlt
    obtain ⟨c', b', s', t'⟩ := p cur _ h3
    refine .inr ⟨g, cap, c', h1, h2, b', h4, h5, s'.trans h6, ?_⟩
    rw [Nat.mul_one] at h7 ⊢
    exact t'.trans h7
/-- behind a row of none all is new -/
theorem Grew.new {w w' : World} {B : Nat} {v' : Value} {xs : List Int} (h : Grew w B (.slice none 0 0) v' xs w') : Frm NoB w w' := h.f.mono (fun k _ e => by cases e)
/-- nothing below B is another one -/
theorem Grew.below {w0 w w' : World} {B : Nat} {sv v' : Value} {xs ys : List Int} (h : Grew w B sv v' xs w') (ho : Ob w B sv ys) (hf : Frm NoB w0 w) (hB : w0.heap.size ≤ B) : Frm NoB w0 w' :=
  hf.then_ h.f (fun i hi hk => by have := (ho.lo hk).1; omega)
theorem uint8_info : (Try.prog.info? 5).map (fun i => (i.zero, i.size, i.bytes)) = some (some (.int .u8 0), 1, 1) := by kernel_rfl
set_option maxRecDepth 100000 in
/-- bytes more -/
theorem append_bytes {w : World} {ops : Array Oper} {rest : List Oper} {o : Oper} {a : Act} {Q : Exit → Act → World → Prop} (hgd : o.guard = none) (s x : Operand)
    (ho : o.op = .call { callee := .builtin .append, args := #[s, x], argTypes := #[32, 32] })
    (base : Nat) (v vx : Value) (xs ys : List Int) (hs : a.eval s = v) (hx : a.eval x = vx) (hown : Ob w base v xs) (hy : By w vx ys) (hl : xs.length + ys.length ≤ 16777216) (hbase : base ≤ w.heap.size)
    (h : ∀ v' w', Grew w base v v' (xs ++ ys) w' → wpList Try.prog ops Q rest (a.put o.dst v') w') :
    wpList Try.prog ops Q (o :: rest) a w := by
  obtain ⟨i0, hi0, hz0, hz1, hz2⟩ := info_parts uint8_info
  obtain ⟨A, c, rfl, h1, h2, h3, h4, h5⟩ := hy
  cases A with
  | none =>
    obtain rfl := h2 rfl
    have e : ys = [] := List.eq_nil_of_length_eq_zero (by omega)
    subst e
    refine wpList_append_own_none hgd s x 32 ho base 5 i0 1 Try.underlying32 hi0 v _ _ hs hown.1 hx ?_
    refine h v w ?_
    rw [List.append_nil]
    exact Grew.refl hown
  | some ad =>
    have hnews : ∀ j u, (ints .u8 ys)[j]? = some u → w.cell? (ad.add j) = some u := fun j u hu => by
      obtain ⟨b, o1, e, hc⟩ := h1 (fun e => by rw [e] at hu; cases hu)
      injection e with e
      subst e
      rw [addr_add]
      exact hc j u hu
    have hone : ∀ u ∈ ints .u8 ys, u.oneCell' = true := fun u hu => by
      unfold ints at hu
      obtain ⟨y, _, rfl⟩ := List.mem_map.1 hu
      rfl
    rcases hown.1.2 with ⟨e1, e2⟩ | ⟨g, cap, cur, e1, e2, e3, e4, e5, e6, e7⟩
    · refine wpList_append_own_at w hgd s x 32 ho base 5 i0 _ 1 1 Try.underlying32 hi0 hz0 hz1 hz2 rfl (by omega) v xs.length (ints .u8 xs) hs hown.1 ad ys.length c (ints .u8 ys) hx (by rw [ints_length, Nat.mul_one]) hnews hone (by simp only [maxLen]; omega) (by omega) hbase (fun v' w' k1 k2 _ k3 => h v' w' ⟨⟨?_, hown.2.append h5⟩, ?_, fun k hk => ?_, fun g n c e hb => by rw [e1] at e; cases e⟩)
      · rw [List.length_append, ints_append]; exact k1
      · exact (Frm.refl _ w).grown k2 (fun g hg _ => hg)
      · rcases k3 with k3 | k3
        · exact .inl (by unfold RowB at hk ⊢; rw [← k3]; exact hk)
        · right
          unfold RowB at hk
          rw [k3] at hk
          injection hk with hk
          omega
    · subst e1
      have hgl := (hown.1.lt g rfl).2
      rw [Nat.mul_one] at e6 e7
      have hwr : ∀ v' w', (Builtin.append_ #[32, 32] o.type #[.slice (some ⟨g, 0, none⟩) xs.length cap, .slice (some ad) ys.length c]).run Try.prog w = .ok v' w' → Grew w base (.slice (some ⟨g, 0, none⟩) xs.length cap) v' (xs ++ ys) w' → wpList Try.prog ops Q (o :: rest) a w := fun v' w' hr hg => by
        refine wpList_plain hgd fun K hK => ?_
        unfold Oper.wp execOp
        simp only [ho, resolve, invoke, builtin, Sem.run_bind, Sem.run_pure, Result.andThen_ok, List.map_toArray, List.map_cons, List.map_nil, hs, hx, hr]
        exact hK _ _ (h v' w' hg)
      by_cases hroom : xs.length + ys.length ≤ cap
      · have hr := run_append_room (P := Try.prog) w 32 o.type 5 i0 Try.underlying32 hi0 g xs.length cap cur e3 ad ys.length c (ints .u8 ys) (by rw [ints_length, hz1, Nat.mul_one]) hnews hone hroom (by rw [ints_length, hz1, e6]; omega)
        rw [hz1, Nat.mul_one, ints_length] at hr
        have hb := Blk.setRow (w := w) e3 (cur.toList.take xs.length ++ ints .u8 ys ++ cur.toList.drop (xs.length + ys.length)).toArray
        have hfr : Frm (RowB (.slice (some ⟨g, 0, none⟩) xs.length cap)) w (w.setRow g (cur.toList.take xs.length ++ ints .u8 ys ++ cur.toList.drop (xs.length + ys.length)).toArray) := (Frm.refl _ w).setRow (.inl (by rfl)) _
        have hcl : cur.toList.length = cap := by rw [Array.length_toList, e6]
        refine hwr _ _ hr ⟨⟨⟨by rw [ints_length, Nat.mul_one], .inr ⟨g, cap, _, by rw [List.length_append], e2, hb, by rw [List.length_append]; exact hroom, e5, ?_, ?_⟩⟩, hown.2.append h5⟩, hfr, fun k hk => .inl hk, fun g' n c e _ => ?_⟩
        · rw [List.size_toArray, List.length_append, List.length_append, List.length_take, List.length_drop, ints_length, hcl]; omega
        · rw [Nat.mul_one, e7, ints_append]
          have hl3 : (xs ++ ys).length = (ints IntKind.u8 xs ++ ints IntKind.u8 ys).length := by rw [List.length_append, List.length_append, ints_length, ints_length]
          rw [hl3]; exact List.take_left
        · injection e with e9 e10 e11
          injection e9 with e9
          injection e9 with e9
          subst e9 e10 e11
          refine ⟨fun cur2 t2 hc2 => ?_, fun n' c' e => by injection e with _ e12 _; omega⟩
          have hcc : cur2 = cur ∧ t2 = 5 := by
            have q := hc2.symm.trans e3
            injection q with q
            injection q with q1 q2
            exact ⟨q1, q2⟩
          obtain ⟨rfl, rfl⟩ := hcc
          refine ⟨_, hb, ?_, ?_⟩
          · rw [List.size_toArray, List.length_append, List.length_append, List.length_take, List.length_drop, ints_length, hcl, e6]; omega
          · show List.take xs.length (cur2.toList.take xs.length ++ ints .u8 ys ++ cur2.toList.drop (xs.length + ys.length)) = _
            rw [List.append_assoc, List.take_append_of_le_length (by rw [List.length_take, hcl]; omega), List.take_take, Nat.min_self]
      · have holds : ∀ j u, (ints .u8 xs)[j]? = some u → w.cell? ((⟨g, 0, none⟩ : Addr).add j) = some u := hown.1.cells (g := g) rfl
        obtain ⟨v', w', hr, k1, k2⟩ := run_append_arg_grows (P := Try.prog) w 32 o.type 5 i0 _ 1 1 Try.underlying32 hi0 hz0 hz1 hz2 rfl (by omega) ⟨g, 0, none⟩ xs.length cap (ints .u8 xs) (by rw [ints_length, Nat.mul_one]) holds ad ys.length c (ints .u8 ys) (by rw [ints_length, Nat.mul_one]) hnews (by omega) (by simp only [maxLen]; omega) (by omega)
        have ho' : Ob w' w.heap.size v' (xs ++ ys) := ⟨by rw [List.length_append, ints_append]; exact k1, hown.2.append h5⟩
        have hf : Frm NoB w w' := (Frm.refl _ w).grown k2 (fun g hg _ => by cases hg)
        refine hwr _ _ hr ⟨ho'.lower hbase, hf.mono (fun _ _ e => e.elim), fun k hk => .inr (ho'.lo hk).1, fun g' n c e hb => ⟨Pfx.of_frm hf (fun e => e), fun n' c' e2 => ?_⟩⟩
        have := (ho'.lo (k := g') (by rw [e2]; rfl)).1
        omega
/-- bytes that were just laid -/
theorem by_lit (w : World) (ys : List Int) (u : U8 ys) (hl : ys.length ≤ 16777216) (cs : Array Value) (hcs : cs = (ints .u8 ys).toArray) (n : Nat) (hn : ys.length = n) : By (w.alloc (.cells cs 5)) (.slice (some ⟨w.heap.size, 0, none⟩) n n) ys := by
  subst hcs hn
  refine ⟨_, _, rfl, fun _ => ⟨w.heap.size, 0, rfl, fun i v hv => ?_⟩, (fun e => by cases e), Nat.le_refl _, by omega, u⟩
  rw [Nat.zero_add, (Blk.new w 5 (ints .u8 ys).toArray).cell i]
  simpa using hv
end Go.Proofs.Ytmahaihcmmmhbaa
