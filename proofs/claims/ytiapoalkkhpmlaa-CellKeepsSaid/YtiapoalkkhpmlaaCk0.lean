/-
  Texts of this claim, joined: OpenG, CelArg, CelF, CelLife, CelKeeps.
-/
import Derived.Test.YtiapoalkkhpmlaaCelJ8
/-
  An argument that is a slice, opened: whatever its elements are.
-/
namespace Go.Proofs.Ytiapoalkkhpmlaa
open Go.ChangeShapes Go.WideShapes Go.ChangeAt Go.RowKit Go.Deep
section
variable {H : Type} {enc : TypeId × Value → H} {W : World}
/-- elements in a row, each of k cells -/
def ElemsAt (W : World) (A : Option Addr) (k : Nat) {α : Type} (R : List Value → α → Prop) (os : List α) : Prop :=
  ∀ i (hi : i < os.length), ∃ b x cs, A = some ⟨b, x, none⟩ ∧ b < W.heap.size ∧ R cs (os[i]'hi) ∧ ∀ j u, cs[j]? = some u → W.cell? ⟨b, x + i * k + j, none⟩ = some u
theorem open_list {α : Type} {P : Program} {t e : TypeId} {k fuel : Nat} {v : Value} {x : DataW H × List MemPlace} (dflt : α) (R : List Value → α → Prop) (ht : P.underlying t = some (.slice e)) (hk : P.cellsOf e = k) (hk0 : 0 < k)
    (hel : ∀ fuel cs x, DataW.trod enc P W 0 (fun _ => true) true fuel e cs = some x → ∃ o, R cs o) (hlen : ∀ cs o, R cs o → cs.length = k)
    (h : DataW.trod enc P W 0 (fun _ => true) true fuel t [v] = some x) :
    ∃ (A : Option Addr) (c : Nat) (os : List α), v = .slice A os.length c ∧ ElemsAt W A k R os ∧ os.length ≤ c ∧ c ≤ maxLen := by
  rcases open_slice ht h with ⟨hcs, _⟩ | ⟨a, len, cap, m, n, D, Pl, hcs, _, hl, hm, hmm, _, hi⟩
  · simp at hcs
    exact ⟨none, 0, [], by simp [hcs], fun i hi => by simp at hi, Nat.le_refl _, Nat.zero_le _⟩
  · simp only [if_true] at hmm
    subst hmm
    have hex : ∀ i, i < m → ∃ (o : α) (cs : List Value), R cs o ∧ ∀ j u, cs[j]? = some u → W.cell? ((a.add (i * k)).add j) = some u := fun i him => by
      obtain ⟨cs', hcell, ht⟩ := hi i him
      rw [hk] at hcell
      obtain ⟨o, ho⟩ := hel _ _ _ ht
      refine ⟨o, cs', ho, fun j u hju => ?_⟩
      obtain ⟨_, hlen', hat⟩ := World.cells?_some hcell
      have hj : j < k := by
        have := (List.getElem?_eq_some_iff.1 hju).1
        rw [hlen _ _ ho] at this
        exact this
      rw [hat j hj, hju]
    classical
    let F : Nat → α := fun i => if him : i < m then (hex i him).choose else dflt
    refine ⟨some a, m, (List.range len).map F, ?_, fun i hi' => ?_, by simpa using hl, hm⟩
    · simp at hcs
      simp [hcs]
    · have hil : i < len := by simpa using hi'
      have him : i < m := by omega
      have e : ((List.range len).map F)[i]'hi' = (hex i him).choose := by
        simp [F, him]
      obtain ⟨cs, ho, hcells⟩ := (hex i him).choose_spec
      have hgo : ∀ j (hj : j < m), ∃ b y, a = ⟨b, y, none⟩ := fun j hj => by
        obtain ⟨cs', hr, hc0⟩ := (hex 0 (by omega)).choose_spec
        have hl0 := hlen _ _ hr
        have h1 := hc0 0 _ (List.getElem?_eq_getElem (by omega))
        rw [show (a.add (0 * k)).add 0 = a from by simp [Addr.add]] at h1
        exact spot_none h1
      obtain ⟨b, y, rfl⟩ := hgo i him
      have hadd : ∀ j, ((⟨b, y, none⟩ : Addr).add (i * k)).add j = ⟨b, y + i * k + j, none⟩ := fun j => by rw [addr_add, addr_add]
      have hl0 := hlen _ _ ho
      have h0 := hcells 0 _ (List.getElem?_eq_getElem (by omega))
      rw [hadd] at h0
      refine ⟨b, y, cs, rfl, World.block_lt_of_cell? W _ h0, by rw [e]; exact ho, fun j u hu => ?_⟩
      have := hcells j u hu
      rwa [hadd] at this
theorem open_threeG {P : Program} {base : Nat} {spare : Nat → Bool} {held : Bool} {t : TypeId} {f0 f1 f2 : Field} {fuel : Nat} {cs : List Value} {x : DataW H × List MemPlace} (ht : P.underlying t = some (.struct #[f0, f1, f2])) (hone : oneCellFields P #[f0, f1, f2] = true) (hC : P.cellsOf t = 3)
    (h : DataW.trod enc P W base spare held fuel t cs = some x) :
    ∃ (v0 v1 v2 : Value) (n : Nat) (y0 y1 y2 : DataW H × List MemPlace), cs = [v0, v1, v2] ∧ DataW.trod enc P W base spare held n f0.type [v0] = some y0 ∧ DataW.trod enc P W base spare held n f1.type [v1] = some y1 ∧ DataW.trod enc P W base spare held n f2.type [v2] = some y2 := by
  obtain ⟨xs, n, _, _, hl, hx, hf⟩ := DataW.trod_struct ht h
  rw [hC] at hl
  match cs, hl with
  | [v0, v1, v2], _ =>
    match xs, hx with
    | [y0, y1, y2], _ =>
      obtain ⟨o0, k0⟩ := hone_of hone 0 f0 rfl
      obtain ⟨o1, k1⟩ := hone_of hone 1 f1 rfl
      obtain ⟨o2, k2⟩ := hone_of hone 2 f2 rfl
      exact ⟨v0, v1, v2, n, y0, y1, y2, rfl, by simpa [o0, k0] using hf 0 f0 rfl, by simpa [o1, k1] using hf 1 f1 rfl, by simpa [o2, k2] using hf 2 f2 rfl⟩
end
end Go.Proofs.Ytiapoalkkhpmlaa

/-
  Lists of bytes as an argument; what Get tells is memory of one's own; bytes that are turned.
-/
namespace Go.Proofs.Ytiapoalkkhpmlaa
open Go.RowKit
section
variable {w : World} {v : Value} {xs : List Int}
def CloneOwn (w : World) (xs : List Int) (e : Ending) (w' : World) : Prop := ∃ v', e = .returned v' ∧ Ob w' w.heap.size v' xs ∧ Frm NoB w w'
set_option maxRecDepth 100000 in
theorem clone_own (hy : By w v xs) (hl : xs.length ≤ 16777216) :
    Calls Try.prog 45 #[v] w (CloneOwn w xs) := by
  have HY := hide hy
  obtain ⟨A, c, rfl, hr, hz, hlc, hc, hu⟩ := hy
  have q := fun (w : World) (a : Option Addr) (n c n' c' : Nat) => Lib.run_eql_slice_nil (P := Try.prog) w 28 5 a n c n' c' Try.underlying28
  cases A with
  | none =>
    have h0 : xs.length = 0 := by have := hz rfl; omega
    have e0 : xs = [] := List.eq_nil_of_length_eq_zero h0
    subst e0
    clear hr hz hlc hc hu
    go_enter Try.func45, Try.ntmps45
    go_wp2
    go_ret
    exact ⟨_, rfl, Ob.nil _ _, Frm.refl _ _⟩
  | some a =>
    clear hr hz hlc hc hu
    have hf : Frm NoB w (w.alloc (.cells #[] 5)) := (Frm.refl NoB w).alloc _
    have HF := hide hf
    have ho : Ob (w.alloc (.cells #[] 5)) w.heap.size (.slice (some ⟨w.heap.size, 0, none⟩) 0 0) [] := ⟨World.ownsRow_made w #[] 0 (Nat.le_refl _) (Nat.zero_le _) rfl, U8.nil⟩
    have HO := hide ho
    clear hf ho
    go_enter Try.func45, Try.ntmps45
    go_wp2_with (at_builtin; refine append_bytes rfl (.tmp 5) (.tmp 6) rfl w.heap.size _ _ [] xs rfl rfl HO.out (HY.out.frm0 HF.out) (by simpa using hl) (by simp) ?_; intro v' w' hg)
    go_ret
    refine ⟨v', rfl, hg.o, ?_⟩
    exact (HF.out).then_ hg.f (fun i hi e => by
      have e : some w.heap.size = some i := e
      injection e with e
      omega)
/-- what Get tells: memory of its own -/
def CGetOwn (w : World) (c : CelS) (e : Ending) (w' : World) : Prop := ∃ v', e = .returned (.tuple #[v', .bool (decide (0 ≤ c.on))]) ∧ Ob w' w.heap.size v' (if 0 ≤ c.on then c.b else []) ∧ Frm NoB w w'
theorem cget_own {g gd : Nat} {c : CelS} {over : Bool} (h : CelAt w g gd c v over) (hl : c.b.length ≤ 16777216) : Calls Try.prog 12 #[.pointer (some ⟨g, 0, none⟩)] w (CGetOwn w c) := by
  have K := hide (cnone_is h)
  have m1 := h.c1
  have m3 := h.c3
  have KC := hide (clone_own h.y hl)
  clear h hl
  by_cases hon : 0 ≤ c.on
  · have P : Hid (∀ v' w', Ob w' w.heap.size v' c.b → Frm NoB w w' → CGetOwn w c (.returned (.tuple #[v', .bool true])) w') := fun v' w' a cc => ⟨v', by rw [decide_eq_true hon], by rw [if_pos hon]; exact a, cc⟩
    have t1 : decide (c.on < 0) = false := decide_eq_false (by omega)
    clear hon
    go_enter Try.func12, Try.ntmps12
    go_wp2_with fail
    refine K.out.mono ?_
    rintro e w' ⟨rfl, rfl⟩
    go_wp2_with fail
    refine KC.out.mono ?_
    rintro e w' ⟨v', rfl, h1, h3⟩
    have H := hide (P.out _ _ h1 h3)
    clear h1 h3 P
    go_wp2
    go_ret2
    exact H.out
  · have P : Hid (CGetOwn w c (.returned (.tuple #[.slice none 0 0, .bool false])) w) := ⟨_, by rw [decide_eq_false hon], by rw [if_neg hon]; exact Ob.nil _ _, Frm.refl _ _⟩
    have t1 : decide (c.on < 0) = true := decide_eq_true (by omega)
    clear hon
    go_enter Try.func12, Try.ntmps12
    go_wp2_with fail
    refine K.out.mono ?_
    rintro e w' ⟨rfl, rfl⟩
    go_wp2
    go_ret2
    exact P.out
end
/-- lists of bytes, as an argument -/
structure BysAt (w : World) (B : Nat) (A : Option Addr) (ls : List (List Int)) : Prop where
  at_ : ∀ i (h : i < ls.length), ∃ b x v, A = some ⟨b, x, none⟩ ∧ b < B ∧ By w v (ls[i]'h) ∧ ((ls[i]'h) ≠ [] → ∀ k, RowB v k → k < B) ∧ w.cell? ⟨b, x + i, none⟩ = some v
theorem BysAt.frm {S : Nat → Prop} {w w' : World} {B : Nat} {A : Option Addr} {ls : List (List Int)} (h : BysAt w B A ls) (hf : Frm S w w') (hs : ∀ k, k < B → ¬ S k) : BysAt w' B A ls := by
  refine ⟨fun i hi => ?_⟩
  obtain ⟨b, x, v, rfl, hb, h0, h1, h2⟩ := h.at_ i hi
  exact ⟨b, x, v, rfl, hb, h0.frm1 hf (fun e k hk => hs k (h1 e k hk)), h1, (hf.cell (World.block_lt_of_cell? w _ h2) (hs b hb)).trans h2⟩
section
open Go.ChangeShapes Go.WideShapes Go.ChangeAt Go.Deep
variable {H : Type} {enc : TypeId × Value → H} {W : World}
theorem bys_cells : Try.prog.cellsOf 28 = 1 := by kernel_rfl
theorem open_bys {fuel : Nat} {v : Value} {x : DataW H × List MemPlace} (h : DataW.trod enc Try.prog W 0 (fun _ => true) true fuel 22 [v] = some x) :
    ∃ (A : Option Addr) (c : Nat) (ls : List (List Int)), v = .slice A ls.length c ∧ BysAt W W.heap.size A ls ∧ (ls.length : Int) ≤ 9223372036854775807 := by
  obtain ⟨A, c, ls, rfl, hE, hl, hm⟩ := open_list (α := List Int) [] (fun cs l => ∃ v, cs = [v] ∧ By W v l ∧ ∀ k, RowB v k → k < W.heap.size ∨ l = []) Try.underlying22 bys_cells (by omega)
    (fun fuel cs x hx => by
      have hlen : ∃ v, cs = [v] := by
        rcases open_slice Try.underlying28 hx with ⟨hcs, _⟩ | ⟨a, len, cap, m, n, D, Pl, hcs, _⟩
        · exact ⟨_, hcs⟩
        · exact ⟨_, hcs⟩
      obtain ⟨v, rfl⟩ := hlen
      obtain ⟨xs, h1, h2⟩ := open_bytes Try.underlying28 Try.underlying5 uint8_one hx
      exact ⟨xs, v, rfl, h1, h2⟩)
    (fun cs o ⟨v, hv, _⟩ => by rw [hv]; rfl) h
  have hc := cap_i64 hm
  refine ⟨A, c, ls, rfl, ⟨fun i hi => ?_⟩, by omega⟩
  obtain ⟨b, x, cs, rfl, hb, ⟨v, rfl, hy, hk⟩, hcell⟩ := hE i hi
  refine ⟨b, x, v, rfl, hb, hy, fun e k h => ?_, ?_⟩
  · rcases hk k h with h | h
    · exact h
    · exact absurd h e
  · have := hcell 0 v rfl
    rwa [Nat.mul_one, Nat.add_zero] at this
theorem open_arg_bys {A0 : Option Addr} {len0 cap0 : Nat} {d : DataW H} {p : List MemPlace} (h : DataW.Trod enc Try.prog W 0 (fun _ => true) true 22 (.slice A0 len0 cap0) d p) :
    ∃ (A : Option Addr) (c : Nat) (ls : List (List Int)), Value.slice A0 len0 cap0 = .slice A ls.length c ∧ BysAt W W.heap.size A ls ∧ (ls.length : Int) ≤ 9223372036854775807 := by
  obtain ⟨fuel, hf⟩ := h
  exact open_bys hf
end
theorem By.row_lt {w : World} {v : Value} {xs : List Int} (h : By w v xs) (hne : xs ≠ []) {k : Nat} (hk : RowB v k) : k < w.heap.size := by
  obtain ⟨A, c, rfl, hr, -⟩ := h
  obtain ⟨a, rfl, hlt⟩ := hr.lt (ints_ne hne)
  have hk : some a.block = some k := hk
  injection hk with hk
  omega
/-- other blocks turn -/
theorem OwnC.far {S : Nat → Prop} {w0 w w' : World} {p q c gd g : Nat} {v : Value} {d : DrvS} {s : NorS} (h : OwnC w0 w p q c gd g v d s) (hf : Frm S w w') (h0 : ∀ k, S k → w0.heap.size ≤ k) (hS : ∀ k, S k → k ≠ p ∧ k ≠ q ∧ k ≠ gd ∧ k ≠ g ∧ ((clook (d.fn s)).b ≠ [] → ¬ RowB v k)) : OwnC w0 w' p q c gd g v d s :=
  ⟨⟨h.o.n.frm hf (fun e => (hS _ e).1 rfl) (fun e => (hS _ e).2.1 rfl), h.o.f.then_ hf (fun i hi e => by have := h0 i e; omega), h.o.p0, h.o.q0⟩,
    h.dr.frm hf (fun e => (hS _ e).2.2.1 rfl), h.t.frm hf (fun e => (hS _ e).2.2.2.1 rfl) (fun hb k hk e => (hS _ e).2.2.2.2 hb hk), h.g0, h.vn, h.dk, h.m⟩
/-- what was made behind the cell turns -/
theorem OwnC.newer {S : Nat → Prop} {w0 wz w w' : World} {p q c gd g : Nat} {v : Value} {d : DrvS} {s : NorS} (hz : OwnC w0 wz p q c gd g v d s) (h : OwnC w0 w p q c gd g v d s) (hf : Frm S w w') (hS : ∀ k, S k → wz.heap.size ≤ k) : OwnC w0 w' p q c gd g v d s := by
  have h1 := hz.o.n.ltp
  have h2 := hz.o.n.ltq
  have h3 := hz.t.lt
  have h4 := hz.dr.lt
  have h5 := hz.o.f.size
  exact h.far hf (fun k hk => by have := hS k hk; omega) (fun k hk => by
    have hk := hS k hk
    exact ⟨by omega, by omega, by omega, by omega, fun hb hr => by have := hz.t.y.row_lt hb hr; omega⟩)
/-- bytes of a row of one's own are turned, one by one -/
def TurnRel (w3 : World) (B : Nat) (v : Value) (n : Nat) (x : Value) (wr : World) : Prop :=
  ∃ (k : Nat) (ys : List Int), k ≤ n ∧ x = .int .i64 k ∧ wr.ownsRow B 5 1 v n (ints .u8 ys) ∧ Frm (RowB v) w3 wr
theorem turn_row {w : World} {B n : Nat} {v : Value} {ys : List Int} (h : w.ownsRow B 5 1 v n (ints .u8 ys)) {k : Nat} (hk : k < n) :
    ∃ g c y, v = .slice (some ⟨g, 0, none⟩) n c ∧ w.cell? ⟨g, k, none⟩ = some (.int .u8 y) ∧ w.frozen? ⟨g, k, none⟩ = false ∧
      ∀ z, (w.setCell ⟨g, k, none⟩ (.int .u8 z)).ownsRow B 5 1 v n (ints .u8 (ys.set k z)) ∧ Frm (RowB v) w (w.setCell ⟨g, k, none⟩ (.int .u8 z)) := by
  have hl : ys.length = n := by have := h.1; rw [ints_length] at this; omega
  obtain ⟨g, c, rfl⟩ : ∃ g c, v = .slice (some ⟨g, 0, none⟩) n c := by
    rcases h.2 with ⟨e, h0⟩ | ⟨g, cap, cur, e, _⟩
    · have := h.1; rw [h0] at this; simp at this; omega
    · exact ⟨g, cap, e⟩
  refine ⟨g, c, ys.getD k 0, rfl, ?_, h.frozenAt k, fun z => ⟨?_, Frm.setCell (S := RowB (.slice (some ⟨g, 0, none⟩) n c)) (Frm.refl _ w) (p := ⟨g, k, none⟩) (.inl rfl) _⟩⟩
  · rw [h.cellAt k (by omega), ints_get (by omega)]
  · have := h.stored k (.int .u8 z)
    have e : (ints .u8 ys).set k (.int .u8 z) = ints .u8 (ys.set k z) := by unfold ints; rw [List.map_set]
    rw [e] at this
    exact this.1
end Go.Proofs.Ytiapoalkkhpmlaa

/-
  Plain: a put on an armed flash, and a crash behind it.
-/
namespace Go.Proofs.Ytiapoalkkhpmlaa
/-- of one sector nothing is told that was not told; the other is as it was -/
theorem clook_drop {f g : Nat → Int} (hfar : ∀ k, k < 128 → ¬ (64 * nextC (clook f).on ≤ k ∧ k < 64 * nextC (clook f).on + 64) → g k = f k)
    (hs : whl g (64 * nextC (clook f).on) = true → whl f (64 * nextC (clook f).on) = true ∧ g (64 * nextC (clook f).on) = f (64 * nextC (clook f).on)) : clook g = clook f := by
  rcases clook_cases f with ⟨e, w0, w1⟩ | ⟨e, w0, w1⟩ | ⟨e, w0, w1⟩
  · rw [e] at hfar hs ⊢
    have hn : nextC (-1) = 0 := rfl
    simp only [hn, Nat.mul_zero] at hfar hs
    have q1 : whl g 64 = false := by rw [whl_congr (f := f) (fun i _ => hfar _ (by omega) (by omega))]; exact w1
    have q0 : ¬ whl g 0 = true := fun h => by rw [(hs h).1] at w0; cases w0
    unfold clook
    rw [if_neg q0, if_neg (by rw [q1]; simp)]
  · rw [e] at hfar hs ⊢
    have hn : nextC 0 = 1 := rfl
    simp only [hn, Nat.mul_one] at hfar hs
    have a0 : ∀ i, i < 64 → g (0 + i) = f (0 + i) := fun i hi => hfar _ (by omega) (by omega)
    have q0 : whl g 0 = true := by rw [whl_congr a0]; exact w0
    unfold clook
    rw [if_pos q0, if_neg (fun h => w1 ⟨(hs h.1).1, by rw [← (hs h.1).2, h.2, hfar 0 (by omega) (by omega)]⟩), secB_congr a0 (whl_true w0).2.2, hfar 0 (by omega) (by omega)]
  · rw [e] at hfar hs ⊢
    have hn : nextC 1 = 0 := rfl
    simp only [hn, Nat.mul_zero] at hfar hs
    have a1 : ∀ i, i < 64 → g (64 + i) = f (64 + i) := fun i hi => hfar _ (by omega) (by omega)
    have q1 : whl g 64 = true := by rw [whl_congr a1]; exact w0
    have h64 : g 64 = f 64 := hfar 64 (by omega) (by omega)
    unfold clook
    by_cases h0 : whl g 0 = true
    · rw [if_pos h0, if_pos ⟨q1, by rw [h64, (hs h0).2]; exact w1 (hs h0).1⟩, secB_congr a1 (whl_true w0).2.2, h64]
    · rw [if_neg h0, if_pos q1, secB_congr a1 (whl_true w0).2.2, h64]
namespace DrvS
variable {d : DrvS} {s : NorS}
/-- a put that is not OK: behind a crash all is as it was -/
theorem cfall (hdn : s.down = false) (hh : s.half = -1) (hs : s.Ok) (hd : d.Ok s) (hm : d.many = 2) {b : List Int} (hb : U8 b) (hl : b.length ≤ 244) (ht : (clook (d.fn s)).turn < 2147483648)
    (hE : (d.cput s (clook (d.fn s)) b).2 ≠ 0) (ks : List Bool) : clook (d.fn ((d.cput s (clook (d.fn s)) b).1.crash ks)) = clook (d.fn s) := by
  have ht0 := (clook_turn (f := d.fn s) (fun i => (fn_u32 hs i).1)).1
  have hpl := putL_length (clook (d.fn s)).turn b
  have hpu := putL_u32 ht0 ht hb hl
  have hi := nextC_lt (clook (d.fn s)).on
  unfold cput at hE ⊢
  rw [if_neg (by omega), if_neg (by omega)] at hE ⊢
  have drop := fun (g : Nat → Int) => clook_drop (f := d.fn s) (g := g)
  generalize putL (clook (d.fn s)).turn b = l at hE hpl hpu ⊢
  generalize nextC (clook (d.fn s)).on = i at hE hi drop ⊢
  -- words that are laid into a sector that was erased; its last word is not
  have laid : ∀ g : Nat → Int, (∃ D, D ≤ l.length ∧ ∀ k, g k = if 64 * i ≤ k ∧ k < 64 * i + D then l.getD (k - 64 * i) 0 else onesTo (d.fn s) (64 * i) 64 k) → clook g = clook (d.fn s) := fun g hg => by
    obtain ⟨D, hD, hg⟩ := hg
    refine drop g (fun k _ hk => ?_) (fun h => ?_)
    · rw [hg, if_neg (by omega)]
      unfold onesTo
      rw [if_neg hk]
    · have h63 := (whl_true h).1
      rw [hg, if_neg (by omega)] at h63
      unfold onesTo at h63
      rw [if_pos (by omega)] at h63
      cases h63
  unfold cputI at hE ⊢
  by_cases h1 : d.erE s i = 0
  · rw [if_pos h1] at hE ⊢
    obtain ⟨-, -, e3, e4, e5, -, e7⟩ := er_ok hs hd h1
    have hs1 := er_Ok (d := d) hs (i : Int)
    have hd1 : d.Ok (d.er s i) := hd.n' e4
    generalize d.er s i = t at hE e3 e4 e5 e7 hs1 hd1 ⊢
    have hset : d.sets t (64 * i) l = false := fall_sets (fun j hj => by
      have e : t.wd (d.base + 64 * i + j) = 4294967295 := by
        rw [Nat.add_assoc, base_wd, e7]
        unfold onesTo; rw [if_pos (by omega)]
      rw [e]
      have := hpu.get j
      exact wand_full this.1 this.2)
    obtain ⟨g1, g2, g3, g4, g5⟩ := wr_go e3 hs1 hd1 (k := 64 * i) (x := l) (by omega) hset
    have hdl := NorS.doneN_le t l.length
    by_cases h2 : d.wrE t ((64 * i : Nat) : Int) l = 0
    · rw [if_pos h2] at hE ⊢
      have hw := wr_ok hs1 hd1 h2
      have hs2 := wr_Ok (d := d) hs1 ((64 * i : Nat) : Int) l
      have hd2 : d.Ok (d.wr t ((64 * i : Nat) : Int) l) := hd1.n' g4
      have hf2 := hw.2.2.2.2.2
      have hdn2 := hw.2.2.1
      have hh2 := g3
      generalize d.wr t ((64 * i : Nat) : Int) l = u at hE hs2 hd2 hf2 hdn2 hh2 ⊢
      have hset2 : d.sets u (64 * i + 63) [0] = false := fall_sets (fun j hj => by
        have : j = 0 := by simp only [List.length_cons, List.length_nil] at hj; omega
        subst this
        unfold wand; simp)
      obtain ⟨k1, k2, k3, k4, k5⟩ := wr_go hdn2 hs2 hd2 (k := 64 * i + 63) (x := [0]) (by simp only [List.length_cons, List.length_nil]; omega) hset2
      have hdl2 := NorS.doneN_le u [(0 : Int)].length
      simp only [List.length_cons, List.length_nil, Nat.zero_add] at hdl2 k1 k5
      have hD0 : u.doneN 1 = 0 := by
        by_cases e : u.doneN 1 = 1
        · rw [if_pos e] at k1
          exact absurd k1 hE
        · omega
      simp only
      rw [crash_half (by rw [k3, hh2, e5]; exact hh)]
      refine laid _ ⟨l.length, Nat.le_refl _, fun k => ?_⟩
      show (d.wr u ((64 * i + 63 : Nat) : Int) [0]).wd (d.base + k) = _
      rw [k5, hD0, if_neg (by omega), base_wd, hf2]
      unfold laidF
      rw [e7 k]
    · rw [if_neg h2] at hE ⊢
      simp only
      rw [crash_half (by rw [g3, e5]; exact hh)]
      refine laid _ ⟨t.doneN l.length, hdl, fun k => ?_⟩
      show (d.wr t ((64 * i : Nat) : Int) l).wd (d.base + k) = _
      rw [g5]
      by_cases e : 64 * i ≤ k ∧ k < 64 * i + t.doneN l.length
      · rw [if_pos e, if_pos (by omega), show d.base + k - (d.base + 64 * i) = k - 64 * i from by omega]
      · rw [if_neg e, if_neg (by omega), base_wd, e7]
  · rw [if_neg h1] at hE ⊢
    simp only
    have hn := hd.n
    have hM : 0 ≤ (i : Int) ∧ (i : Int) < d.many := by omega
    have hup : s.up ((d.first : Int) + i) 0 0 = 0 := by
      unfold NorS.up NorS.there
      rw [if_neg (by rw [hdn]; simp), if_pos]
      simp only [Bool.and_eq_true, decide_eq_true_eq]
      omega
    have hst : ¬ s.steps = true := fun h => h1 (by
      unfold erE NorS.eraseE
      rw [if_pos hM, if_pos hup, if_pos h])
    have hEr : d.er s i = { s.step with half := (d.first : Int) + i } := by
      unfold er NorS.erase
      rw [if_pos hM, if_pos hup, if_neg hst]
    have hfn : d.fn (d.er s i) = d.fn s := by
      funext k
      rw [hEr]
      show s.step.l.getD _ 0 = s.l.getD _ 0
      rw [NorS.step_l]
    have hbu := crash_burn (d := d) (s := d.er s i) (ks := ks) (i := i) (by rw [hEr])
    rw [hfn] at hbu
    generalize d.fn ((d.er s i).crash ks) = g at hbu
    refine drop g (fun k _ hk => ?_) (fun h => ?_)
    · rcases hbu k with h | ⟨h1, h2, -⟩
      · exact h
      · exact absurd ⟨h1, h2⟩ hk
    · obtain ⟨a, b', c⟩ := whl_true h
      have q63 : g (64 * i + 63) = d.fn s (64 * i + 63) := by
        rcases hbu (64 * i + 63) with h | ⟨-, -, h⟩
        · exact h
        · omega
      have q0 : g (64 * i) = d.fn s (64 * i) := by
        rcases hbu (64 * i) with h | ⟨-, -, h⟩
        · exact h
        · omega
      have q1 : g (64 * i + 1) = d.fn s (64 * i + 1) := by
        rcases hbu (64 * i + 1) with h | ⟨-, -, h⟩
        · exact h
        · omega
      exact ⟨decide_eq_true ⟨by omega, by omega, by omega⟩, q0⟩
end DrvS
end Go.Proofs.Ytiapoalkkhpmlaa

/-
  Lives as an argument; a cell of a call's own: Arm, Put whatever comes, Crash.
-/
namespace Go.Proofs.Ytiapoalkkhpmlaa
open Go.RowKit
structure LifeS where
  l : List (List Int)
  arm : Int
  keeps : List Bool
structure LifeIs (w : World) (B : Nat) (o : LifeS) (AL : Option Addr) (cL : Nat) (AK : Option Addr) (cK : Nat) : Prop where
  bl : BysAt w B AL o.l
  rk : Rd w AK (bools o.keeps)
  bk : o.keeps ≠ [] → ∀ a, AK = some a → a.block < B
  a0 : 0 ≤ o.arm
  a1 : o.arm < 256
  ll : (o.l.length : Int) ≤ 9223372036854775807
  kl : (o.keeps.length : Int) ≤ 9223372036854775807
theorem LifeIs.frm {S : Nat → Prop} {w w' : World} {B : Nat} {o : LifeS} {AL AK : Option Addr} {cL cK : Nat} (h : LifeIs w B o AL cL AK cK) (hf : Frm S w w') (hs : ∀ k, k < B → ¬ S k) : LifeIs w' B o AL cL AK cK :=
  ⟨h.bl.frm hf hs, by
    by_cases e : o.keeps = []
    · rw [e]; exact Rd.nil _ _
    · exact h.rk.frm hf (fun a ha => hs _ (h.bk e a ha)), h.bk, h.a0, h.a1, h.ll, h.kl⟩
structure LivesAt (w : World) (B : Nat) (A : Option Addr) (fs : List LifeS) : Prop where
  at_ : ∀ i (h : i < fs.length), ∃ b x AL cL AK cK, A = some ⟨b, x, none⟩ ∧ b < B ∧ LifeIs w B (fs[i]'h) AL cL AK cK ∧
    w.cell? ⟨b, x + i * 3, none⟩ = some (.slice AL (fs[i]'h).l.length cL) ∧ w.cell? ⟨b, x + i * 3 + 1, none⟩ = some (.int .u8 (fs[i]'h).arm) ∧ w.cell? ⟨b, x + i * 3 + 2, none⟩ = some (.slice AK (fs[i]'h).keeps.length cK)
theorem LivesAt.frm {S : Nat → Prop} {w w' : World} {B : Nat} {A : Option Addr} {fs : List LifeS} (h : LivesAt w B A fs) (hf : Frm S w w') (hs : ∀ k, k < B → ¬ S k) : LivesAt w' B A fs := by
  refine ⟨fun i hi => ?_⟩
  obtain ⟨b, x, AL, cL, AK, cK, rfl, hb, h0, h1, h2, h3⟩ := h.at_ i hi
  have hc : ∀ {n : Nat} {v : Value}, w.cell? ⟨b, n, none⟩ = some v → w'.cell? ⟨b, n, none⟩ = some v := fun {n v} hv => by
    rw [hf.cell (World.block_lt_of_cell? w _ hv) (show ¬ S b from hs b hb)]; exact hv
  exact ⟨b, x, AL, cL, AK, cK, rfl, hb, h0.frm hf hs, hc h1, hc h2, hc h3⟩
section
open Go.ChangeShapes Go.WideShapes Go.ChangeAt Go.Deep
variable {H : Type} {enc : TypeId × Value → H} {W : World}
theorem life_cells : Try.prog.cellsOf 59 = 3 := by kernel_rfl
theorem life_one : ∃ f0 f1 f2, Try.prog.underlying 59 = some (.struct #[f0, f1, f2]) ∧ oneCellFields Try.prog #[f0, f1, f2] = true ∧ f0.type = 22 ∧ f1.type = 5 ∧ f2.type = 57 :=
  ⟨_, _, _, Try.underlying59, by kernel_rfl, by kernel_rfl, by kernel_rfl, by kernel_rfl⟩
def LifeR (W : World) (cs : List Value) (o : LifeS) : Prop := ∃ AL cL AK cK, cs = [.slice AL o.l.length cL, .int .u8 o.arm, .slice AK o.keeps.length cK] ∧ LifeIs W W.heap.size o AL cL AK cK
theorem open_life {fuel : Nat} {cs : List Value} {x : DataW H × List MemPlace} (h : DataW.trod enc Try.prog W 0 (fun _ => true) true fuel 59 cs = some x) : ∃ o, LifeR W cs o := by
  obtain ⟨f0, f1, f2, hu, hone, t0, t1, t2⟩ := life_one
  obtain ⟨v0, v1, v2, n, y0, y1, y2, rfl, h0, h1, h2⟩ := open_threeG hu hone life_cells h
  rw [t0] at h0; rw [t1] at h1; rw [t2] at h2
  obtain ⟨AL, cL, ls, rfl, hbl, hll⟩ := open_bys h0
  obtain ⟨s, rfl, ws⟩ := open_one_int Try.underlying5 h1
  obtain ⟨AK, cK, ks, rfl, rk, lk, km⟩ := open_brow Try.underlying57 Try.underlying4 bool_one h2
  have bs := bounds_u8 ws
  have hc2 := cap_i64 km
  exact ⟨⟨ls, s, ks⟩, AL, cL, AK, cK, rfl, ⟨hbl, rk, fun hne => rk.below (bools_ne hne), by show 0 ≤ s; omega, by show s < _; omega, hll, by show (ks.length : Int) ≤ _; omega⟩⟩
theorem open_lives {A0 : Option Addr} {len0 cap0 : Nat} {d : DataW H} {p : List MemPlace} (h : DataW.Trod enc Try.prog W 0 (fun _ => true) true 52 (.slice A0 len0 cap0) d p) :
    ∃ (A : Option Addr) (c : Nat) (ops : List LifeS), Value.slice A0 len0 cap0 = .slice A ops.length c ∧ LivesAt W W.heap.size A ops ∧ (ops.length : Int) ≤ 9223372036854775807 := by
  obtain ⟨fuel, hf⟩ := h
  obtain ⟨A, c, os, e, hE, hl, hm⟩ := open_list (α := LifeS) ⟨[], 0, []⟩ (LifeR W) Try.underlying52 life_cells (by omega) (fun fuel cs x hx => open_life hx) (fun cs o ⟨_, _, _, _, hv, _⟩ => by rw [hv]; rfl) hf
  have hc := cap_i64 hm
  refine ⟨A, c, os, e, ⟨fun i hi => ?_⟩, by omega⟩
  obtain ⟨b, x, cs, rfl, hb, ⟨AL, cL, AK, cK, rfl, ho⟩, hcell⟩ := hE i hi
  exact ⟨b, x, AL, cL, AK, cK, rfl, hb, ho, hcell 0 _ rfl, hcell 1 _ rfl, hcell 2 _ rfl⟩
end
section
variable {w0 w w' : World} {p q c gd g : Nat} {v vx : Value} {d : DrvS} {s : NorS} {b : List Int}
theorem arms7_n (k : Int) : (s.arms k).n = s.n := by unfold NorS.arms; split <;> rfl
theorem ownc_arm (k : Int) (h : OwnC w0 w p q c gd g v d s) (hk : k ≤ 9223372036854775807) :
    Calls Try.prog 24 #[.pointer (some ⟨p, 0, none⟩), .int .i64 k] w fun e w' => e = .returned (.tuple #[]) ∧ OwnC w0 w' p q c gd g v d (s.arms k) ∧ Frm (Two p q) w w' := by
  refine (arm_is k h.o.n hk).mono ?_
  rintro e w' ⟨rfl, hn, hf⟩
  have hne := h.dr.ne h.o.n
  refine ⟨rfl, ⟨h.o.step hn hf, h.dr.frm hf (fun e => e.elim hne.1 hne.2), ?_, h.g0, h.vn, ⟨h.dk.m, by rw [arms7_n]; exact h.dk.n⟩, h.m⟩, hf⟩
  rw [DrvS.arms_fn]
  exact CelAt.frm h.t hf (h.t.two h.o.n) h.two
/-- Put of bytes that have room, where the power may fail -/
theorem ownc_try (h : OwnC w0 w p q c gd g v d s) (hy : By w vx b) (hxp : b ≠ [] → ∀ k, RowB vx k → ¬ Tri p q g k) :
    Calls Try.prog 11 #[.pointer (some ⟨g, 0, none⟩), vx] w fun e w' => e = .returned (.int .i64 (d.cput s (clook (d.fn s)) b).2) ∧ Own w0 w' p q c (d.cput s (clook (d.fn s)) b).1 ∧ DrvAt w' gd p d ∧
      ((d.cput s (clook (d.fn s)) b).2 = 0 → ∃ v', OwnC w0 w' p q c gd g v' d (d.cput s (clook (d.fn s)) b).1) ∧ Frm (Tri p q g) w w' := by
  refine (cput_is h.t h.dr h.o.n h.dk h.m hy h.two hxp).mono ?_
  rintro e w' ⟨rfl, hN, hF, hOK, -, -⟩
  have hu := hy.u
  have ho : Own w0 w' p q c (d.cput s (clook (d.fn s)) b).1 := ⟨hN, h.o.tri7 hF h.g0, h.o.p0, h.o.q0⟩
  have hd : DrvAt w' gd p d := h.dr.frm hF (fun e => by
    have h1 := h.dr.ne h.o.n
    have h2 := h.t.ned h.dr
    rcases e with e | e | e
    · exact h1.1 e
    · exact h1.2 e
    · exact h2 e)
  refine ⟨rfl, ho, hd, fun hz => ?_, hF⟩
  obtain ⟨v', hC, hv⟩ := hOK hz
  obtain ⟨-, -, hl, -⟩ := DrvS.cput_ok h.o.n.ok h.dk hu hz
  refine ⟨v', ho, hd, ?_, h.g0, fun k hk => ?_, h.dk.n' DrvS.cput_n, h.m⟩
  · rw [hl]; exact hC
  · have := hv k hk
    have := h.o.n.ltp; have := h.o.n.ltq; have := h.o.f.size
    omega
theorem ownc_crash (A : Option Addr) (cp : Nat) (ks : List Bool) (h : Own w0 w p q c s) (hd : DrvAt w gd p d) (hx : Rd w A (bools ks)) (hA : ks ≠ [] → ∀ a, A = some a → a.block < w0.heap.size) (hm : (ks.length : Int) ≤ 9223372036854775807) :
    Calls Try.prog 25 #[.pointer (some ⟨p, 0, none⟩), .slice A ks.length cp] w fun e w' => e = .returned (.tuple #[]) ∧ Own w0 w' p q c (s.crash ks) ∧ DrvAt w' gd p d ∧ Frm (Two p q) w w' := by
  have h1 := h.p0; have h2 := h.q0
  have hne := hd.ne h.n
  refine (crash_is A cp ks h.n hx (fun hne a ha e => ?_) hm).mono ?_
  · have := hA hne a ha
    rcases e with e | e <;> omega
  · rintro e w' ⟨rfl, hn, hf⟩
    exact ⟨rfl, h.step hn hf, hd.frm hf (fun e => e.elim hne.1 hne.2), hf⟩
end
end Go.Proofs.Ytiapoalkkhpmlaa

/-
  Behind any crash the bytes are those that were there: the walk.
-/
namespace Go.Proofs.Ytiapoalkkhpmlaa
open Go.RowKit
/-- the drive, and the flash, of the statement -/
def kD : DrvS := ⟨0, 2⟩
def k0 : NorS := NorS.new 2 2
theorem kD_ok : kD.Ok k0 := ⟨by decide, by decide⟩
theorem k0_look : clook (kD.fn k0) = ⟨-1, 0, []⟩ := blank_look (fun i h => by
  show k0.wd (0 * 64 + i) = _
  exact blank_wd _ (by omega))
/-- what a cell's flash would tell -/
structure KTold (c : CelS) (tt : Int) (bb : List Int) : Prop where
  t : c.turn = tt
  b : c.b = bb
  o : decide (0 < tt) = decide (0 ≤ c.on)
structure KOk (s : NorS) (t : Int) (b : List Int) : Prop where
  dn : s.down = false
  h : s.half = -1
  c : KTold (clook (kD.fn s)) t b
def KAft (s : NorS) (t : Int) (b : List Int) : Prop := ∀ ks, KTold (clook (kD.fn (s.crash ks))) t b
theorem KOk.aft {s : NorS} {t : Int} {b : List Int} (h : KOk s t b) : KAft s t b := fun ks => by
  rw [DrvS.crash_half h.h]; exact h.c
theorem KAft.ok {s : NorS} {t : Int} {b : List Int} (h : KAft s t b) (ks : List Bool) : KOk (s.crash ks) t b := ⟨rfl, rfl, h ks⟩
theorem KOk.arm {s : NorS} {t : Int} {b : List Int} (h : KOk s t b) (k : Int) : KOk (s.arms k) t b := by
  have e : (s.arms k).down = false ∧ (s.arms k).half = -1 := by
    unfold NorS.arms
    rw [if_neg (by rw [h.dn]; simp)]
    exact ⟨h.dn, h.h⟩
  refine ⟨e.1, e.2, ?_⟩
  rw [DrvS.arms_fn]; exact h.c
theorem KOk.put {s : NorS} {t : Int} {b x : List Int} (h : KOk s t b) (hs : s.Ok) (hd : kD.Ok s) (hu : U8 x) (hz : (kD.cput s (clook (kD.fn s)) x).2 = 0) : KOk (kD.cput s (clook (kD.fn s)) x).1 (t + 1) x ∧ 0 ≤ (clook (kD.fn (kD.cput s (clook (kD.fn s)) x).1)).on := by
  obtain ⟨-, -, hl, h1, h2, -⟩ := DrvS.cput_ok hs hd hu hz
  have ht := (clook_turn (f := kD.fn s) (fun i => (DrvS.fn_u32 hs i).1)).1
  rw [h.c.t] at hl ht
  have hon : 0 ≤ (clook (kD.fn (kD.cput s (clook (kD.fn s)) x).1)).on := by rw [hl]; dsimp only; omega
  refine ⟨⟨h1, by rw [h2]; exact h.h, ⟨by rw [hl], by rw [hl], ?_⟩⟩, hon⟩
  rw [decide_eq_true hon, decide_eq_true (by omega)]
theorem KOk.fail {s : NorS} {t : Int} {b x : List Int} (h : KOk s t b) (hs : s.Ok) (hd : kD.Ok s) (hu : U8 x) (hx : x.length ≤ 244) (ht : t < 2147483648) (hz : (kD.cput s (clook (kD.fn s)) x).2 ≠ 0) : KAft (kD.cput s (clook (kD.fn s)) x).1 t b := fun ks => by
  rw [DrvS.cfall h.dn h.h hs hd rfl hu hx (by rw [h.c.t]; exact ht) hz ks]; exact h.c
theorem KOk.get {s : NorS} {t : Int} {b : List Int} (h : KOk s t b) : (if 0 ≤ (clook (kD.fn s)).on then (clook (kD.fn s)).b else []) = b := by
  rcases clook_cases (kD.fn s) with ⟨e, -, -⟩ | ⟨e, -, -⟩ | ⟨e, -, -⟩
  all_goals
    have hb := h.c.b
    rw [e] at hb ⊢
    simpa using hb
/-- what Get tells -/
theorem KOk.tells {w0 w : World} {p q c gd g : Nat} {v : Value} {s : NorS} {t : Int} {b : List Int} (h : KOk s t b) (hT : OwnC w0 w p q c gd g v kD s) :
    Calls Try.prog 12 #[.pointer (some ⟨g, 0, none⟩)] w fun e w' => ∃ v', e = .returned (.tuple #[v', .bool (decide (0 < t))]) ∧ By w' v' b ∧ (b ≠ [] → ∀ k, RowB v' k → ¬ Tri p q g k) ∧ Frm NoB w w' := by
  refine (ownc_get hT).mono ?_
  rintro e w' ⟨v', rfl, hy, hn, hf⟩
  rw [h.get] at hy
  refine ⟨v', by rw [h.c.o], hy, fun _ k hk e => ?_, hf⟩
  have h1 := hn k hk; have h2 := hT.o.n.ltp; have h3 := hT.o.n.ltq; have h4 := hT.t.lt
  rcases e with e | e | e <;> omega
theorem tri_two {p q g k : Nat} (h : ¬ Tri p q g k) : ¬ Two p q k := fun e => h (e.elim .inl (fun e => .inr (.inl e)))
def KpRel (w : World) (n : Nat) (p q c gd : Nat) (x7 x9 x10 x11 : Value) (wr : World) : Prop :=
  ∃ (j g : Nat) (v : Value) (s : NorS) (b : List Int) (t : Int), j ≤ n ∧ j ≤ 6 ∧ x11 = .int .i64 j ∧ x7 = .pointer (some ⟨g, 0, none⟩) ∧ x10 = .int .i64 t ∧ OwnC w wr p q c gd g v kD s ∧ KOk s t b ∧ By wr x9 b ∧ (b ≠ [] → ∀ k, RowB x9 k → ¬ Tri p q g k) ∧ 0 ≤ t ∧ t ≤ 6 * j
def KqRel (w : World) (nL : Nat) (T : Int) (p q c gd g : Nat) (x9 x10 x12 x13 x14 : Value) (wr : World) : Prop :=
  ∃ (k : Nat) (F : Bool) (s : NorS) (b : List Int) (t : Int), k ≤ nL ∧ k ≤ 6 ∧ x14 = .int .i64 k ∧ x13 = .bool F ∧ x10 = .int .i64 t ∧ (∃ A n c, x12 = .slice A n c) ∧ Own w wr p q c s ∧ DrvAt wr gd p kD ∧ kD.Ok s ∧ KAft s t b ∧ (F = false → ∃ v, OwnC w wr p q c gd g v kD s ∧ KOk s t b) ∧
    By wr x9 b ∧ (b ≠ [] → ∀ k, RowB x9 k → ¬ Tri p q g k) ∧ 0 ≤ t ∧ t ≤ T + k
set_option maxRecDepth 100000 in
set_option maxHeartbeats 8000000 in
theorem cellKeeps_is (w : World) (A : Option Addr) (cp n : Nat) (fs : List LifeS) (hn : fs.length = n) (hA : LivesAt w w.heap.size A fs) (hl : (fs.length : Int) ≤ 9223372036854775807) :
    Calls Try.prog 6 #[.slice A n cp] w fun e w' => e = .returned (.bool true) ∧ Frm NoB w w' := by
  have HA := hide hA
  have HN := hide hn
  rw [hn] at hl
  clear hA hn
  go_enter Try.func6, Try.ntmps6
  go_wp2_with fail
  refine (own_new 2 2 (Frm.refl NoB w) (by omega) (by omega) (by omega)).mono ?_
  rintro e w1 ⟨p, q, c, rfl, hN, hp, hq, hF⟩
  have HN1 : Hid (Own w w1 p q c k0) := hN
  clear hN hp hq hF
  go_wp2_with fail
  refine (ownd_open 0 2 HN1.out (by omega) (by decide)).mono ?_
  rintro e w2 ⟨gd, rfl, hG, hN, hg, hF⟩
  have HN2 : Hid (Own w w2 p q c k0) := hN
  have HG2 : Hid (DrvAt w2 gd p kD) := hG
  clear hG hN hg hF HN1
  go_wp2_with fail
  refine (ownc_open HN2.out HG2.out kD_ok rfl rfl).mono ?_
  rintro e w3 ⟨g, v, rfl, hT, hg, -, hF⟩
  have HT := hide hT
  clear hT hg hF HN2 HG2
  go_wp2_with fail
  go_loopw [7, 9, 10, 11] (fun x7 x9 x10 x11 wr => KpRel w n p q c gd x7 x9 x10 x11 wr) (fun _ _ _ i _ => n - (intOf i).toNat)
  case atStart => exact ⟨0, g, v, k0, [], 0, by omega, by omega, rfl, rfl, rfl, HT.out, ⟨rfl, rfl, by rw [k0_look]; exact ⟨rfl, rfl, by decide⟩⟩, By.nil _, fun h => absurd rfl h, by omega, by omega⟩
  case round =>
    clear HT
    obtain ⟨j, g, v, s, b, t, hj, hj6, rfl, rfl, rfl, hT, hK, hB, hBT, ht0, ht⟩ := hrel
    obtain ⟨wo, rfl⟩ : ∃ wo : World, wo = wr := ⟨_, rfl⟩
    have HT := hide hT
    have HK := hide hK
    have HB := hide hB
    have HBT := hide hBT
    obtain ⟨Aw, nw, cw, rfl⟩ := hB.form
    have j0 : (0 : Int) ≤ (j : Int) := by omega
    clear hT hK hB hBT
    by_cases hlt : j < n ∧ j < 6
    · obtain ⟨j1, j2⟩ := hlt
      have j1' : (j : Int) < (n : Int) := by omega
      have j2' : (j : Int) < 6 := by omega
      obtain ⟨o, ho⟩ : ∃ o, fs[j]'(by have := HN.out; omega) = o := ⟨_, rfl⟩
      obtain ⟨bA, x, AL, cL, AK, cK, hAe, hb, hLi, hc0, hc1, hc2⟩ := HA.out.at_ j (by have := HN.out; omega)
      rw [ho] at hLi hc0 hc1 hc2
      subst hAe
      have HLI := hide hLi
      have a0 := hLi.a0
      have a1 := hLi.a1
      have hll := hLi.ll
      have hbw : Hid (bA < w.heap.size) := hb
      obtain ⟨nL, hnL⟩ : ∃ nL, o.l.length = nL := ⟨_, rfl⟩
      have HNL := hide hnL
      rw [hnL] at hc0 hll
      obtain ⟨arm, harm⟩ : ∃ arm, o.arm = arm := ⟨_, rfl⟩
      rw [harm] at hc1 a0 a1
      have HC0 := hide hc0
      have HC2 := hide hc2
      have hcw : wo.cell? ⟨bA, x + j * 3 + 1, none⟩ = some (.int .u8 arm) := by
        rw [HT.out.o.f.cell (p := ⟨bA, x + j * 3 + 1, none⟩) hbw.out (fun e => e)]; exact hc1
      clear hLi hb ho hnL harm hc0 hc1 hc2
      go_upto_if 59 with fail
      go_cut [12] (fun x12 wc => ∃ s', OwnC w wc p q c gd g v kD s' ∧ KOk s' t b ∧ Frm (Two p q) wo wc)
      case first =>
        clear HB HBT HA HN HC0 HC2
        by_cases hle : arm ≤ 200
        · have t1 : decide (arm ≤ 200) = true := decide_eq_true hle
          go_wp2_with fail
          refine (ownc_arm arm HT.out (by omega)).mono ?_
          rintro e w2 ⟨rfl, hT2, hF2⟩
          go_wp2_with fail
          go_meet
          exact ⟨_, hT2, HK.out.arm _, hF2⟩
        · have t1 : decide (arm ≤ 200) = false := decide_eq_false hle
          go_wp2_with fail
          go_meet
          exact ⟨s, HT.out, HK.out, Frm.refl _ _⟩
      case rest =>
        obtain ⟨s', hT, hK, hFo⟩ := hcut
        have hB1 : By wc (.slice Aw nw cw) b := HB.out.frm1 hFo (fun hne k hk => tri_two (HBT.out hne k hk))
        have HB1 := hide hB1
        have HT1 := hide hT
        have HK1 := hide hK
        clear hT hK hFo hB1 hcw HT HK HB
        go_wp2_with fail
        go_loopw [9, 10, 12, 13, 14] (fun x9 x10 x12 x13 x14 wr => KqRel w nL t p q c gd g x9 x10 x12 x13 x14 wr) (fun _ _ _ _ i _ => nL - (intOf i).toNat)
        case atStart => exact ⟨0, false, s', b, t, by omega, by omega, rfl, rfl, rfl, ⟨_, _, _, rfl⟩, HT1.out.o, HT1.out.dr, HT1.out.dk, HK1.out.aft, fun _ => ⟨v, HT1.out, HK1.out⟩, HB1.out, HBT.out, by omega, by omega⟩
        case round =>
          clear HT1 HK1 HB1 HBT
          obtain ⟨k, F, s1, b1, t1, hk, hk6, rfl, rfl, rfl, ⟨A12, n12, c12, rfl⟩, hO, hD, hDk, hAft, hC, hB, hBT, ht10, ht1⟩ := hrel
          obtain ⟨wi, rfl⟩ : ∃ wi : World, wi = wr := ⟨_, rfl⟩
          obtain ⟨A9, n9, c9, rfl⟩ := hB.form
          have HO := hide hO
          have HD := hide hD
          have HDK := hide hDk
          have HAF := hide hAft
          have HC := hide hC
          have HB := hide hB
          have HBT := hide hBT
          have k0 : (0 : Int) ≤ (k : Int) := by omega
          have hc0 : wi.cell? ⟨bA, x + j * 3, none⟩ = some (.slice AL nL cL) := by
            rw [HO.out.f.cell (p := ⟨bA, x + j * 3, none⟩) hbw.out (fun e => e)]; exact HC0.out
          clear hO hD hDk hAft hC hB hBT
          obtain ⟨B, hBe⟩ : ∃ B : Bool, decide (k < nL ∧ k < 6 ∧ F = false) = B := ⟨_, rfl⟩
          have HBE := hide hBe
          clear hBe
          go_upto_region 16 with fail
          go_cut [83] (fun x wc => x = .bool B ∧ wc = wi)
          case first =>
            clear HO HD HDK HAF HC HB HBT
            rcases (by omega : nL ≤ k ∨ (k < nL ∧ 6 ≤ k) ∨ (k < nL ∧ k < 6)) with h | ⟨h1, h2⟩ | ⟨h1, h2⟩
            · have d1 : decide ((k : Int) < (nL : Int)) = false := decide_eq_false (by omega)
              go_wp2_with fail
              go_meet
              exact ⟨by rw [← HBE.out, decide_eq_false (by omega)], rfl⟩
            · have d1 : decide ((k : Int) < (nL : Int)) = true := decide_eq_true (by omega)
              have d2 : decide ((k : Int) < 6) = false := decide_eq_false (by omega)
              go_wp2_with fail
              go_meet
              exact ⟨by rw [← HBE.out, decide_eq_false (by omega)], rfl⟩
            · have d1 : decide ((k : Int) < (nL : Int)) = true := decide_eq_true (by omega)
              have d2 : decide ((k : Int) < 6) = true := decide_eq_true (by omega)
              go_wp2_with fail
              go_meet
              refine ⟨?_, rfl⟩
              rw [← HBE.out]
              cases F
              · rw [decide_eq_true ⟨h1, h2, rfl⟩]; rfl
              · rw [decide_eq_false (by simp)]; rfl
          case rest =>
            obtain ⟨rfl, rfl⟩ := hcut
            have hcase : B = true ∨ B = false := by cases B <;> simp
            rcases hcase with rfl | rfl
            · obtain ⟨h1, h2, rfl⟩ := of_decide_eq_true HBE.out
              obtain ⟨v1, hT1, hK1⟩ := HC.out rfl
              obtain ⟨b2, x2, vx, rfl, hb2, hy2, hlt2, hcell2⟩ := HLI.out.bl.at_ k (by have := HNL.out; omega)
              obtain ⟨l, hll2⟩ : ∃ l, o.l[k]'(by have := HNL.out; omega) = l := ⟨_, rfl⟩
              rw [hll2] at hy2 hlt2
              have hy : By wc vx l := hy2.frm0 HO.out.f
              have hcell : wc.cell? ⟨b2, x2 + k, none⟩ = some vx := by
                rw [HO.out.f.cell (p := ⟨b2, x2 + k, none⟩) hb2 (fun e => e)]; exact hcell2
              have hfr : Hid (l ≠ [] → ∀ k, RowB vx k → ¬ Tri p q g k) := fun hne k hk e => by
                have h3 := hlt2 hne k hk
                have h4 := HO.out.p0; have h5 := HO.out.q0; have h6 := hT1.g0
                rcases e with e | e | e <;> omega
              have HT := hide hT1
              have HK := hide hK1
              have HY := hide hy
              obtain ⟨Ax, cx, rfl, -⟩ := hy
              obtain ⟨L, hL⟩ : ∃ L, l.length = L := ⟨_, rfl⟩
              have HL := hide hL
              rw [hL] at HY hcell hfr
              have k1 : (k : Int) < (nL : Int) := by omega
              clear hy2 hlt2 hcell2 hll2 hL hT1 hK1 HC hb2
              by_cases h244 : 244 < L
              · have d1 : decide ((244 : Int) < (L : Int)) = true := decide_eq_true (by omega)
                have d2 : decide (244 < L) = true := decide_eq_true h244
                go_wp2
                go_roundw
                case rel => exact ⟨k + 1, false, s1, b1, t1, by omega, by omega, by go_num, rfl, rfl, ⟨_, _, _, rfl⟩, HO.out, HD.out, HDK.out, HAF.out, fun _ => ⟨v1, HT.out, HK.out⟩, HB.out, HBT.out, by omega, by omega⟩
                case measure => simp [intOf]; omega
              · have d1 : decide ((244 : Int) < (L : Int)) = false := decide_eq_false (by omega)
                have d2 : decide (244 < L) = false := decide_eq_false h244
                have hK1 := HK.out
                have hput := fun hz => HK.out.put HT.out.o.n.ok HT.out.dk HY.out.u hz
                have hfail := fun hz => HK.out.fail HT.out.o.n.ok HT.out.dk HY.out.u (by have := HL.out; omega) (by omega) hz
                have htry := ownc_try HT.out HY.out hfr.out
                obtain ⟨E, hE⟩ : ∃ E, (kD.cput s1 (clook (kD.fn s1)) l).2 = E := ⟨_, rfl⟩
                obtain ⟨s2, hs2⟩ : ∃ s2, (kD.cput s1 (clook (kD.fn s1)) l).1 = s2 := ⟨_, rfl⟩
                have hn2 : Hid (kD.Ok s2) := by rw [← hs2]; exact HDK.out.n' DrvS.cput_n
                rw [hE, hs2] at hput hfail htry
                have HPUT := hide hput
                have HFAIL := hide hfail
                have HTRY := hide htry
                clear hput hfail htry hE hs2 hK1
                go_wp2_with fail
                refine HTRY.out.mono ?_
                rintro e w2 ⟨rfl, hO2, hD2, hOK2, hF2⟩
                have HO2 := hide hO2
                have HD2 := hide hD2
                have HOK2 := hide hOK2
                have HY2 : Hid (By w2 (.slice Ax L cx) l) := HY.out.frm1 hF2 hfr.out
                have HB2 : Hid (By w2 (.slice A9 n9 c9) b1) := HB.out.frm1 hF2 HBT.out
                clear hO2 hD2 hOK2 hF2 HTRY HO HD HDK HAF HT HK HY HB
                by_cases hE : E = 0
                · subst hE
                  obtain ⟨v2, hT2⟩ := HOK2.out rfl
                  obtain ⟨hK2, -⟩ := HPUT.out rfl
                  have HT2 := hide hT2
                  have HK2 := hide hK2
                  have hpos : decide (0 < t1 + 1) = true := decide_eq_true (by omega)
                  have KG := hide (hK2.tells hT2)
                  rw [hpos] at KG
                  clear hT2 hK2 HOK2 HPUT HFAIL HB2 HBT
                  go_wp2_with fail
                  refine KG.out.mono ?_
                  rintro e w3 ⟨vg, rfl, hyg, -, hFg⟩
                  have HYG := hide hyg
                  have HY3 := hide (HY2.out.frm0 hFg)
                  have HT3 := hide (HT2.out.frm hFg)
                  obtain ⟨Ag, ng, cg, rfl⟩ := hyg.form
                  clear hyg hFg KG HT2 HY2
                  go_wp2_with fail
                  refine (sameBytes_is HYG.out HY3.out).mono ?_
                  rintro e w4 ⟨rfl, m4, rfl⟩
                  rw [decide_eq_true rfl]
                  have hq4 : Frm NoB w3 (w3.drewN m4) := (Frm.refl NoB w3).drewN m4
                  have HT4 := hide (HT3.out.frm hq4)
                  have HY4 := hide (HY3.out.frm0 hq4)
                  clear hq4 HT3 HY3 HYG
                  go_wp2_with fail
                  refine (cturn_is HT4.out.t).mono ?_
                  rintro e w' ⟨rfl, rfl⟩
                  rw [HK2.out.c.t]
                  go_wp2
                  go_roundw
                  case rel => exact ⟨k + 1, false, s2, l, t1 + 1, by omega, by omega, by go_num, rfl, rfl, ⟨_, _, _, rfl⟩, HT4.out.o, HT4.out.dr, HT4.out.dk, HK2.out.aft, fun _ => ⟨v2, HT4.out, HK2.out⟩, HY4.out, hfr.out, by omega, by omega⟩
                  case measure => simp [intOf]; omega
                · have d3 : decide (E = 0) = false := decide_eq_false hE
                  have d4 : (E == 0) = false := by simp [hE]
                  have HAF2 := hide (HFAIL.out hE)
                  clear HOK2 HPUT HFAIL HY2
                  go_wp2
                  go_roundw
                  case rel => exact ⟨k + 1, true, s2, b1, t1, by omega, by omega, by go_num, by rw [show (E != 0) = true by simp [hE]], rfl, ⟨_, _, _, rfl⟩, HO2.out, HD2.out, hn2.out, HAF2.out, fun h => Bool.noConfusion h, HB2.out, HBT.out, by omega, by omega⟩
                  case measure => simp [intOf]; omega
            · clear HBE HC hc0
              have hc2 : wc.cell? ⟨bA, x + j * 3 + 2, none⟩ = some (.slice AK o.keeps.length cK) := by
                rw [HO.out.f.cell (p := ⟨bA, x + j * 3 + 2, none⟩) hbw.out (fun e => e)]; exact HC2.out
              have hLI := HLI.out.frm HO.out.f (fun _ _ e => e)
              have KCR := hide (ownc_crash AK cK o.keeps HO.out HD.out hLI.rk hLI.bk hLI.kl)
              have hK2 := HAF.out.ok o.keeps
              have HDK2 : Hid (kD.Ok (s1.crash o.keeps)) := HDK.out.n' rfl
              obtain ⟨s2, hs2⟩ : ∃ s2, s1.crash o.keeps = s2 := ⟨_, rfl⟩
              obtain ⟨nk, hnk⟩ : ∃ nk, o.keeps.length = nk := ⟨_, rfl⟩
              rw [hs2] at KCR hK2 HDK2
              rw [hnk] at KCR hc2
              have HK2 := hide hK2
              clear hLI hs2 hnk hK2 HO HD HAF HLI HDK
              go_wp2_with fail
              refine KCR.out.mono ?_
              rintro e w2 ⟨rfl, hO2, hD2, hF2⟩
              have HO2 := hide hO2
              have HD2 := hide hD2
              have HB2 : Hid (By w2 (.slice A9 n9 c9) b1) := HB.out.frm1 hF2 (fun hne k hk => tri_two (HBT.out hne k hk))
              clear hO2 hD2 hF2 KCR HB HBT hc2
              go_wp2_with fail
              refine (ownc_open HO2.out HD2.out HDK2.out rfl HK2.out.dn).mono ?_
              rintro e w3 ⟨gu, vu, rfl, hT3, -, -, hF3⟩
              have HT3 := hide hT3
              have HB3 := hide (HB2.out.frm0 hF3)
              have KG := hide (HK2.out.tells hT3)
              clear hT3 hF3 HO2 HD2 HB2
              obtain ⟨Q, hQ⟩ : ∃ Q : Bool, decide (0 < t1) = Q := ⟨_, rfl⟩
              rw [hQ] at KG
              go_wp2_with fail
              refine KG.out.mono ?_
              rintro e w4 ⟨vg, rfl, hyg, hng, hFg⟩
              have HYG := hide hyg
              have HNG := hide hng
              have HB4 := hide (HB3.out.frm0 hFg)
              have HT4 := hide (HT3.out.frm hFg)
              obtain ⟨Ag, ng, cg, rfl⟩ := hyg.form
              clear hyg hng hFg KG HT3 HB3
              have q1 : (Q == Q) = true := by simp
              have q2 : decide (t1 > 0) = Q := hQ
              have q3 : decide (Q = Q) = true := by simp
              go_wp2_with fail
              refine (cturn_is HT4.out.t).mono ?_
              rintro e w' ⟨rfl, rfl⟩
              rw [HK2.out.c.t]
              go_wp2_with fail
              refine (sameBytes_is HYG.out HB4.out).mono ?_
              rintro e w5 ⟨rfl, m5, rfl⟩
              rw [decide_eq_true rfl]
              have hq5 : Frm NoB w4 (w4.drewN m5) := (Frm.refl NoB w4).drewN m5
              have HT5 := hide (HT4.out.frm hq5)
              have HYG5 := hide (HYG.out.frm0 hq5)
              clear hq5 HT4 HYG HB4 q1 q2 q3 hQ
              obtain ⟨w6, hw6⟩ : ∃ w6, w4.drewN m5 = w6 := ⟨_, rfl⟩
              rw [hw6] at HT5 HYG5 ⊢
              clear hw6
              go_upto_region 33 with fail
              go_cut [23] (fun x wc => x = .bool false ∧ wc = w6)
              case first =>
                have d1 : (t1 == t1 + 1) = false := by simp; omega
                have d2 : decide (t1 = t1 + 1) = false := decide_eq_false (by omega)
                cases F
                · go_wp2_with fail
                  go_meet
                  exact ⟨rfl, rfl⟩
                · cases Q
                  · go_wp2_with fail
                    go_meet
                    exact ⟨rfl, rfl⟩
                  · go_wp2_with fail
                    refine (cturn_is HT5.out.t).mono ?_
                    rintro e w' ⟨rfl, rfl⟩
                    rw [HK2.out.c.t]
                    go_wp2_with fail
                    go_meet
                    exact ⟨rfl, rfl⟩
              case rest =>
                obtain ⟨rfl, rfl⟩ := hcut
                go_wp2_with fail
                refine (cturn_is HT5.out.t).mono ?_
                rintro e w' ⟨rfl, rfl⟩
                rw [HK2.out.c.t]
                go_wp2
                go_roundw
                case rel => exact ⟨j + 1, gu, vu, s2, b1, t1, by omega, by omega, by go_num, rfl, rfl, HT5.out, HK2.out, HYG5.out, HNG.out, by omega, by omega⟩
                case measure => simp [intOf]; omega
    · have HF := hide HT.out.o.f
      clear HT HK HB HBT HN HA
      by_cases hjn : j < n
      · obtain rfl : j = 6 := by omega
        have j1' : ((6 : Nat) : Int) < (n : Int) := by omega
        go_wp2_with fail
        refine (awake_is _).mono ?_
        rintro e w5 ⟨rfl, hF5⟩
        go_wp2
        go_ret
        exact ⟨rfl, HF.out.trans hF5⟩
      · obtain rfl : j = n := by omega
        go_wp2_with fail
        refine (awake_is _).mono ?_
        rintro e w5 ⟨rfl, hF5⟩
        go_wp2
        go_ret
        exact ⟨rfl, HF.out.trans hF5⟩
end Go.Proofs.Ytiapoalkkhpmlaa
