/-
  Texts of this claim, joined: OpenG, CelArg, CelOpens.
-/
import Derived.Test.YtiapoalkkhpmlaaCelJ8
/-
  An argument that is a slice, opened: whatever its elements are.
-/
namespace Go.Proofs.Ytiapoalkkhpmlaa
open Go.ChangeShapes Go.WideShapes Go.ChangeAt Go.RowKit Go.Deep
section
variable {H : Type} {enc : TypeId × Value → H} {W : World}
/-- elements in a row, each of k cells -/
def ElemsAt (W : World) (A : Option Addr) (k : Nat) {α : Type} (R : List Value → α → Prop) (os : List α) : Prop :=
  ∀ i (hi : i < os.length), ∃ b x cs, A = some ⟨b, x, none⟩ ∧ b < W.heap.size ∧ R cs (os[i]'hi) ∧ ∀ j u, cs[j]? = some u → W.cell? ⟨b, x + i * k + j, none⟩ = some u
theorem open_list {α : Type} {P : Program} {t e : TypeId} {k fuel : Nat} {v : Value} {x : DataW H × List MemPlace} (dflt : α) (R : List Value → α → Prop) (ht : P.underlying t = some (.slice e)) (hk : P.cellsOf e = k) (hk0 : 0 < k)
    (hel : ∀ fuel cs x, DataW.trod enc P W 0 (fun _ => true) true fuel e cs = some x → ∃ o, R cs o) (hlen : ∀ cs o, R cs o → cs.length = k)
    (h : DataW.trod enc P W 0 (fun _ => true) true fuel t [v] = some x) :
    ∃ (A : Option Addr) (c : Nat) (os : List α), v = .slice A os.length c ∧ ElemsAt W A k R os ∧ os.length ≤ c ∧ c ≤ maxLen := by
  rcases open_slice ht h with ⟨hcs, _⟩ | ⟨a, len, cap, m, n, D, Pl, hcs, _, hl, hm, hmm, _, hi⟩
  · simp at hcs
    exact ⟨none, 0, [], by simp [hcs], fun i hi => by simp at hi, Nat.le_refl _, Nat.zero_le _⟩
  · simp only [if_true] at hmm
    subst hmm
    have hex : ∀ i, i < m → ∃ (o : α) (cs : List Value), R cs o ∧ ∀ j u, cs[j]? = some u → W.cell? ((a.add (i * k)).add j) = some u := fun i him => by
      obtain ⟨cs', hcell, ht⟩ := hi i him
      rw [hk] at hcell
      obtain ⟨o, ho⟩ := hel _ _ _ ht
      refine ⟨o, cs', ho, fun j u hju => ?_⟩
      obtain ⟨_, hlen', hat⟩ := World.cells?_some hcell
      have hj : j < k := by
        have := (List.getElem?_eq_some_iff.1 hju).1
        rw [hlen _ _ ho] at this
        exact this
      rw [hat j hj, hju]
    classical
    let F : Nat → α := fun i => if him : i < m then (hex i him).choose else dflt
    refine ⟨some a, m, (List.range len).map F, ?_, fun i hi' => ?_, by simpa using hl, hm⟩
    · simp at hcs
      simp [hcs]
    · have hil : i < len := by simpa using hi'
      have him : i < m := by omega
      have e : ((List.range len).map F)[i]'hi' = (hex i him).choose := by
        simp [F, him]
      obtain ⟨cs, ho, hcells⟩ := (hex i him).choose_spec
      have hgo : ∀ j (hj : j < m), ∃ b y, a = ⟨b, y, none⟩ := fun j hj => by
        obtain ⟨cs', hr, hc0⟩ := (hex 0 (by omega)).choose_spec
        have hl0 := hlen _ _ hr
        have h1 := hc0 0 _ (List.getElem?_eq_getElem (by omega))
        rw [show (a.add (0 * k)).add 0 = a from by simp [Addr.add]] at h1
        exact spot_none h1
      obtain ⟨b, y, rfl⟩ := hgo i him
      have hadd : ∀ j, ((⟨b, y, none⟩ : Addr).add (i * k)).add j = ⟨b, y + i * k + j, none⟩ := fun j => by rw [addr_add, addr_add]
      have hl0 := hlen _ _ ho
      have h0 := hcells 0 _ (List.getElem?_eq_getElem (by omega))
      rw [hadd] at h0
      refine ⟨b, y, cs, rfl, World.block_lt_of_cell? W _ h0, by rw [e]; exact ho, fun j u hu => ?_⟩
      have := hcells j u hu
      rwa [hadd] at this
end
end Go.Proofs.Ytiapoalkkhpmlaa

/-
  Lists of bytes as an argument; what Get tells is memory of one's own; bytes that are turned.
-/
namespace Go.Proofs.Ytiapoalkkhpmlaa
open Go.RowKit
section
variable {w : World} {v : Value} {xs : List Int}
def CloneOwn (w : World) (xs : List Int) (e : Ending) (w' : World) : Prop := ∃ v', e = .returned v' ∧ Ob w' w.heap.size v' xs ∧ Frm NoB w w'
set_option maxRecDepth 100000 in
theorem clone_own (hy : By w v xs) (hl : xs.length ≤ 16777216) :
    Calls Try.prog 45 #[v] w (CloneOwn w xs) := by
  have HY := hide hy
  obtain ⟨A, c, rfl, hr, hz, hlc, hc, hu⟩ := hy
  have q := fun (w : World) (a : Option Addr) (n c n' c' : Nat) => Lib.run_eql_slice_nil (P := Try.prog) w 28 5 a n c n' c' Try.underlying28
  cases A with
  | none =>
    have h0 : xs.length = 0 := by have := hz rfl; omega
    have e0 : xs = [] := List.eq_nil_of_length_eq_zero h0
    subst e0
    clear hr hz hlc hc hu
    go_enter Try.func45, Try.ntmps45
    go_wp2
    go_ret
    exact ⟨_, rfl, Ob.nil _ _, Frm.refl _ _⟩
  | some a =>
    clear hr hz hlc hc hu
    have hf : Frm NoB w (w.alloc (.cells #[] 5)) := (Frm.refl NoB w).alloc _
    have HF := hide hf
    have ho : Ob (w.alloc (.cells #[] 5)) w.heap.size (.slice (some ⟨w.heap.size, 0, none⟩) 0 0) [] := ⟨World.ownsRow_made w #[] 0 (Nat.le_refl _) (Nat.zero_le _) rfl, U8.nil⟩
    have HO := hide ho
    clear hf ho
    go_enter Try.func45, Try.ntmps45
    go_wp2_with (at_builtin; refine append_bytes rfl (.tmp 5) (.tmp 6) rfl w.heap.size _ _ [] xs rfl rfl HO.out (HY.out.frm0 HF.out) (by simpa using hl) (by simp) ?_; intro v' w' hg)
    go_ret
    refine ⟨v', rfl, hg.o, ?_⟩
    exact (HF.out).then_ hg.f (fun i hi e => by
      have e : some w.heap.size = some i := e
      injection e with e
      omega)
/-- what Get tells: memory of its own -/
def CGetOwn (w : World) (c : CelS) (e : Ending) (w' : World) : Prop := ∃ v', e = .returned (.tuple #[v', .bool (decide (0 ≤ c.on))]) ∧ Ob w' w.heap.size v' (if 0 ≤ c.on then c.b else []) ∧ Frm NoB w w'
theorem cget_own {g gd : Nat} {c : CelS} {over : Bool} (h : CelAt w g gd c v over) (hl : c.b.length ≤ 16777216) : Calls Try.prog 12 #[.pointer (some ⟨g, 0, none⟩)] w (CGetOwn w c) := by
  have K := hide (cnone_is h)
  have m1 := h.c1
  have m3 := h.c3
  have KC := hide (clone_own h.y hl)
  clear h hl
  by_cases hon : 0 ≤ c.on
  · have P : Hid (∀ v' w', Ob w' w.heap.size v' c.b → Frm NoB w w' → CGetOwn w c (.returned (.tuple #[v', .bool true])) w') := fun v' w' a cc => ⟨v', by rw [decide_eq_true hon], by rw [if_pos hon]; exact a, cc⟩
    have t1 : decide (c.on < 0) = false := decide_eq_false (by omega)
    clear hon
    go_enter Try.func12, Try.ntmps12
    go_wp2_with fail
    refine K.out.mono ?_
    rintro e w' ⟨rfl, rfl⟩
    go_wp2_with fail
    refine KC.out.mono ?_
    rintro e w' ⟨v', rfl, h1, h3⟩
    have H := hide (P.out _ _ h1 h3)
    clear h1 h3 P
    go_wp2
    go_ret2
    exact H.out
  · have P : Hid (CGetOwn w c (.returned (.tuple #[.slice none 0 0, .bool false])) w) := ⟨_, by rw [decide_eq_false hon], by rw [if_neg hon]; exact Ob.nil _ _, Frm.refl _ _⟩
    have t1 : decide (c.on < 0) = true := decide_eq_true (by omega)
    clear hon
    go_enter Try.func12, Try.ntmps12
    go_wp2_with fail
    refine K.out.mono ?_
    rintro e w' ⟨rfl, rfl⟩
    go_wp2
    go_ret2
    exact P.out
end
/-- lists of bytes, as an argument -/
structure BysAt (w : World) (B : Nat) (A : Option Addr) (ls : List (List Int)) : Prop where
  at_ : ∀ i (h : i < ls.length), ∃ b x v, A = some ⟨b, x, none⟩ ∧ b < B ∧ By w v (ls[i]'h) ∧ ((ls[i]'h) ≠ [] → ∀ k, RowB v k → k < B) ∧ w.cell? ⟨b, x + i, none⟩ = some v
theorem BysAt.frm {S : Nat → Prop} {w w' : World} {B : Nat} {A : Option Addr} {ls : List (List Int)} (h : BysAt w B A ls) (hf : Frm S w w') (hs : ∀ k, k < B → ¬ S k) : BysAt w' B A ls := by
  refine ⟨fun i hi => ?_⟩
  obtain ⟨b, x, v, rfl, hb, h0, h1, h2⟩ := h.at_ i hi
  exact ⟨b, x, v, rfl, hb, h0.frm1 hf (fun e k hk => hs k (h1 e k hk)), h1, (hf.cell (World.block_lt_of_cell? w _ h2) (hs b hb)).trans h2⟩
section
open Go.ChangeShapes Go.WideShapes Go.ChangeAt Go.Deep
variable {H : Type} {enc : TypeId × Value → H} {W : World}
theorem bys_cells : Try.prog.cellsOf 28 = 1 := by kernel_rfl
theorem open_bys {fuel : Nat} {v : Value} {x : DataW H × List MemPlace} (h : DataW.trod enc Try.prog W 0 (fun _ => true) true fuel 22 [v] = some x) :
    ∃ (A : Option Addr) (c : Nat) (ls : List (List Int)), v = .slice A ls.length c ∧ BysAt W W.heap.size A ls ∧ (ls.length : Int) ≤ 9223372036854775807 := by
  obtain ⟨A, c, ls, rfl, hE, hl, hm⟩ := open_list (α := List Int) [] (fun cs l => ∃ v, cs = [v] ∧ By W v l ∧ ∀ k, RowB v k → k < W.heap.size ∨ l = []) Try.underlying22 bys_cells (by omega)
    (fun fuel cs x hx => by
      have hlen : ∃ v, cs = [v] := by
        rcases open_slice Try.underlying28 hx with ⟨hcs, _⟩ | ⟨a, len, cap, m, n, D, Pl, hcs, _⟩
        · exact ⟨_, hcs⟩
        · exact ⟨_, hcs⟩
      obtain ⟨v, rfl⟩ := hlen
      obtain ⟨xs, h1, h2⟩ := open_bytes Try.underlying28 Try.underlying5 uint8_one hx
      exact ⟨xs, v, rfl, h1, h2⟩)
    (fun cs o ⟨v, hv, _⟩ => by rw [hv]; rfl) h
  have hc := cap_i64 hm
  refine ⟨A, c, ls, rfl, ⟨fun i hi => ?_⟩, by omega⟩
  obtain ⟨b, x, cs, rfl, hb, ⟨v, rfl, hy, hk⟩, hcell⟩ := hE i hi
  refine ⟨b, x, v, rfl, hb, hy, fun e k h => ?_, ?_⟩
  · rcases hk k h with h | h
    · exact h
    · exact absurd h e
  · have := hcell 0 v rfl
    rwa [Nat.mul_one, Nat.add_zero] at this
theorem open_arg_bys {A0 : Option Addr} {len0 cap0 : Nat} {d : DataW H} {p : List MemPlace} (h : DataW.Trod enc Try.prog W 0 (fun _ => true) true 22 (.slice A0 len0 cap0) d p) :
    ∃ (A : Option Addr) (c : Nat) (ls : List (List Int)), Value.slice A0 len0 cap0 = .slice A ls.length c ∧ BysAt W W.heap.size A ls ∧ (ls.length : Int) ≤ 9223372036854775807 := by
  obtain ⟨fuel, hf⟩ := h
  exact open_bys hf
end
theorem By.row_lt {w : World} {v : Value} {xs : List Int} (h : By w v xs) (hne : xs ≠ []) {k : Nat} (hk : RowB v k) : k < w.heap.size := by
  obtain ⟨A, c, rfl, hr, -⟩ := h
  obtain ⟨a, rfl, hlt⟩ := hr.lt (ints_ne hne)
  have hk : some a.block = some k := hk
  injection hk with hk
  omega
/-- other blocks turn -/
theorem OwnC.far {S : Nat → Prop} {w0 w w' : World} {p q c gd g : Nat} {v : Value} {d : DrvS} {s : NorS} (h : OwnC w0 w p q c gd g v d s) (hf : Frm S w w') (h0 : ∀ k, S k → w0.heap.size ≤ k) (hS : ∀ k, S k → k ≠ p ∧ k ≠ q ∧ k ≠ gd ∧ k ≠ g ∧ ((clook (d.fn s)).b ≠ [] → ¬ RowB v k)) : OwnC w0 w' p q c gd g v d s :=
  ⟨⟨h.o.n.frm hf (fun e => (hS _ e).1 rfl) (fun e => (hS _ e).2.1 rfl), h.o.f.then_ hf (fun i hi e => by have := h0 i e; omega), h.o.p0, h.o.q0⟩,
    h.dr.frm hf (fun e => (hS _ e).2.2.1 rfl), h.t.frm hf (fun e => (hS _ e).2.2.2.1 rfl) (fun hb k hk e => (hS _ e).2.2.2.2 hb hk), h.g0, h.vn, h.dk, h.m⟩
/-- what was made behind the cell turns -/
theorem OwnC.newer {S : Nat → Prop} {w0 wz w w' : World} {p q c gd g : Nat} {v : Value} {d : DrvS} {s : NorS} (hz : OwnC w0 wz p q c gd g v d s) (h : OwnC w0 w p q c gd g v d s) (hf : Frm S w w') (hS : ∀ k, S k → wz.heap.size ≤ k) : OwnC w0 w' p q c gd g v d s := by
  have h1 := hz.o.n.ltp
  have h2 := hz.o.n.ltq
  have h3 := hz.t.lt
  have h4 := hz.dr.lt
  have h5 := hz.o.f.size
  exact h.far hf (fun k hk => by have := hS k hk; omega) (fun k hk => by
    have hk := hS k hk
    exact ⟨by omega, by omega, by omega, by omega, fun hb hr => by have := hz.t.y.row_lt hb hr; omega⟩)
/-- bytes of a row of one's own are turned, one by one -/
def TurnRel (w3 : World) (B : Nat) (v : Value) (n : Nat) (x : Value) (wr : World) : Prop :=
  ∃ (k : Nat) (ys : List Int), k ≤ n ∧ x = .int .i64 k ∧ wr.ownsRow B 5 1 v n (ints .u8 ys) ∧ Frm (RowB v) w3 wr
theorem turn_row {w : World} {B n : Nat} {v : Value} {ys : List Int} (h : w.ownsRow B 5 1 v n (ints .u8 ys)) {k : Nat} (hk : k < n) :
    ∃ g c y, v = .slice (some ⟨g, 0, none⟩) n c ∧ w.cell? ⟨g, k, none⟩ = some (.int .u8 y) ∧ w.frozen? ⟨g, k, none⟩ = false ∧
      ∀ z, (w.setCell ⟨g, k, none⟩ (.int .u8 z)).ownsRow B 5 1 v n (ints .u8 (ys.set k z)) ∧ Frm (RowB v) w (w.setCell ⟨g, k, none⟩ (.int .u8 z)) := by
  have hl : ys.length = n := by have := h.1; rw [ints_length] at this; omega
  obtain ⟨g, c, rfl⟩ : ∃ g c, v = .slice (some ⟨g, 0, none⟩) n c := by
    rcases h.2 with ⟨e, h0⟩ | ⟨g, cap, cur, e, _⟩
    · have := h.1; rw [h0] at this; simp at this; omega
    · exact ⟨g, cap, e⟩
  refine ⟨g, c, ys.getD k 0, rfl, ?_, h.frozenAt k, fun z => ⟨?_, Frm.setCell (S := RowB (.slice (some ⟨g, 0, none⟩) n c)) (Frm.refl _ w) (p := ⟨g, k, none⟩) (.inl rfl) _⟩⟩
  · rw [h.cellAt k (by omega), ints_get (by omega)]
  · have := h.stored k (.int .u8 z)
    have e : (ints .u8 ys).set k (.int .u8 z) = ints .u8 (ys.set k z) := by unfold ints; rw [List.map_set]
    rw [e] at this
    exact this.1
end Go.Proofs.Ytiapoalkkhpmlaa

/-
  Opening a cell writes nothing; what is handed in, and told, shares no memory: the walk.
-/
namespace Go.Proofs.Ytiapoalkkhpmlaa
open Go.RowKit
def COpRel (w : World) (n : Nat) (p q c gd : Nat) (x5 x7 : Value) (wr : World) : Prop :=
  ∃ (j g : Nat) (v : Value) (s : NorS), j ≤ n ∧ j ≤ 8 ∧ x7 = .int .i64 j ∧ x5 = .pointer (some ⟨g, 0, none⟩) ∧ OwnC w wr p q c gd g v cmD s ∧ DrvS.Calm s ∧ (clook (cmD.fn s)).turn ≤ j
set_option maxRecDepth 100000 in
set_option maxHeartbeats 4000000 in
theorem cellOpens_is (w : World) (A : Option Addr) (cp n : Nat) (ls : List (List Int)) (hn : ls.length = n) (hA : BysAt w w.heap.size A ls) (hl : (ls.length : Int) ≤ 9223372036854775807) :
    Calls Try.prog 3 #[.slice A n cp] w fun e w' => e = .returned (.bool true) ∧ Frm NoB w w' := by
  have HA := hide hA
  have HN := hide hn
  rw [hn] at hl
  clear hA hn
  go_enter Try.func3, Try.ntmps3
  go_wp2_with fail
  refine (cmade_is w).mono ?_
  rintro e w1 ⟨p, q, c, gd, g, v, rfl, hT, hgd⟩
  have HT := hide hT
  clear hT hgd
  go_wp2_with fail
  go_loopw [5, 7] (fun x5 x7 wr => COpRel w n p q c gd x5 x7 wr) (fun _ i _ => n - (intOf i).toNat)
  case atStart => exact ⟨0, g, v, cm0, by omega, by omega, rfl, rfl, HT.out, cm0_calm, by rw [cm0_look]; decide⟩
  case round =>
    clear HT
    obtain ⟨j, g, v, s, hj, hj8, rfl, rfl, hT, hC, ht⟩ := hrel
    obtain ⟨wo, rfl⟩ : ∃ wo : World, wo = wr := ⟨_, rfl⟩
    have HT := hide hT
    have HC := hide hC
    have HTN := hide ht
    clear hT hC ht
    have j0 : (0 : Int) ≤ (j : Int) := by omega
    by_cases hlt : j < n ∧ j < 8
    · obtain ⟨j1, j2⟩ := hlt
      have j1' : (j : Int) < (n : Int) := by omega
      have j2' : (j : Int) < 8 := by omega
      obtain ⟨b, x, vx, hAe, hb, hy, hk, hcell⟩ := (HA.out.frm HT.out.o.f (fun _ _ e => e)).at_ j (by have := HN.out; omega)
      obtain ⟨l, hll⟩ : ∃ l, ls[j]'(by have := HN.out; omega) = l := ⟨_, rfl⟩
      rw [hll] at hy hk
      have HY := hide hy
      have HK := hide hk
      have HLL := hide hll
      subst hAe
      have hu := hy.u
      obtain ⟨Ax, cx, rfl, -⟩ := hy
      obtain ⟨L, hL⟩ : ∃ L, l.length = L := ⟨_, rfl⟩
      have HL := hide hL
      rw [hL] at HY HK hcell
      have hcw : Hid (b < w.heap.size) := hb
      have HCELL := hide hcell
      clear hk hll hL hb
      by_cases h244 : 244 < L
      · have t1 : decide ((244 : Int) < (L : Int)) = true := decide_eq_true (by omega)
        have t1' : decide (244 < L) = true := decide_eq_true h244
        clear h244 hu
        go_wp2
        go_roundw
        case rel => exact ⟨j + 1, g, v, s, by omega, by omega, by go_num, rfl, HT.out, HC.out, by have := HTN.out; omega⟩
        case measure => simp [intOf]; omega
      · have t1 : decide ((244 : Int) < (L : Int)) = false := decide_eq_false (by omega)
        have t1' : decide (244 < L) = false := decide_eq_false h244
        have hl244 : L ≤ 244 := by omega
        clear h244
        have HU := hide hu
        clear hu
        go_wp2_with fail
        have KC : Hid (Calls Try.prog 10 #[.slice Ax L cx] wo (GrewPost wo wo.heap.size (.slice none 0 0) l)) := copyBytes_is HY.out (by have := HL.out; omega)
        refine KC.out.mono ?_
        rintro e w2 ⟨vi, rfl, hG⟩
        obtain ⟨Ai, ni, ci, rfl⟩ := hG.o.by_.form
        have hni : ni = L := by
          obtain ⟨A', c', e, -⟩ := hG.o.by_
          injection e with e1 e2 e3
          rw [e2]; exact HL.out
        subst hni
        have HG := hide hG
        have HT2 : Hid (OwnC w w2 p q c gd g v cmD s) := HT.out.frm hG.new
        have PO := putOk HC.out HT.out.o.n.ok HT.out.dk HT.out.m HU.out (by have := HL.out; omega) (by have := HTN.out; omega)
        have hfr : ∀ k, RowB (.slice Ai ni ci) k → ¬ Tri p q g k := fun k hk => fresh_not HT.out k (hG.o.lo hk).1
        have HFR := hide hfr
        have HGO := hide (ownc_put HT2.out hG.o.by_ (fun _ => hfr) PO.z)
        obtain ⟨s2, hs2⟩ : ∃ s2, (cmD.cput s (clook (cmD.fn s)) l).1 = s2 := ⟨_, rfl⟩
        rw [hs2] at PO HGO
        have HPO := hide PO
        clear hs2 PO hfr hG KC
        go_wp2_with fail
        refine HGO.out.mono ?_
        rintro e w3 ⟨v3, rfl, hT3, hv3, hF3⟩
        have HT3 := hide hT3
        have HV3 := hide hv3
        have hrow3 : w3.ownsRow wo.heap.size 5 1 (.slice Ai ni ci) ni (ints .u8 l) := by
          have h1 := HG.out.o.1
          rw [HL.out] at h1
          exact own_frm h1 hF3 (fun b hb => HFR.out b hb)
        have HR3 := hide hrow3
        have HLO : Hid (∀ k, RowB (.slice Ai ni ci) k → wo.heap.size ≤ k ∧ k < w2.heap.size) := fun k hk => HG.out.o.lo hk
        clear hT3 hv3 hF3 hrow3 HGO
        go_wp2_with fail
        go_loopw [58] (fun x wr => TurnRel w3 wo.heap.size (.slice Ai ni ci) ni x wr) (fun i _ => ni - (intOf i).toNat)
        case atStart => exact ⟨0, l, by omega, rfl, HR3.out, Frm.refl _ _⟩
        case round =>
          obtain ⟨k, ys, hk, rfl, hrow, hF⟩ := hrel
          by_cases hkn : k < ni
          · obtain ⟨g4, c4, y, hv4, hc4, hz4, hnext⟩ := turn_row hrow hkn
            injection hv4 with e1 e2 e3
            subst e1 e3
            have k0 : (0 : Int) ≤ (k : Int) := by omega
            have k1 : (k : Int) < (ni : Int) := by omega
            have HX := hide hnext
            have HF := hide hF
            clear hnext hF hrow
            go_wp2
            go_roundw
            case rel => exact ⟨k + 1, _, by omega, by go_num, (HX.out _).1, HF.out.trans (HX.out _).2⟩
            case measure => simp [intOf]; omega
          · obtain rfl : ni = k := by omega
            have HT4 := hide (HT3.out.far hF (fun k hk => Nat.le_trans HT.out.o.f.size (HLO.out k hk).1) (fun k hk => by
              have h1 := HFR.out k hk
              have h2 := HLO.out k hk
              have h3 := HT.out.dr.lt
              refine ⟨fun e => h1 (.inl e), fun e => h1 (.inr (.inl e)), by omega, fun e => h1 (.inr (.inr e)), fun _ e => ?_⟩
              have := HV3.out k e
              omega))
            clear hrow hF HT3 HR3
            have HL2 : Hid (clook (cmD.fn s2) = ⟨nextC (clook (cmD.fn s)).on, (clook (cmD.fn s)).turn + 1, l⟩) := HPO.out.l
            have hon2 : (0 : Int) ≤ (clook (cmD.fn s2)).on := by rw [HL2.out]; dsimp only; omega
            have HON2 := hide hon2
            clear hon2
            go_wp2_with fail
            refine (cget_own HT4.out.t (by have := HT4.out.small.2; omega)).mono ?_
            rintro e w5 ⟨v5, rfl, hO5, hF5⟩
            rw [if_pos HON2.out, HL2.out] at hO5
            rw [decide_eq_true HON2.out]
            obtain ⟨A5, n5, c5, rfl⟩ := hO5.by_.form
            have hn5 : n5 = ni := by
              obtain ⟨A', c', e, -⟩ := hO5.by_
              injection e with e1 e2 e3
              rw [e2]; exact HL.out
            subst hn5
            have HT5 : Hid (OwnC w w5 p q c gd g v3 cmD s2) := HT4.out.frm hF5
            have HO5 := hide hO5
            have HLO5 : Hid (∀ k, RowB (.slice A5 n5 c5) k → wr.heap.size ≤ k ∧ k < w5.heap.size) := fun k hk => hO5.lo hk
            have hrow5 : w5.ownsRow wr.heap.size 5 1 (.slice A5 n5 c5) n5 (ints .u8 l) := by
              have h1 := hO5.1
              rwa [show (List.length l) = n5 from HL.out] at h1
            have HR5 := hide hrow5
            have HT4' := hide HT4.out
            clear hO5 hF5 hrow5 HO5 HT4
            obtain ⟨w4, hw4⟩ : ∃ w4, w4 = wr := ⟨_, rfl⟩
            subst hw4
            go_wp2_with fail
            go_loopw [75] (fun x wr => TurnRel w5 w4.heap.size (.slice A5 n5 c5) n5 x wr) (fun i _ => n5 - (intOf i).toNat)
            case atStart => exact ⟨0, l, by omega, rfl, HR5.out, Frm.refl _ _⟩
            case round =>
              obtain ⟨k, ys, hk, rfl, hrow, hF⟩ := hrel
              by_cases hkn : k < n5
              · obtain ⟨g4, c4, y, hv4, hc4, hz4, hnext⟩ := turn_row hrow hkn
                injection hv4 with e1 e2 e3
                subst e1 e3
                have k0 : (0 : Int) ≤ (k : Int) := by omega
                have k1 : (k : Int) < (n5 : Int) := by omega
                have HX := hide hnext
                have HF := hide hF
                clear hnext hF hrow
                go_wp2
                go_roundw
                case rel => exact ⟨k + 1, _, by omega, by go_num, (HX.out _).1, HF.out.trans (HX.out _).2⟩
                case measure => simp [intOf]; omega
              · obtain rfl : n5 = k := by omega
                have HT6 : Hid (OwnC w wr p q c gd g v3 cmD s2) := OwnC.newer HT4'.out HT5.out hF (fun k hk => (HLO5.out k hk).1)
                clear hrow hF HT4' HT5 HR5 HLO5
                have hE : cmD.rdE s2 0 128 = 0 := DrvS.rdE_ok HPO.out.c.dn ⟨by decide, by decide, by decide, by decide⟩
                have hlw : (cmD.words s2 0 128).length = 128 := DrvS.words_length HT6.out.o.n.ok HT6.out.dk (by decide)
                obtain ⟨W, hW⟩ : ∃ W, cmD.words s2 0 128 = W := ⟨_, rfl⟩
                have KR : Hid (∀ {wx : World}, DrvAt wx gd p cmD → NorAt wx p q c s2 → Calls Try.prog 13 #[.pointer (some ⟨gd, 0, none⟩), .int .i64 0, .int .i64 128] wx fun e w' => ∃ A cp, e = .returned (.tuple #[.slice A 128 cp, .int .i64 0]) ∧ Rd w' A (ints .u32 W) ∧ Frm NoB wx w') := fun {wx} h1 h2 => by
                  refine (dread_is 0 128 h1 h2 HT6.out.dk).mono ?_
                  rintro e w' ⟨A, cp, rfl, h1, h2, h3, h4⟩
                  have e1 : cmD.rd s2 0 128 = W := by unfold DrvS.rd; rw [if_pos hE, ← hW]; rfl
                  rw [e1] at h1 h3 ⊢
                  rw [← hW, hlw, hE]
                  rw [← hW] at h1
                  exact ⟨A, cp, rfl, h1, h4⟩
                have hWl : W.length = 128 := by rw [← hW]; exact hlw
                have HWL := hide hWl
                clear hE hlw hW hWl
                go_wp2_with fail
                refine (KR.out HT6.out.dr HT6.out.o.n).mono ?_
                rintro e w7 ⟨A7, c7, rfl, hR7, hF7⟩
                have HT7 : Hid (OwnC w w7 p q c gd g v3 cmD s2) := HT6.out.frm hF7
                have HR7 := hide hR7
                clear hR7 hF7 HT6
                go_wp2_with fail
                refine (ownc_open HT7.out.o HT7.out.dr HT7.out.dk HT7.out.m HPO.out.c.dn).mono ?_
                rintro e w8 ⟨gu, vu, rfl, hT8, -, -, hF8⟩
                have HT8 := hide (HT7.out.frm hF8)
                have HU8 := hide hT8
                have HR8 := hide (HR7.out.frm' hF8 (fun _ _ _ e => e))
                clear hT8 hF8 HR7 HT7
                go_wp2_with fail
                refine (KR.out HT8.out.dr HT8.out.o.n).mono ?_
                rintro e w9 ⟨A9, c9, rfl, hR9, hF9⟩
                have HT9 := hide (HT8.out.frm hF9)
                have HU9 := hide (HU8.out.frm hF9)
                have HR9 := hide hR9
                have HS9 := hide (HR8.out.frm' hF9 (fun _ _ _ e => e))
                clear hR9 hF9 HR8 HT8 HU8
                go_wp2_with fail
                refine (ownc_get HU9.out).mono ?_
                rintro e wa ⟨va, rfl, hya, -, hFa⟩
                rw [if_pos HON2.out, HL2.out] at hya
                rw [decide_eq_true HON2.out]
                have HTa := hide (HT9.out.frm hFa)
                have HUa := hide (HU9.out.frm hFa)
                have HRa := hide (HR9.out.frm' hFa (fun _ _ _ e => e))
                have HSa := hide (HS9.out.frm' hFa (fun _ _ _ e => e))
                have HYa := hide hya
                obtain ⟨Aa, na, ca, rfl⟩ := hya.form
                clear hya hFa HT9 HU9 HR9 HS9
                go_wp2_with fail
                refine (ownc_get HTa.out).mono ?_
                rintro e wb ⟨vb, rfl, hyb, -, hFb⟩
                rw [if_pos HON2.out, HL2.out] at hyb
                rw [decide_eq_true HON2.out]
                have HTb := hide (HTa.out.frm hFb)
                have HUb := hide (HUa.out.frm hFb)
                have HRb := hide (HRa.out.frm' hFb (fun _ _ _ e => e))
                have HSb := hide (HSa.out.frm' hFb (fun _ _ _ e => e))
                have HYb := hide hyb
                have HZb := hide (HYa.out.frm0 hFb)
                obtain ⟨Ab, nb, cb, rfl⟩ := hyb.form
                clear hyb hFb HTa HUa HRa HSa HYa
                go_wp2_with fail
                have KS := sameWords_is W W A7 A9 c7 c9 wb HSb.out HRb.out (by have := HWL.out; omega)
                rw [HWL.out] at KS
                refine KS.mono ?_
                clear KS
                rintro e wd ⟨rfl, md, rfl⟩
                rw [same_iff.2 rfl]
                obtain ⟨b2, x2, v2, hAe2, hb2, hy2, hk2, hcell2⟩ := (HA.out.frm HTb.out.o.f (fun _ _ e => e)).at_ j (by have := HN.out; omega)
                injection hAe2 with e1
                injection e1 with e1 e2
                subst e1 e2
                have hcb : wb.cell? ⟨b, x + j, none⟩ = some (.slice Ax n5 cx) := by
                  rw [HTb.out.o.f.cell (p := ⟨b, x + j, none⟩) hcw.out (fun e => e), ← HT.out.o.f.cell (p := ⟨b, x + j, none⟩) hcw.out (fun e => e)]
                  exact HCELL.out
                rw [hcb] at hcell2
                injection hcell2 with hcell2
                rw [HLL.out, ← hcell2] at hy2
                have KB1 : Hid (∀ m, Calls Try.prog 16 #[.slice Aa na ca, .slice Ax n5 cx] (wb.drewN m) fun e w' => e = .returned (.bool true) ∧ ∃ q, w' = (wb.drewN m).drewN q) := fun m => by
                  have hf : Frm NoB wb (wb.drewN m) := (Frm.refl NoB wb).drewN m
                  have := sameBytes_is (HZb.out.frm0 hf) (hy2.frm0 hf)
                  rwa [decide_eq_true rfl] at this
                have KB2 : Hid (∀ m, Calls Try.prog 16 #[.slice Ab nb cb, .slice Ax n5 cx] (wb.drewN m) fun e w' => e = .returned (.bool true) ∧ ∃ q, w' = (wb.drewN m).drewN q) := fun m => by
                  have hf : Frm NoB wb (wb.drewN m) := (Frm.refl NoB wb).drewN m
                  have := sameBytes_is (HYb.out.frm0 hf) (hy2.frm0 hf)
                  rwa [decide_eq_true rfl] at this
                have hcb' : (wb.drewN md).cell? ⟨b, x + j, none⟩ = some (.slice Ax n5 cx) := hcb
                clear hy2 hk2 hb2 hcell2 HYb HZb
                go_wp2_with fail
                refine (KB1.out _).mono ?_
                rintro e we ⟨rfl, me, rfl⟩
                have hcb2 : ((wb.drewN md).drewN me).cell? ⟨b, x + j, none⟩ = some (.slice Ax n5 cx) := hcb
                clear KB1
                go_wp2_with fail
                refine (KB2.out (md + me)).mono ?_
                rintro e wf ⟨rfl, mf, rfl⟩
                have hfq : Frm NoB wb (wb.drewN (md + me + mf)) := (Frm.refl NoB wb).drewN _
                have HTf := hide (HTb.out.frm hfq)
                have HUf := hide (HUb.out.frm hfq)
                clear hcb hcb' hcb2 hfq KB2 HTb HUb
                go_wp2_with fail
                refine (cturn_is HUf.out.t).mono ?_
                rintro e w' ⟨rfl, rfl⟩
                go_wp2_with fail
                refine (cturn_is HTf.out.t).mono ?_
                rintro e w' ⟨rfl, rfl⟩
                go_wp2
                go_roundw
                case rel =>
                  refine ⟨j + 1, gu, vu, s2, by omega, by omega, by go_num, rfl, HUf.out, HPO.out.c, ?_⟩
                  rw [HL2.out]
                  have := HTN.out
                  dsimp only
                  omega
                case measure => simp [intOf]; omega
    · have HF := hide HT.out.o.f
      clear HT HC HTN HA
      by_cases hjn : j < n
      · obtain rfl : j = 8 := by omega
        go_wp2_with fail
        refine (awake_is _).mono ?_
        rintro e w5 ⟨rfl, hF5⟩
        go_wp2
        go_ret
        exact ⟨rfl, HF.out.trans hF5⟩
      · obtain rfl : j = n := by omega
        go_wp2_with fail
        refine (awake_is _).mono ?_
        rintro e w5 ⟨rfl, hF5⟩
        go_wp2
        go_ret
        exact ⟨rfl, HF.out.trans hF5⟩
end Go.Proofs.Ytiapoalkkhpmlaa
