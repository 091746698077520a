/-
  Texts of this claim, joined: Byt7, BytL0, CelP, Cel1, CutW, NorGen, Drv1.
-/
import Derived.Shelf.RegionOpen
import Derived.Deep.RegionHeld3
import Derived.IntWalk
import Derived.Test.YtiapoalkkhpmlaaCelJ3
/-
  bytes: Words.
-/
namespace Go.Proofs.Ytiapoalkkhpmlaa
open Go.RowKit
attribute [local go_sem] Oper.semAt_some
/-- bytes, up to whole words -/
def padN (b : List Int) : Nat := (4 - b.length % 4) % 4
def padded (b : List Int) : List Int := b ++ List.replicate (padN b) 255
def wordsOf (b : List Int) : List Int := (List.range ((b.length + 3) / 4)).map fun k => wv ((padded b).drop (4 * k))
theorem padded_length (b : List Int) : (padded b).length = 4 * ((b.length + 3) / 4) := by
  unfold padded padN; rw [List.length_append, List.length_replicate]; omega
theorem padded_u8 {b : List Int} (h : U8 b) : U8 (padded b) := h.append (fun x hx => by rw [(List.mem_replicate.1 hx).2]; omega)
theorem wordsOf_length (b : List Int) : (wordsOf b).length = (b.length + 3) / 4 := by simp [wordsOf]
theorem wordsOf_get {b : List Int} {k : Nat} (h : k < (b.length + 3) / 4) : (wordsOf b).getD k 0 = wv ((padded b).drop (4 * k)) := by
  unfold wordsOf
  rw [List.getD_eq_getElem?_getD, List.getElem?_map, List.getElem?_range h]; rfl
theorem wordsOf_u32 {b : List Int} (h : U8 b) : U32 (wordsOf b) := fun x hx => by
  obtain ⟨k, _, rfl⟩ := List.mem_map.1 hx
  have hu := (padded_u8 h).drop (4 * k)
  have h0 := hu.get 0; have h1 := hu.get 1; have h2 := hu.get 2; have h3 := hu.get 3
  unfold wv
  omega
section
variable {w : World}
def PadRel (w : World) (b : List Int) (v : Value) (wr : World) : Prop := ∃ j : Nat, j ≤ padN b ∧ Grew w w.heap.size (.slice none 0 0) v (b ++ List.replicate j 255) wr
theorem three_boxes8 {w W : World} {c0 c1 c2 : Array Value} {t0 t1 t2 : TypeId} (hW : ((w.alloc (.cells c0 t0)).alloc (.cells c1 t1)).alloc (.cells c2 t2) = W) :
    W.heap.size = w.heap.size + 3 ∧ Frm NoB w W ∧ Blk W w.heap.size t0 c0 ∧ Blk W (w.heap.size + 1) t1 c1 ∧ Blk W (w.heap.size + 2) t2 c2 := by
  subst hW
  have n1 := Blk.new (w.alloc (.cells c0 t0)) t1 c1
  have n2 := Blk.new ((w.alloc (.cells c0 t0)).alloc (.cells c1 t1)) t2 c2
  simp only [World.size_alloc] at n1 n2
  exact ⟨by simp only [World.size_alloc], ((Frm.refl NoB w).alloc _).alloc _ |>.alloc _, (((Blk.new w t0 c0).alloc _).alloc _), n1.alloc _, n2⟩
theorem chunk_is (A : Option Addr) (n c : Nat) : Calls Try.prog 71 #[.slice A n c, .int .i64 4] w fun e w' => e = .returned (.func (.func 84) #[] #[.pointer (some ⟨w.heap.size, 0, none⟩), .pointer (some ⟨w.heap.size + 1, 0, none⟩)]) ∧ w' = (w.alloc (.cells #[.slice A n c] 28)).alloc (.cells #[.int .i64 4] 3) := by
  go_enter Try.func71, Try.ntmps71
  go_wp2
  go_ret
  exact ⟨rfl, rfl⟩
/-- between two rounds: k words have come -/
structure WdInv (w : World) (H : Nat) (b : List Int) (v : Value) (k : Nat) (W : World) : Prop where
  r : By W v (padded b)
  out : ∃ u, Blk W H 34 #[u] ∧ W.ownsRow (H + 5) 49 1 u k (ints .u32 ((wordsOf b).take k))
  f : Frm NoB w W
/-- the blocks of the iterator, and of the loop -/
def WdB (H : Nat) : Nat → Prop := fun k => H + 1 ≤ k ∧ k < H + 5
theorem WdInv.frm {w W W' : World} {H : Nat} {b : List Int} {v : Value} {k : Nat} (h : WdInv w H b v k W) (hw : w.heap.size ≤ H) (hv : ∀ k, RowB v k → k < H) (hf : Frm (WdB H) W W') : WdInv w H b v k W' := by
  obtain ⟨u, hb, ho⟩ := h.out
  exact ⟨h.r.frm hf (fun k hk e => by have := hv k hk; have := e.1; omega), ⟨u, hb.frm hf (fun e => by have := e.1; omega), own_frm ho hf (fun b e h2 => by have := (ho.lt b e).1; have := h2.2; omega)⟩, h.f.then_ hf (fun i hi e => by have := e.1; omega)⟩
theorem own_boxG {W w2 : World} {B base : Nat} {t e : TypeId} {cs : Array Value} {X : Obj} {n : Nat} {v : Value} {xs : List Value} (hB : B < base) (hv : Blk W B t cs) (ho : W.ownsRow base e 1 v n xs) (hgr : (W.alloc X).grownBy w2 v.ownBlock) : Blk w2 B t cs :=
  (hgr.block _ ((hv.alloc X).lt) (fun e => by have := (ho.lt B e.symm).1; omega)).trans (hv.alloc X)
/-- what a round has written -/
theorem WdInv.round {w W W' w5 : World} {H g2 cap : Nat} {b : List Int} {v u : Value} {k : Nat} {y : Int} (h : WdInv w H b v k W') (ho : W'.ownsRow (H + 5) 49 1 u k (ints .u32 ((wordsOf b).take k)))
    (hown : w5.ownsRow (H + 5) 49 1 (.slice (some ⟨g2, 0, none⟩) (k + 1) cap) (k + 1) (ints .u32 ((wordsOf b).take k) ++ [.int .u32 y])) (hb5 : Blk w5 H 34 #[u]) (hF5 : Frm (fun x => RowB u x ∨ x = H) W' w5)
    (hsz : W.heap.size = H + 3) (hw : w.heap.size ≤ H) (hv : ∀ k, RowB v k → k < H) (hk : k < (wordsOf b).length) (hy : (wordsOf b).getD k 0 = y) :
    Keep (fun k => (NoB k ∨ Two (H + 1) (H + 2) k) ∨ LoopB W.heap.size k) W' (w5.setCell ⟨H, 0, none⟩ (.slice (some ⟨g2, 0, none⟩) (k + 1) cap)) ∧ WdInv w H b v (List.range k ++ [k]).length (w5.setCell ⟨H, 0, none⟩ (.slice (some ⟨g2, 0, none⟩) (k + 1) cap)) := by
  have hF6 : Frm (fun x => RowB u x ∨ x = H) W' (w5.setCell ⟨H, 0, none⟩ (.slice (some ⟨g2, 0, none⟩) (k + 1) cap)) := hF5.setCell (p := ⟨H, 0, none⟩) (.inl (.inr rfl)) _
  have hu : ∀ x, RowB u x → H + 5 ≤ x := fun x hx => (ho.lt x hx).1
  refine ⟨Keep.of_frm hF6 (fun i hi e => ?_), ?_⟩
  · rcases e with e | e
    · have := hu i e
      rcases hi with (hi | (hi | hi)) | (hi | hi)
      · cases hi
      all_goals omega
    · rcases hi with (hi | (hi | hi)) | (hi | hi)
      · cases hi
      all_goals omega
  · have e : (List.range k ++ [k]).length = k + 1 := by simp
    rw [e]
    refine ⟨h.r.frm hF6 (fun j hj e => ?_), ⟨_, hb5.set_ 0 _, ?_⟩, h.f.then_ hF6 (fun i hi e => ?_)⟩
    · have := hv j hj
      rcases e with e | e
      · have := hu j e; omega
      · omega
    · have e2 : ints .u32 ((wordsOf b).take (k + 1)) = ints .u32 ((wordsOf b).take k) ++ [.int .u32 y] := by
        rw [← take_next hk, ints_append, hy]; rfl
      rw [e2]
      exact own_frm hown ((Frm.refl (One H) w5).set1 0 _) (fun j hj e => by have := (hown.lt j hj).1; have e : j = H := e; omega)
    · rcases e with e | e
      · have := hu i e; omega
      · omega
def wdAct (A A1 : Option Addr) (c c1 L m H : Nat) (g o k : Nat) (v1 u9 u10 u11 u12 u13 u14 : Value) : Act := { tmps := #[.slice A L c, undef, .slice none 0 0, .slice A1 (4 * m) c1, .pointer (some ⟨H, 0, none⟩), .slice (some ⟨g, o + 4 * k, none⟩) 4 4, .slice A L c, v1, .slice A1 (4 * m) c1, u9, u10, u11, u12, u13, u14, .slice A1 (4 * m) c1,
  .func (.func 84) #[] #[.pointer (some ⟨H + 1, 0, none⟩), .pointer (some ⟨H + 2, 0, none⟩)], .slice (some ⟨g, o + 4 * k, none⟩) 4 4, undef, undef, undef, undef, undef, undef], defers := [] }
def lenV : Value → Nat
  | .slice _ n _ => n
  | _ => 0
theorem own_none {W : World} {base : Nat} {e : TypeId} {A : Option Addr} {n c : Nat} {xs : List Value} (h : W.ownsRow base e 1 (.slice A n c) n xs) : A = none → c = 0 := fun hA => by
  rcases h.2 with ⟨h1, _⟩ | ⟨g, cap, cur, h1, _⟩
  · injection h1
  · subst hA; injection h1 with h1; cases h1
def WordsPost (w : World) (b : List Int) (e : Ending) (w' : World) : Prop := ∃ A c, e = .returned (.slice A (wordsOf b).length c) ∧ Rd w' A (ints .u32 (wordsOf b)) ∧ (∀ a, A = some a → w.heap.size ≤ a.block ∧ a.block < w'.heap.size) ∧ (A = none → c = 0) ∧ Frm NoB w w'
theorem wordsOf_is {vx : Value} {b : List Int} (hy : By w vx b) (hl : b.length ≤ 16777000) :
    Calls Try.prog 38 #[vx] w (WordsPost w b) := by
  have HY := hide hy
  have hY_u := hy.u
  obtain ⟨A, c, rfl, -⟩ := hy
  refine calls_marks Try.func38 rfl ?_
  simp only [Try.ntmps38, List.size_toArray, List.length_cons, List.length_nil, Nat.reduceAdd, Nat.reduceSub, Array.replicate_succ, Array.replicate_zero, List.push_toArray, List.append_toArray, List.nil_append, List.cons_append]
  go_wp2_with (at_builtin; refine append_bytes rfl (.const (.slice none 0 0)) (.tmp 6) rfl w.heap.size _ _ [] b rfl rfl (Ob.nil _ _) HY.out (by simp only [List.length_nil]; omega) (Nat.le_refl _) ?_; intro v1 w1 hg)
  have HG : Hid (Grew w w.heap.size (.slice none 0 0) v1 b w1) := hg
  clear hg
  go_loopw [3] (fun v wr => PadRel w b v wr) (fun v _ => padN b - (lenV v - b.length))
  case atStart => exact ⟨0, Nat.zero_le _, by rw [List.replicate_zero, List.append_nil]; exact HG.out⟩
  case round =>
    obtain ⟨j, hj, hG⟩ := hrel
    obtain ⟨L, hL⟩ : ∃ L, (b ++ List.replicate j 255).length = L := ⟨_, rfl⟩
    have hL2 : L = b.length + j := by rw [← hL, List.length_append, List.length_replicate]
    have hG0 := hide hG
    obtain ⟨A1, c1, rfl, -⟩ := hG.o.by_
    rw [hL] at hG0 ⊢
    have q : Int.tmod (L : Int) 4 = ((L % 4 : Nat) : Int) := by rw [Int.tmod_eq_emod_of_nonneg (by omega)]; omega
    have hp3 : padN b ≤ 3 := by unfold padN; omega
    by_cases hlt : j < padN b
    · have q4 : 0 < L % 4 := by unfold padN at hlt; omega
      clear hG hL
      go_wp2_with (at_builtin; refine append_bytes rfl (.tmp 12) (.tmp 13) rfl w.heap.size _ _ (b ++ List.replicate j 255) [255] rfl rfl (hG0.out.o.frm0 ((Frm.refl NoB wr).alloc _)) (by_lit wr [255] (U8.cons (by omega) U8.nil) (by simp) _ rfl 1 rfl) (by rw [List.length_append, List.length_replicate]; simp only [List.length_singleton]; omega) (by have := hG0.out.f.size; simp; omega) ?_; intro v' w2 hg)
      have HG1 := hide ((hG0.out.frm ((Frm.refl NoB wr).alloc (.cells #[.int .u8 255] 5))).trans hg)
      clear hg
      go_wp2
      go_roundw
      case rel =>
        refine ⟨j + 1, by omega, ?_⟩
        have := HG1.out
        rw [List.append_assoc, ← List.replicate_succ'] at this
        exact this
      case measure =>
        obtain ⟨A2, c2, rfl, -⟩ := HG1.out.o.by_
        simp [lenV, hL2]; omega
    · have q4 : L % 4 = 0 := by unfold padN at hlt hj; omega
      have hj2 : j = padN b := by omega
      subst hj2
      obtain ⟨m, hm⟩ : ∃ m, (b.length + 3) / 4 = m := ⟨_, rfl⟩
      have hLm : L = 4 * m := by unfold padN at hL2; omega
      subst hLm
      have HL2 := hide hL2
      clear hL2 q q4 hj hp3 hlt
      have HG1 : Hid (Grew w w.heap.size (.slice none 0 0) (.slice A1 (4 * m) c1) (padded b) wr) := hG0.out
      have HU := hide hY_u
      clear hG hL HY hG0 HG
      go_wp2_with (go_at_call 71; refine (chunk_is _ _ _).mono ?_; rintro e w' ⟨rfl, rfl⟩)
      rename_i K0 hK0
      obtain ⟨W, hW⟩ : ∃ W, (((wr.alloc (.cells #[.slice none 0 0] 34)).alloc (.cells #[.slice A1 (4 * m) c1] 28)).alloc (.cells #[.int .i64 4] 3)) = W := ⟨_, rfl⟩
      rw [hW]
      obtain ⟨hsz, hF, b0, b1, b2⟩ := three_boxes8 hW
      have hFw : Frm NoB w wr := HG1.out.new
      have hHw := hFw.size
      have hby := HG1.out.o.by_
      have hrow : ∀ k, RowB (.slice A1 (4 * m) c1) k → k < wr.heap.size := fun k hk => (HG1.out.o.lo hk).2
      have I0 : WdInv w wr.heap.size b (.slice A1 (4 * m) c1) 0 W := ⟨hby.frm0 hF, ⟨_, b0, by simpa [ints] using World.ownsRow_nil W _ _ _⟩, hFw.trans hF⟩
      have hpl := padded_length b
      rw [hm] at hpl
      have hadr : ∃ g o, (0 < m → A1 = some ⟨g, o, none⟩) ∧ (∀ i, i < 4 * m → wr.cell? ⟨g, o + i, none⟩ = some (.int .u8 ((padded b).getD i 0))) ∧ (0 < m → g < wr.heap.size) := by
        rcases Nat.eq_zero_or_pos m with h0 | h0
        · exact ⟨0, 0, fun h => by omega, fun i hi => by omega, fun h => by omega⟩
        · obtain ⟨A2, c2, e2, hr, -⟩ := hby
          injection e2 with e2 e3 e4
          subst e2
          obtain ⟨g, o, rfl, hc⟩ := hr (ints_ne (by intro e; rw [e] at hpl; simp at hpl; omega))
          exact ⟨g, o, fun _ => rfl, fun i hi => hc i _ (ints_get (by omega)), fun _ => hrow g rfl⟩
      obtain ⟨g, o, hA1, hcell, hgl⟩ := hadr
      have hc1 : 4 * m ≤ c1 ∧ (c1 : Int) ≤ 9223372036854775807 := by
        obtain ⟨A2, c2, e2, -, -, h4, h5, -⟩ := hby
        injection e2 with e2 e3 e4
        subst e4
        omega
      clear hW
      refine (wpIn_wide (n := 4)).1 ?_
      refine wpIn_rangeL (F := Fence.wide) (n := 4) rfl (by omega) (gf := 84) (lb := #[.pointer (some ⟨wr.heap.size + 1, 0, none⟩), .pointer (some ⟨wr.heap.size + 2, 0, none⟩)]) rfl trivial (enters_of Try.func84 (by kernel_rfl) rfl)
        (encs := fun k : Nat => #[.slice (some ⟨g, o + 4 * k, none⟩) 4 4]) (U := NoB) (V := Two (wr.heap.size + 1) (wr.heap.size + 2)) (full := List.range m)
        (chunk1_in Fence.wide 3 trivial rfl (by omega) (wr.heap.size + 1) (wr.heap.size + 2) g o m c1 A1 hA1 hc1.1 hc1.2 W (b1.cell 0) (b2.cell 0))
        (fun k hk => by cases hk) (fun x => rfl)
        (fun pre W' => WdInv w wr.heap.size b (.slice A1 (4 * m) c1) pre.length W') (fun _ _ _ => False)
        (fun pre A B hi hf => hi.frm hHw hrow (hf.mono (fun k _ hk => ?sub)))
        (fun _ _ _ _ hi _ => hi) I0
        (fun k a' W' => a' = wdAct A A1 c c1 b.length m wr.heap.size g o k v1 (.int .i64 (4 * (m : Int))) (.int .i64 0) (.bool false) u12 u13 u14)
        (fun k a' A B hx hf => hx) ?assign ?body (fun k hk => by rcases hk with hk | hk <;> omega) ?done (fun _ _ _ _ h _ => h.elim)
      case sub =>
        have h : (NoB k ∨ LoopB W.heap.size k) → wr.heap.size + 1 ≤ k ∧ k < wr.heap.size + 5 := fun hk => by
          rcases hk with hk | (hk | hk)
          · cases hk
          all_goals omega
        exact h hk
      case assign =>
        intro l pre k W' K hlt hi hK
        have HK := hide hK
        have HI := hide hi
        clear hK hi I0 b0 b1 b2 hF
        gi_wp2
        refine HK.out _ _ (Keep.refl _ _) HI.out ?_
        rfl
      case body =>
        rintro l pre k a' W' hlt hi rfl hpre
        obtain ⟨rfl, hk⟩ := range_prefix hpre
        rw [List.length_range] at hi
        have hA1 := hA1 (by omega)
        subst hA1
        have hgl := hgl (by omega)
        have hcw : ∀ i, i < 4 * m → W'.cell? ⟨g, o + i, none⟩ = some (.int .u8 ((padded b).getD i 0)) := fun i hi2 => by
          obtain ⟨A2, c2, e2, hr, -⟩ := hi.r
          injection e2 with e2 e3 e4
          subst e2
          obtain ⟨g2, o2, e5, hc⟩ := hr (ints_ne (by intro e; rw [e] at hpl; simp at hpl; omega))
          injection e5 with e5
          injection e5 with e6 e7
          subst e6 e7
          exact hc i _ (ints_get (by omega))
        have hwk := wordsOf_get (b := b) (k := k) (by omega)
        have hwl := wordsOf_length b
        obtain ⟨x0, x1, x2, x3, rest, hd⟩ : ∃ x0 x1 x2 x3 rest, (padded b).drop (4 * k) = x0 :: x1 :: x2 :: x3 :: rest := by
          have hln : ((padded b).drop (4 * k)).length = 4 * m - 4 * k := by rw [List.length_drop, hpl]
          match h : (padded b).drop (4 * k) with
          | [] => rw [h] at hln; simp at hln; omega
          | [_] => rw [h] at hln; simp at hln; omega
          | [_, _] => rw [h] at hln; simp at hln; omega
          | [_, _, _] => rw [h] at hln; simp at hln; omega
          | x0 :: x1 :: x2 :: x3 :: l => exact ⟨x0, x1, x2, x3, l, rfl⟩
        have hud := (padded_u8 HU.out).drop (4 * k)
        have hrd : Rd W' (some ⟨g, o + 4 * k, none⟩) (ints .u8 (x0 :: x1 :: x2 :: x3 :: rest)) := by
          rw [← hd]
          refine fun _ => ⟨g, o + 4 * k, rfl, fun i v hv => ?_⟩
          have hlt2 : i < ((padded b).drop (4 * k)).length := by have := (List.getElem?_eq_some_iff.1 hv).1; rwa [ints_length] at this
          rw [List.length_drop, hpl] at hlt2
          rw [Nat.add_assoc, hcw (4 * k + i) (by omega), ← hv]
          rw [ints_get (by rw [List.length_drop, hpl]; omega)]
          congr 2
          rw [List.getD_eq_getElem?_getD, List.getD_eq_getElem?_getD, List.getElem?_drop]
        have hy : (wordsOf b).getD k 0 = x0 * 16777216 + x1 * 65536 + x2 * 256 + x3 := by rw [hwk, hd]; rfl
        rw [hd] at hud
        have WD : Hid (Calls Try.prog 72 #[.slice (some ⟨g, o + 4 * k, none⟩) 4 4] W'.drew fun e w' => e = .returned (.int .u32 ((wordsOf b).getD k 0)) ∧ ∃ m, w' = W'.drew.drewN m) := by
          rw [hy]
          exact word_is x0 x1 x2 x3 rest (U8.cons hud.head (U8.cons hud.tail.head (U8.cons hud.tail.tail.head (U8.cons hud.tail.tail.tail.head U8.nil)))) (hrd.frm ((Frm.refl NoB W').drew) (fun _ _ e => e)) 4 (by omega)
        have hkl : k < (wordsOf b).length := by rw [hwl, hm]; exact hk
        obtain ⟨y, hyy⟩ : ∃ y, (wordsOf b).getD k 0 = y := ⟨_, rfl⟩
        rw [hyy] at WD
        obtain ⟨u, hbu, hou⟩ := hi.out
        have HI := hide hi
        have HBU := hide hbu
        have HOU := hide hou
        have HYY := hide hyy
        have ld : W'.cell? ⟨wr.heap.size, 0, none⟩ = some u := hbu.cell 0
        clear hi hbu hou hyy hy hud hrd hcw hwk hd hpre I0 b0 b1 b2 hF hcell hby
        obtain ⟨i0, hi0, hz0, hz1, hz2⟩ := info_parts uint32_info
        have hk24 : k ≤ 16777216 := by omega
        have hbs : wr.heap.size + 5 ≤ W'.heap.size + 1 := by omega
        unfold wdAct
        gi_wp2
        refine wpIn_region_any (by kernel_rfl) (anyIn_of_any (by kernel_rfl) (by rintro ⟨a0, w0, h0⟩; exact h0) _ _ _ _ ?_)
        refine wpAny_take (i := 1) (v := .slice (some ⟨g, o + 4 * k, none⟩) 4 4) rfl (by kernel_rfl) (by kernel_rfl) (by kernel_rfl) (fun c a w h => h) (.inl ⟨by rfl, fun w => ?ya⟩) ?_
        case ya =>
          go_simp
          try with_reducible rfl
        simp only [Act.put, List.setIfInBounds_toArray, List.set_cons_zero, List.set_cons_succ]
        refine wpAny_all (rs := [0, 2]) (by kernel_rfl) (by simp) (fun i hi2 => ?_)
        have hi3 : i = 0 ∨ i = 2 := by simpa using hi2
        rcases hi3 with rfl | rfl
        · unfold wpOp
          simp only [List.getElem?_toArray, List.getElem?_cons_zero, List.getElem?_cons_succ]
          rw [if_pos (by rfl)]
          refine .inl ?_
          go_simp
          refine wpAny_all (rs := [2]) (by kernel_rfl) (by simp) (fun i hi2 => ?_)
          obtain rfl : i = 2 := by simpa using hi2
          unfold wpOp
          simp only [List.getElem?_toArray, List.getElem?_cons_zero, List.getElem?_cons_succ]
          rw [if_pos (by rfl)]
          refine .inl ?_
          go_simp
          go_at_call 72
          refine WD.out.mono ?_
          rintro e W3 ⟨rfl, q, rfl⟩
          try simp only [Act.put, List.setIfInBounds_toArray, List.set_cons_zero, List.set_cons_succ]
          refine wpAny_all (rs := [3]) (by kernel_rfl) (by simp) (fun i hi2 => ?_)
          obtain rfl : i = 3 := by simpa using hi2
          unfold wpOp
          simp only [List.getElem?_toArray, List.getElem?_cons_zero, List.getElem?_cons_succ]
          rw [if_pos (by rfl)]
          refine .inl ?_
          go_simp
          refine wpAny_all (rs := [4]) (by kernel_rfl) (by simp) (fun i hi2 => ?_)
          obtain rfl : i = 4 := by simpa using hi2
          unfold wpOp
          simp only [List.getElem?_toArray, List.getElem?_cons_zero, List.getElem?_cons_succ]
          rw [if_pos (by rfl)]
          refine .inl ?_
          refine wp_append_lies _ (.tmp 18) (.tmp 21) 34 rfl (wr.heap.size + 5) 49 i0 _ 1 4 Try.underlying34 hi0 hz0 hz1 hz2 rfl (by omega) u k (ints .u32 ((wordsOf b).take k)) rfl (World.ownsRow.alloc (own_frm HOU.out (((Frm.refl NoB W').drew).drewN q) (fun _ _ e => e)) _) ⟨_, 0, none⟩ 1 1 [.int .u32 y] rfl rfl (World.news_of_block (cs := #[.int .u32 y]) (Blk.new (W'.drew.drewN q) 49 #[.int .u32 y])) (by simp [Value.oneCell']) (by omega) (by simp only [maxLen]; omega) (by omega) (by simp only [World.size_alloc]; exact hbs) _ rfl ?_
          intro g2 cap w5 hown hgrow _ _
          have HB5 := own_boxG (by omega) (Blk.frm HBU.out ((Frm.refl NoB W').drewN (1 + q)) (fun e => e)) (own_frm HOU.out ((Frm.refl NoB W').drewN (1 + q)) (fun _ _ e => e)) hgrow
          have hF5 : Frm (fun x => RowB u x ∨ x = wr.heap.size) W' w5 := ((((Frm.refl _ W').drewN (1 + q)).alloc _).grown hgrow (fun g hg _ => .inl hg))
          have y5 := HB5.cell 0
          have z5 := HB5.frozen 0
          have HOW := hide hown
          have HF5 := hide hF5
          have HBB5 := hide HB5
          clear hown hgrow hF5 HB5
          refine wpAny_all (rs := [5]) (by kernel_rfl) (by simp) (fun i hi2 => ?_)
          obtain rfl : i = 5 := by simpa using hi2
          unfold wpOp
          simp only [List.getElem?_toArray, List.getElem?_cons_zero, List.getElem?_cons_succ]
          rw [if_pos (by rfl)]
          refine .inl ?_
          go_simp
          refine wpAny_done (by kernel_rfl) ?_ _
          exact WdInv.round HI.out HOU.out HOW.out HBB5.out HF5.out hsz hHw hrow hkl HYY.out
        · unfold wpOp
          simp only [List.getElem?_toArray, List.getElem?_cons_zero, List.getElem?_cons_succ]
          rw [if_pos (by rfl)]
          refine .inl ?_
          go_simp
          go_at_call 72
          refine WD.out.mono ?_
          rintro e W3 ⟨rfl, q, rfl⟩
          try simp only [Act.put, List.setIfInBounds_toArray, List.set_cons_zero, List.set_cons_succ]
          refine wpAny_all (rs := [0, 3]) (by kernel_rfl) (by simp) (fun i hi2 => ?_)
          have hi3 : i = 0 ∨ i = 3 := by simpa using hi2
          rcases hi3 with rfl | rfl
          · unfold wpOp
            simp only [List.getElem?_toArray, List.getElem?_cons_zero, List.getElem?_cons_succ]
            rw [if_pos (by rfl)]
            refine .inl ?_
            go_simp
            refine wpAny_all (rs := [3]) (by kernel_rfl) (by simp) (fun i hi2 => ?_)
            obtain rfl : i = 3 := by simpa using hi2
            unfold wpOp
            simp only [List.getElem?_toArray, List.getElem?_cons_zero, List.getElem?_cons_succ]
            rw [if_pos (by rfl)]
            refine .inl ?_
            go_simp
            refine wpAny_all (rs := [4]) (by kernel_rfl) (by simp) (fun i hi2 => ?_)
            obtain rfl : i = 4 := by simpa using hi2
            unfold wpOp
            simp only [List.getElem?_toArray, List.getElem?_cons_zero, List.getElem?_cons_succ]
            rw [if_pos (by rfl)]
            refine .inl ?_
            refine wp_append_lies _ (.tmp 18) (.tmp 21) 34 rfl (wr.heap.size + 5) 49 i0 _ 1 4 Try.underlying34 hi0 hz0 hz1 hz2 rfl (by omega) u k (ints .u32 ((wordsOf b).take k)) rfl (World.ownsRow.alloc (own_frm HOU.out (((Frm.refl NoB W').drew).drewN q) (fun _ _ e => e)) _) ⟨_, 0, none⟩ 1 1 [.int .u32 y] rfl rfl (World.news_of_block (cs := #[.int .u32 y]) (Blk.new (W'.drew.drewN q) 49 #[.int .u32 y])) (by simp [Value.oneCell']) (by omega) (by simp only [maxLen]; omega) (by omega) (by simp only [World.size_alloc]; exact hbs) _ rfl ?_
            intro g2 cap w5 hown hgrow _ _
            have HB5 := own_boxG (by omega) (Blk.frm HBU.out ((Frm.refl NoB W').drewN (1 + q)) (fun e => e)) (own_frm HOU.out ((Frm.refl NoB W').drewN (1 + q)) (fun _ _ e => e)) hgrow
            have hF5 : Frm (fun x => RowB u x ∨ x = wr.heap.size) W' w5 := ((((Frm.refl _ W').drewN (1 + q)).alloc _).grown hgrow (fun g hg _ => .inl hg))
            have y5 := HB5.cell 0
            have z5 := HB5.frozen 0
            have HOW := hide hown
            have HF5 := hide hF5
            have HBB5 := hide HB5
            clear hown hgrow hF5 HB5
            refine wpAny_all (rs := [5]) (by kernel_rfl) (by simp) (fun i hi2 => ?_)
            obtain rfl : i = 5 := by simpa using hi2
            unfold wpOp
            simp only [List.getElem?_toArray, List.getElem?_cons_zero, List.getElem?_cons_succ]
            rw [if_pos (by rfl)]
            refine .inl ?_
            go_simp
            refine wpAny_done (by kernel_rfl) ?_ _
            exact WdInv.round HI.out HOU.out HOW.out HBB5.out HF5.out hsz hHw hrow hkl HYY.out
          · unfold wpOp
            simp only [List.getElem?_toArray, List.getElem?_cons_zero, List.getElem?_cons_succ]
            rw [if_pos (by rfl)]
            refine .inl ?_
            go_simp
            refine wpAny_all (rs := [0]) (by kernel_rfl) (by simp) (fun i hi2 => ?_)
            obtain rfl : i = 0 := by simpa using hi2
            have ld2 := ((Blk.drewN HBU.out (1 + q)).alloc (.cells #[.int .u32 y] 49)).cell 0
            unfold wpOp
            simp only [List.getElem?_toArray, List.getElem?_cons_zero, List.getElem?_cons_succ]
            rw [if_pos (by rfl)]
            refine .inl ?_
            go_simp
            refine wpAny_all (rs := [4]) (by kernel_rfl) (by simp) (fun i hi2 => ?_)
            obtain rfl : i = 4 := by simpa using hi2
            unfold wpOp
            simp only [List.getElem?_toArray, List.getElem?_cons_zero, List.getElem?_cons_succ]
            rw [if_pos (by rfl)]
            refine .inl ?_
            refine wp_append_lies _ (.tmp 18) (.tmp 21) 34 rfl (wr.heap.size + 5) 49 i0 _ 1 4 Try.underlying34 hi0 hz0 hz1 hz2 rfl (by omega) u k (ints .u32 ((wordsOf b).take k)) rfl (World.ownsRow.alloc (own_frm HOU.out (((Frm.refl NoB W').drew).drewN q) (fun _ _ e => e)) _) ⟨_, 0, none⟩ 1 1 [.int .u32 y] rfl rfl (World.news_of_block (cs := #[.int .u32 y]) (Blk.new (W'.drew.drewN q) 49 #[.int .u32 y])) (by simp [Value.oneCell']) (by omega) (by simp only [maxLen]; omega) (by omega) (by simp only [World.size_alloc]; exact hbs) _ rfl ?_
            intro g2 cap w5 hown hgrow _ _
            have HB5 := own_boxG (by omega) (Blk.frm HBU.out ((Frm.refl NoB W').drewN (1 + q)) (fun e => e)) (own_frm HOU.out ((Frm.refl NoB W').drewN (1 + q)) (fun _ _ e => e)) hgrow
            have hF5 : Frm (fun x => RowB u x ∨ x = wr.heap.size) W' w5 := ((((Frm.refl _ W').drewN (1 + q)).alloc _).grown hgrow (fun g hg _ => .inl hg))
            have y5 := HB5.cell 0
            have z5 := HB5.frozen 0
            have HOW := hide hown
            have HF5 := hide hF5
            have HBB5 := hide HB5
            clear hown hgrow hF5 HB5
            refine wpAny_all (rs := [5]) (by kernel_rfl) (by simp) (fun i hi2 => ?_)
            obtain rfl : i = 5 := by simpa using hi2
            unfold wpOp
            simp only [List.getElem?_toArray, List.getElem?_cons_zero, List.getElem?_cons_succ]
            rw [if_pos (by rfl)]
            refine .inl ?_
            go_simp
            refine wpAny_done (by kernel_rfl) ?_ _
            exact WdInv.round HI.out HOU.out HOW.out HBB5.out HF5.out hsz hHw hrow hkl HYY.out
      case done =>
        intro W2 hi hD
        rw [List.length_range] at hi
        obtain ⟨u, hbu, hou⟩ := hi.out
        have hwl := wordsOf_length b
        rw [hm] at hwl
        rw [List.take_of_length_le (by omega)] at hou
        obtain ⟨Au, cu, rfl, hRd, hAb, hcp⟩ := Rd.of_own hou
        have HRd := hide hRd
        have HAb := hide hAb
        have HNo := hide (own_none hou)
        have HDe := hide hD
        have HF2 := hide hi.f
        have ld := hbu.cell 0
        clear hi hbu hou hRd hAb hD I0 b0 b1 b2 hF
        refine hK0 _ _ ?_
        go_wp2
        have hF4 : Frm (One (wr.heap.size + 3)) W2 (W2.putObj (wr.heap.size + 3) (.deferred none)) := Frm.putObj (Frm.refl _ W2) _ (.inl rfl)
        refine postM_mark (v := .slice Au m cu) (by simp [results, Try.results38, go_sem]) rfl (by rw [← hsz]; exact HDe.out) ⟨Au, cu, ?_, ?_, ?_, HNo.out, ?_⟩
        · rw [hwl]
        · exact Rd.frm HRd.out hF4 (fun b hb e => by have := (HAb.out b hb).1; have e : b.block = wr.heap.size + 3 := e; omega)
        · exact fun a ha => by have := (HAb.out a ha).1; have := (HAb.out a ha).2; have := hF4.size; exact ⟨by omega, by omega⟩
        · exact HF2.out.then_ hF4 (fun i hi e => by have e : i = wr.heap.size + 3 := e; omega)
theorem words_is {vx : Value} {b : List Int} (hy : By w vx b) (hl : b.length ≤ 16777000) :
    Calls Try.prog 38 #[vx] w fun e w' => ∃ A c, e = .returned (.slice A (wordsOf b).length c) ∧ Rd w' A (ints .u32 (wordsOf b)) ∧ (∀ a, A = some a → w.heap.size ≤ a.block) ∧ Frm NoB w w' := by
  refine (wordsOf_is hy hl).mono ?_
  rintro e w' ⟨A, c, rfl, h1, h2, -, h3⟩
  exact ⟨A, c, rfl, h1, fun a ha => (h2 a ha).1, h3⟩
end
end Go.Proofs.Ytiapoalkkhpmlaa

/-
  Plain: words and bytes, there and back.
-/
namespace Go.Proofs.Ytiapoalkkhpmlaa
theorem byteW_wv {l : List Int} (u : U8 l) (j : Nat) (hj : j < 4) : byteW (wv l) j = l.getD j 0 := by
  have h0 := u.get 0; have h1 := u.get 1; have h2 := u.get 2; have h3 := u.get 3
  unfold byteW wv
  have hc : j = 0 ∨ j = 1 ∨ j = 2 ∨ j = 3 := by omega
  rcases hc with rfl | rfl | rfl | rfl
  all_goals
    simp only [Nat.reduceMul, Nat.reduceSub, Int.reducePow, Nat.sub_zero, Nat.mul_zero]
    omega
theorem getD_drop {l : List Int} {a i : Nat} : (l.drop a).getD i 0 = l.getD (a + i) 0 := by
  rw [List.getD_eq_getElem?_getD, List.getD_eq_getElem?_getD, List.getElem?_drop]
theorem ext_getD' {a b : List Int} (h : a.length = b.length) (he : ∀ i, i < a.length → a.getD i 0 = b.getD i 0) : a = b := by
  apply List.ext_getElem h
  intro i h1 h2
  have := he i h1
  rwa [List.getD_eq_getElem?_getD, List.getD_eq_getElem?_getD, List.getElem?_eq_getElem h1, List.getElem?_eq_getElem h2] at this
theorem bytesN_get {l : List Int} {n i : Nat} (h : i < n) : (bytesN l n).getD i 0 = byteW (l.getD (i / 4) 0) (i % 4) := by
  unfold bytesN
  rw [List.getD_eq_getElem?_getD, List.getElem?_map, List.getElem?_range h]; rfl
theorem back_bytes {b : List Int} (u : U8 b) : bytesN (wordsOf b) b.length = b := by
  apply ext_getD' (bytesN_length _ _)
  intro i hi
  rw [bytesN_length] at hi
  rw [bytesN_get hi, wordsOf_get (by omega), byteW_wv ((padded_u8 u).drop _) _ (by omega), getD_drop, show 4 * (i / 4) + i % 4 = i from by omega]
  unfold padded
  exact getD_append_left hi
theorem wv_bytes {l : List Int} (u : U32 l) {n k : Nat} (h : 4 * k + 3 < n) : wv ((bytesN l n).drop (4 * k)) = l.getD k 0 := by
  have hx := u.get k
  unfold wv
  rw [getD_drop, getD_drop, getD_drop, getD_drop, bytesN_get (by omega), bytesN_get (by omega), bytesN_get (by omega), bytesN_get (by omega)]
  rw [show (4 * k + 0) / 4 = k from by omega, show (4 * k + 1) / 4 = k from by omega, show (4 * k + 2) / 4 = k from by omega, show (4 * k + 3) / 4 = k from by omega,
    show (4 * k + 0) % 4 = 0 from by omega, show (4 * k + 1) % 4 = 1 from by omega, show (4 * k + 2) % 4 = 2 from by omega, show (4 * k + 3) % 4 = 3 from by omega]
  generalize l.getD k 0 = x at *
  unfold byteW
  simp only [Nat.reduceMul, Nat.reduceSub, Int.reducePow, Nat.sub_zero, Nat.mul_zero]
  omega
theorem back_words {l : List Int} (u : U32 l) : wordsOf (bytesN l (4 * l.length)) = l := by
  have hl : (bytesN l (4 * l.length)).length = 4 * l.length := bytesN_length _ _
  have hp : padded (bytesN l (4 * l.length)) = bytesN l (4 * l.length) := by
    unfold padded padN
    rw [hl, show (4 - 4 * l.length % 4) % 4 = 0 from by omega, List.replicate_zero, List.append_nil]
  apply ext_getD' (by rw [wordsOf_length, hl]; omega)
  intro i hi
  rw [wordsOf_length, hl] at hi
  rw [wordsOf_get (by rw [hl]; omega), hp]
  exact wv_bytes u (by omega)
theorem bytesN_take (l : List Int) {n k : Nat} (h : k ≤ n) : (bytesN l n).take k = bytesN l k := by
  unfold bytesN
  rw [← List.map_take, List.take_range, Nat.min_eq_left h]
end Go.Proofs.Ytiapoalkkhpmlaa

/-
  Plain: what a cell's two sectors have; what is put.
-/
namespace Go.Proofs.Ytiapoalkkhpmlaa
/-- is a sector whole? -/
def whl (f : Nat → Int) (o : Nat) : Bool := decide (f (o + 63) = 0 ∧ f o ≤ 2147483648 ∧ f (o + 1) ≤ 244)
/-- the bytes of a sector -/
def secB (f : Nat → Int) (o : Nat) : List Int := (List.range (f (o + 1)).toNat).map fun i => byteW (f (o + 2 + i / 4)) (i % 4)
/-- which sector is the cell's, its turn, its bytes -/
structure CelS where
  on : Int
  turn : Int
  b : List Int
def clook (f : Nat → Int) : CelS :=
  if whl f 0 = true then (if whl f 64 = true ∧ f 64 = f 0 + 1 then ⟨1, f 64, secB f 64⟩ else ⟨0, f 0, secB f 0⟩)
  else if whl f 64 = true then ⟨1, f 64, secB f 64⟩ else ⟨-1, 0, []⟩
theorem whl_congr {f g : Nat → Int} {o : Nat} (h : ∀ i, i < 64 → g (o + i) = f (o + i)) : whl g o = whl f o := by
  unfold whl
  rw [h 63 (by omega), h 1 (by omega), show g o = f o from by have := h 0 (by omega); rwa [Nat.add_zero] at this]
theorem secB_congr {f g : Nat → Int} {o : Nat} (h : ∀ i, i < 64 → g (o + i) = f (o + i)) (hn : f (o + 1) ≤ 244) : secB g o = secB f o := by
  unfold secB
  rw [h 1 (by omega)]
  apply List.map_congr_left
  intro i hi
  have hi := List.mem_range.1 hi
  rw [Nat.add_assoc, h (2 + i / 4) (by omega)]
theorem whl_true {f : Nat → Int} {o : Nat} (h : whl f o = true) : f (o + 63) = 0 ∧ f o ≤ 2147483648 ∧ f (o + 1) ≤ 244 := of_decide_eq_true h
theorem secB_length (f : Nat → Int) (o : Nat) : (secB f o).length = (f (o + 1)).toNat := by simp [secB]
theorem secB_u8 (f : Nat → Int) (o : Nat) : U8 (secB f o) := fun x hx => by
  obtain ⟨i, _, rfl⟩ := List.mem_map.1 hx
  exact byteW_u8 _ _
theorem clook_cases (f : Nat → Int) : (clook f = ⟨-1, 0, []⟩ ∧ whl f 0 = false ∧ whl f 64 = false) ∨
    (clook f = ⟨0, f 0, secB f 0⟩ ∧ whl f 0 = true ∧ ¬ (whl f 64 = true ∧ f 64 = f 0 + 1)) ∨
    (clook f = ⟨1, f 64, secB f 64⟩ ∧ whl f 64 = true ∧ (whl f 0 = true → f 64 = f 0 + 1)) := by
  unfold clook
  by_cases h0 : whl f 0 = true
  · rw [if_pos h0]
    by_cases h1 : whl f 64 = true ∧ f 64 = f 0 + 1
    · rw [if_pos h1]; exact .inr (.inr ⟨rfl, h1.1, fun _ => h1.2⟩)
    · rw [if_neg h1]; exact .inr (.inl ⟨rfl, h0, h1⟩)
  · rw [if_neg h0]
    by_cases h1 : whl f 64 = true
    · rw [if_pos h1]; exact .inr (.inr ⟨rfl, h1, fun h => absurd h h0⟩)
    · rw [if_neg h1]; exact .inl ⟨rfl, by simpa using h0, by simpa using h1⟩
theorem clook_congr {f g : Nat → Int} (h : ∀ i, i < 128 → g i = f i) : clook g = clook f := by
  have a0 : ∀ i, i < 64 → g (0 + i) = f (0 + i) := fun i hi => by rw [Nat.zero_add]; exact h i (by omega)
  have a1 : ∀ i, i < 64 → g (64 + i) = f (64 + i) := fun i hi => h _ (by omega)
  unfold clook
  rw [whl_congr a0, whl_congr a1, h 0 (by omega), h 64 (by omega)]
  by_cases h0 : whl f 0 = true
  · rw [if_pos h0, if_pos h0, secB_congr a0 (whl_true h0).2.2]
    by_cases h1 : whl f 64 = true ∧ f 64 = f 0 + 1
    · rw [if_pos h1, if_pos h1, secB_congr a1 (whl_true h1.1).2.2]
    · rw [if_neg h1, if_neg h1]
  · rw [if_neg h0, if_neg h0]
    by_cases h1 : whl f 64 = true
    · rw [if_pos h1, if_pos h1, secB_congr a1 (whl_true h1).2.2]
    · rw [if_neg h1, if_neg h1]
/-- the words of a put -/
def putL (turn : Int) (b : List Int) : List Int := (turn + 1) :: (b.length : Int) :: wordsOf b
theorem putL_length (turn : Int) (b : List Int) : (putL turn b).length = 2 + (b.length + 3) / 4 := by
  unfold putL; rw [List.length_cons, List.length_cons, wordsOf_length]; omega
theorem putL_u32 {turn : Int} {b : List Int} (h0 : 0 ≤ turn) (h1 : turn < 2147483648) (hb : U8 b) (hl : b.length ≤ 244) : U32 (putL turn b) := fun x hx => by
  unfold putL at hx
  rcases List.mem_cons.1 hx with rfl | hx
  · omega
  rcases List.mem_cons.1 hx with rfl | hx
  · omega
  exact wordsOf_u32 hb x hx
/-- the sector that is put next -/
def nextC (on : Int) : Nat := if on = 0 then 1 else 0
theorem nextC_lt (on : Int) : nextC on < 2 := by unfold nextC; split <;> omega
namespace DrvS
variable {d : DrvS} {s : NorS}
/-- a put into sector i: the flash then, what it tells -/
def cputI (d : DrvS) (s : NorS) (i : Nat) (l : List Int) : NorS × Int :=
  if d.erE s i = 0 then
    (if d.wrE (d.er s i) ((64 * i : Nat) : Int) l = 0 then
      (d.wr (d.wr (d.er s i) ((64 * i : Nat) : Int) l) ((64 * i + 63 : Nat) : Int) [0], d.wrE (d.wr (d.er s i) ((64 * i : Nat) : Int) l) ((64 * i + 63 : Nat) : Int) [0])
    else (d.wr (d.er s i) ((64 * i : Nat) : Int) l, d.wrE (d.er s i) ((64 * i : Nat) : Int) l))
  else (d.er s i, d.erE s i)
def cput (d : DrvS) (s : NorS) (c : CelS) (b : List Int) : NorS × Int :=
  if 244 < b.length then (s, 3) else if 2147483648 ≤ c.turn then (s, 5) else d.cputI s (nextC c.on) (putL c.turn b)
theorem cputI_n {i : Nat} {l : List Int} : (d.cputI s i l).1.n = s.n := by
  unfold cputI
  split
  · split
    · rw [wrn, wrn, ern]
    · rw [wrn, ern]
  · rw [ern]
theorem cput_n {c : CelS} {b : List Int} : (d.cput s c b).1.n = s.n := by
  unfold cput
  split
  · rfl
  split
  · rfl
  exact cputI_n
theorem cputI_Ok (h : s.Ok) {i : Nat} {l : List Int} : (d.cputI s i l).1.Ok := by
  unfold cputI
  split
  · split
    · exact wr_Ok (wr_Ok (er_Ok h _) _ _) _ _
    · exact wr_Ok (er_Ok h _) _ _
  · exact er_Ok h _
theorem cput_Ok (h : s.Ok) {c : CelS} {b : List Int} : (d.cput s c b).1.Ok := by
  unfold cput
  split
  · exact h
  split
  · exact h
  exact cputI_Ok h
theorem Ok.n' {s' : NorS} (h : d.Ok s) (hn : s'.n = s.n) : d.Ok s' := ⟨h.m, by rw [hn]; exact h.n⟩
/-- what a put that is OK leaves -/
theorem cputI_ok (hs : s.Ok) (hd : d.Ok s) {i : Nat} {l : List Int} (hl : l.length ≤ 63) (h : (d.cputI s i l).2 = 0) :
    i < d.many ∧ s.down = false ∧ (d.cputI s i l).1.down = false ∧ (d.cputI s i l).1.half = s.half ∧
    ∀ k, d.fn (d.cputI s i l).1 k = laidF (laidF (onesTo (d.fn s) (64 * i) 64) (64 * i) l) (64 * i + 63) [0] k := by
  unfold cputI at h ⊢
  by_cases h1 : d.erE s i = 0
  · rw [if_pos h1] at h ⊢
    by_cases h2 : d.wrE (d.er s i) ((64 * i : Nat) : Int) l = 0
    · rw [if_pos h2] at h ⊢
      have e := er_ok hs hd h1
      have hs1 := er_Ok (d := d) hs (i : Int)
      have hd1 : d.Ok (d.er s i) := hd.n' e.2.2.2.1
      have g := wr_ok hs1 hd1 h2
      have hs2 := wr_Ok (d := d) hs1 ((64 * i : Nat) : Int) l
      have hd2 : d.Ok (d.wr (d.er s i) ((64 * i : Nat) : Int) l) := hd1.n' g.2.2.2.1
      have k := wr_ok hs2 hd2 (b := 64 * i + 63) h
      refine ⟨e.1, e.2.1, k.2.2.1, by rw [k.2.2.2.2.1, g.2.2.2.2.1, e.2.2.2.2.1], fun j => ?_⟩
      rw [k.2.2.2.2.2 j]
      have e1 : d.fn (d.wr (d.er s i) ((64 * i : Nat) : Int) l) = laidF (onesTo (d.fn s) (64 * i) 64) (64 * i) l := by
        funext x
        rw [g.2.2.2.2.2 x]
        have : d.fn (d.er s i) = onesTo (d.fn s) (64 * i) 64 := funext e.2.2.2.2.2.2
        rw [this]
      rw [e1]
    · rw [if_neg h2] at h; exact absurd h h2
  · rw [if_neg h1] at h; exact absurd h h1
end DrvS
/-- what is put is what is looked at -/
theorem put_sec {f g : Nat → Int} {i : Nat} {turn : Int} {b : List Int} (hb : U8 b) (hl : b.length ≤ 244) (h0 : 0 ≤ turn) (h1 : turn < 2147483648)
    (hg : ∀ k, g k = laidF (laidF (onesTo f (64 * i) 64) (64 * i) (putL turn b)) (64 * i + 63) [0] k) :
    whl g (64 * i) = true ∧ g (64 * i) = turn + 1 ∧ secB g (64 * i) = b := by
  have hpl := putL_length turn b
  have g0 : ∀ j, j < 2 + (b.length + 3) / 4 → g (64 * i + j) = (putL turn b).getD j 0 := fun j hj => by
    rw [hg]
    unfold laidF
    simp only [List.length_cons, List.length_nil]
    rw [if_neg (by omega), if_pos (by omega), show 64 * i + j - 64 * i = j from by omega]
  have gl : g (64 * i + 63) = 0 := by
    rw [hg]
    unfold laidF
    simp only [List.length_cons, List.length_nil]
    rw [if_pos (by omega), Nat.sub_self]; rfl
  have ga : g (64 * i) = turn + 1 := by have := g0 0 (by omega); rw [Nat.add_zero] at this; rw [this]; rfl
  have gb : g (64 * i + 1) = b.length := by rw [g0 1 (by omega)]; rfl
  refine ⟨?_, ga, ?_⟩
  · unfold whl; rw [gl, ga, gb]; exact decide_eq_true ⟨rfl, by omega, by omega⟩
  · unfold secB
    rw [gb, Int.toNat_natCast]
    have key := back_bytes hb
    unfold bytesN at key
    refine Eq.trans (List.map_congr_left (fun j hj => ?_)) key
    have hj := List.mem_range.1 hj
    rw [Nat.add_assoc, g0 (2 + j / 4) (by omega)]
    unfold putL
    rw [show 2 + j / 4 = (j / 4 + 1) + 1 from by omega, List.getD_cons_succ, List.getD_cons_succ]
/-- what is put is the cell's -/
theorem put_look {f g : Nat → Int} {b : List Int} (hb : U8 b) (hl : b.length ≤ 244) (h0 : 0 ≤ (clook f).turn) (h1 : (clook f).turn < 2147483648)
    (hg : ∀ k, g k = laidF (laidF (onesTo f (64 * nextC (clook f).on) 64) (64 * nextC (clook f).on) (putL (clook f).turn b)) (64 * nextC (clook f).on + 63) [0] k) :
    clook g = ⟨nextC (clook f).on, (clook f).turn + 1, b⟩ := by
  obtain ⟨p1, p2, p3⟩ := put_sec hb hl h0 h1 hg
  have far : ∀ k, (k < 64 * nextC (clook f).on ∨ 64 * nextC (clook f).on + 64 ≤ k) → g k = f k := fun k hk => by
    have hpl := putL_length (clook f).turn b
    rw [hg]
    unfold laidF onesTo
    simp only [List.length_cons, List.length_nil]
    rw [if_neg (by omega), if_neg (by omega), if_neg (by omega)]
  rcases clook_cases f with ⟨e, w0, w1⟩ | ⟨e, w0, w1⟩ | ⟨e, w0, w1⟩
  · rw [e] at p1 p2 p3 far ⊢
    have hn : nextC (-1) = 0 := rfl
    simp only [hn, Nat.mul_zero] at p1 p2 p3 far ⊢
    have q1 : whl g 64 = false := by rw [whl_congr (f := f) (fun i _ => far _ (by omega))]; exact w1
    unfold clook
    rw [if_pos p1, if_neg (by rw [q1]; simp), p2, p3]; rfl
  · rw [e] at p1 p2 p3 far ⊢
    have hn : nextC 0 = 1 := rfl
    simp only [hn, Nat.mul_one] at p1 p2 p3 far ⊢
    have q0 : whl g 0 = true := by rw [whl_congr (f := f) (fun i _ => far _ (by omega))]; exact w0
    unfold clook
    rw [if_pos q0, if_pos ⟨p1, by rw [p2, far 0 (by omega)]⟩, p2, p3]; rfl
  · rw [e] at p1 p2 p3 far ⊢
    have hn : nextC 1 = 0 := rfl
    simp only [hn, Nat.mul_zero] at p1 p2 p3 far ⊢
    unfold clook
    rw [if_pos p1, if_neg (by rw [far 64 (by omega), p2]; omega), p2, p3]; rfl
theorem clook_turn {f : Nat → Int} (hu : ∀ i, 0 ≤ f i) : 0 ≤ (clook f).turn ∧ (clook f).turn ≤ 2147483648 := by
  rcases clook_cases f with ⟨e, w0, w1⟩ | ⟨e, w0, w1⟩ | ⟨e, w0, w1⟩
  · rw [e]; dsimp only; omega
  · rw [e]; have := whl_true w0; have := hu 0; dsimp only; omega
  · rw [e]; have := whl_true w0; have := hu 64; dsimp only; omega
theorem clook_on (f : Nat → Int) : (clook f).on = -1 ∨ (clook f).on = 0 ∨ (clook f).on = 1 := by
  rcases clook_cases f with ⟨e, w0, w1⟩ | ⟨e, w0, w1⟩ | ⟨e, w0, w1⟩ <;> rw [e] <;> simp
theorem clook_b {f : Nat → Int} (hu : ∀ i, 0 ≤ f i) : U8 (clook f).b ∧ (clook f).b.length ≤ 244 := by
  rcases clook_cases f with ⟨e, w0, w1⟩ | ⟨e, w0, w1⟩ | ⟨e, w0, w1⟩
  · rw [e]; exact ⟨U8.nil, by simp⟩
  · rw [e]; have := whl_true w0; exact ⟨secB_u8 _ _, by rw [secB_length]; omega⟩
  · rw [e]; have := whl_true w0; exact ⟨secB_u8 _ _, by rw [secB_length]; omega⟩
namespace DrvS
variable {d : DrvS} {s : NorS}
/-- on a flash that is up, and not armed, a put is OK -/
theorem calm_cputI (hC : Calm s) (hs : s.Ok) (hd : d.Ok s) {i : Nat} (hi : i < d.many) {l : List Int} (hl : l.length ≤ 63) (hu : U32 l) :
    (d.cputI s i l).2 = 0 ∧ Calm (d.cputI s i l).1 := by
  have ker := calm_er hC hs hd (k := i) hi
  have eok := er_ok hs hd ker.1
  have hs1 := er_Ok (d := d) hs (i : Int)
  have hd1 : d.Ok (d.er s i) := hd.n' eok.2.2.2.1
  have ones : ∀ j, j < 64 → (d.er s i).wd (d.base + 64 * i + j) = 4294967295 := fun j hj => by
    rw [Nat.add_assoc, base_wd, eok.2.2.2.2.2.2]
    unfold onesTo; rw [if_pos (by omega)]
  have key := calm_wr ker.2.1 hs1 hd1 (a := 64 * i) (l := l) (by omega) (fun j hj => by
    rw [ones j (by omega)]
    have := hu.get j
    exact wand_full this.1 this.2)
  have wok := wr_ok hs1 hd1 key.1
  have hs2 := wr_Ok (d := d) hs1 ((64 * i : Nat) : Int) l
  have hd2 : d.Ok (d.wr (d.er s i) ((64 * i : Nat) : Int) l) := hd1.n' wok.2.2.2.1
  have key2 := calm_wr key.2.1 hs2 hd2 (a := 64 * i + 63) (l := [0]) (by simp only [List.length_cons, List.length_nil]; omega) (fun j hj => by
    have : j = 0 := by simp only [List.length_cons, List.length_nil] at hj; omega
    subst this
    unfold wand; simp)
  unfold cputI
  rw [if_pos ker.1, if_pos key.1]
  exact ⟨key2.1, key2.2.1⟩
theorem calm_cput (hC : Calm s) (hs : s.Ok) (hd : d.Ok s) (hm : d.many = 2) {b : List Int} (hb : U8 b) (hl : b.length ≤ 244) (ht : (clook (d.fn s)).turn < 2147483648) :
    (d.cput s (clook (d.fn s)) b).2 = 0 ∧ Calm (d.cput s (clook (d.fn s)) b).1 ∧ (d.cput s (clook (d.fn s)) b).1.half = s.half ∧
    clook (d.fn (d.cput s (clook (d.fn s)) b).1) = ⟨nextC (clook (d.fn s)).on, (clook (d.fn s)).turn + 1, b⟩ ∧
    ∀ k, d.fn (d.cput s (clook (d.fn s)) b).1 k = laidF (laidF (onesTo (d.fn s) (64 * nextC (clook (d.fn s)).on) 64) (64 * nextC (clook (d.fn s)).on) (putL (clook (d.fn s)).turn b)) (64 * nextC (clook (d.fn s)).on + 63) [0] k := by
  have h0 := (clook_turn (f := d.fn s) (fun i => (fn_u32 hs i).1)).1
  have hpl := putL_length (clook (d.fn s)).turn b
  have key := calm_cputI hC hs hd (i := nextC (clook (d.fn s)).on) (by have := nextC_lt (clook (d.fn s)).on; omega) (l := putL (clook (d.fn s)).turn b) (by omega) (putL_u32 h0 ht hb hl)
  have ok := cputI_ok hs hd (by omega) key.1
  unfold cput
  rw [if_neg (by omega), if_neg (by omega)]
  exact ⟨key.1, key.2, ok.2.2.2.1, put_look hb hl h0 ht ok.2.2.2.2, ok.2.2.2.2⟩
end DrvS
end Go.Proofs.Ytiapoalkkhpmlaa

/-
  The cell: slices.Clone at bytes; what a sector has.
-/
namespace Go.Proofs.Ytiapoalkkhpmlaa
open Go.RowKit
section
variable {w : World} {v : Value} {xs : List Int}
def ClonePost (w : World) (xs : List Int) (e : Ending) (w' : World) : Prop := ∃ v', e = .returned v' ∧ By w' v' xs ∧ (∀ k, RowB v' k → w.heap.size ≤ k) ∧ Frm NoB w w'
set_option maxRecDepth 100000 in
theorem clone_is (hy : By w v xs) (hl : xs.length ≤ 16777216) :
    Calls Try.prog 45 #[v] w (ClonePost w xs) := by
  have HY := hide hy
  obtain ⟨A, c, rfl, hr, hz, hlc, hc, hu⟩ := hy
  have q := fun (w : World) (a : Option Addr) (n c n' c' : Nat) => Lib.run_eql_slice_nil (P := Try.prog) w 28 5 a n c n' c' Try.underlying28
  cases A with
  | none =>
    have h0 : xs.length = 0 := by have := hz rfl; omega
    have e0 : xs = [] := List.eq_nil_of_length_eq_zero h0
    subst e0
    clear hr hz hlc hc hu
    go_enter Try.func45, Try.ntmps45
    go_wp2
    go_ret
    exact ⟨_, rfl, By.nil _, fun k hk => by simp [RowB, Value.ownBlock] at hk, Frm.refl _ _⟩
  | some a =>
    clear hr hz hlc hc hu
    have hf : Frm NoB w (w.alloc (.cells #[] 5)) := (Frm.refl NoB w).alloc _
    have HF := hide hf
    have ho : Ob (w.alloc (.cells #[] 5)) w.heap.size (.slice (some ⟨w.heap.size, 0, none⟩) 0 0) [] := ⟨World.ownsRow_made w #[] 0 (Nat.le_refl _) (Nat.zero_le _) rfl, U8.nil⟩
    have HO := hide ho
    clear hf ho
    go_enter Try.func45, Try.ntmps45
    go_wp2_with (at_builtin; refine append_bytes rfl (.tmp 5) (.tmp 6) rfl w.heap.size _ _ [] xs rfl rfl HO.out (HY.out.frm0 HF.out) (by simpa using hl) (by simp) ?_; intro v' w' hg)
    go_ret
    refine ⟨v', rfl, hg.o.by_, fun k hk => (hg.o.lo hk).1, ?_⟩
    exact (HF.out).then_ hg.f (fun i hi e => by
      have e : some w.heap.size = some i := e
      injection e with e
      omega)
end
/-- a slice's part, its head and its last word left out -/
theorem cut_263 (b o cp : Nat) (h : 64 ≤ cp) (w : World) : (Instr.slice 34 (.slice (some ⟨b, o, none⟩) 64 cp) (some (.int .i64 2)) (some (.int .i64 63)) none).run Try.prog w = .ok (.slice (some ⟨b, o + 2, none⟩) 61 (cp - 2)) w := by
  have hu : Try.prog.underlying 34 = some (.slice (Try.prog.elem 34)) := by kernel_rfl
  have hs : ∀ w : World, (sizeOf (Try.prog.elem 34)).run Try.prog w = .ok 1 w := fun w => by kernel_rfl
  rw [run_slice_lh (ht := hu) (h0 := by omega) (h1 := by omega) (h2 := by omega), hs]
  simp only [Result.andThen, sliced]
  rw [if_neg (by show ¬ cp = 2; omega)]
  rfl
theorem cut_263' (b o cp : Nat) (h : 64 ≤ cp) (w : World) : (Instr.sliceAt 34 (.slice (some ⟨b, o, none⟩) 64 cp) (some (.int .i64 2)) (some (.int .i64 63)) none).run Try.prog w = .ok (.slice (some ⟨b, o + 2, none⟩) 61 (cp - 2)) w := by
  have hu : Try.prog.underlying 34 = some (.slice (Try.prog.elem 34)) := by kernel_rfl
  rw [run_sliceAt_slice (h := hu)]; exact cut_263 b o cp h w
theorem By.form {w : World} {v : Value} {xs : List Int} (h : By w v xs) : ∃ A n c, v = .slice A n c := by obtain ⟨A, c, rfl, -⟩ := h; exact ⟨A, _, c, rfl⟩
theorem Grew.low {w W w' : World} {sv v' : Value} {xs : List Int} (hf : Frm NoB w W) (h : Grew W W.heap.size sv v' xs w') : Grew W w.heap.size sv v' xs w' := ⟨h.o.lower hf.size, h.f, h.k, h.p⟩
section
variable {w : World}
/-- what 'whole' tells of 64 words -/
def WhlPost (w : World) (f : Nat → Int) (o : Nat) (e : Ending) (w' : World) : Prop :=
  if whl f o = true then ∃ v, e = .returned (.tuple #[.int .i64 (f o), v, .bool true]) ∧ Grew w w.heap.size (.slice none 0 0) v (secB f o) w'
  else e = .returned (.tuple #[.int .i64 0, .slice none 0 0, .bool false]) ∧ w = w'
theorem whl_yes {f : Nat → Int} {o : Nat} {w w' : World} {v : Value} (h : whl f o = true) (hg : Grew w w.heap.size (.slice none 0 0) v (secB f o) w') : WhlPost w f o (.returned (.tuple #[.int .i64 (f o), v, .bool true])) w' := by
  unfold WhlPost; rw [if_pos h]; exact ⟨v, rfl, hg⟩
theorem whl_no {f : Nat → Int} {o : Nat} {w : World} (h : ¬ (f (o + 63) = 0 ∧ f o ≤ 2147483648 ∧ f (o + 1) ≤ 244)) : WhlPost w f o (.returned (.tuple #[.int .i64 0, .slice none 0 0, .bool false])) w := by
  unfold WhlPost; rw [if_neg (by unfold whl; rw [decide_eq_false h]; simp)]; exact ⟨rfl, rfl⟩
set_option maxRecDepth 100000 in
set_option maxHeartbeats 1000000 in
theorem whole_is (b o cp : Nat) (l : List Int) (f : Nat → Int) (q : Nat) (hl : l.length = 64) (hf : ∀ i, i < 64 → l.getD i 0 = f (q + i)) (hu : U32 l) (hr : Rd w (some ⟨b, o, none⟩) (ints .u32 l)) (hcp : 64 ≤ cp) :
    Calls Try.prog 52 #[.slice (some ⟨b, o, none⟩) 64 cp] w (WhlPost w f q) := by
  obtain ⟨b', o', e0, hc⟩ := hr (by intro e; have := congrArg List.length e; rw [ints_length, hl] at this; simp at this)
  injection e0 with e0
  injection e0 with e1 e2
  subst e1 e2
  have get : ∀ i, i < 64 → w.cell? ⟨b, o + i, none⟩ = some (.int .u32 (f (q + i))) := fun i hi => by
    rw [hc i _ (ints_get (by omega)), hf i hi]
  have g0 := get 0 (by omega); have g1 := get 1 (by omega); have g63 := get 63 (by omega)
  rw [Nat.add_zero] at g0
  have u0 := hu.get 0; have u1 := hu.get 1; have u63 := hu.get 63
  rw [hf 0 (by omega), Nat.add_zero] at u0
  rw [hf 1 (by omega)] at u1
  rw [hf 63 (by omega)] at u63
  rw [Nat.add_zero] at g0
  by_cases h63 : f (q + 63) = 0
  · by_cases h0 : f q ≤ 2147483648
    · by_cases h1 : f (q + 1) ≤ 244
      · have hw : whl f q = true := decide_eq_true ⟨h63, h0, h1⟩
        have HL := hide hl
        have HG := hide (fun i (hi : i < 64) => hf i hi)
        have KB : Hid (∀ W, Frm NoB w W → Calls Try.prog 78 #[.slice (some ⟨b, o + 2, none⟩) 61 (cp - 2), .int .i64 (f (q + 1))] W fun e w' => ∃ v, e = .returned (.tuple #[v, .int .i64 0]) ∧ Grew w w.heap.size (.slice none 0 0) v (secB f q) w') := fun W hW => by
          have hll : ((l.drop 2).take 61).length = 61 := by rw [List.length_take, List.length_drop, hl]; rfl
          have hb := bytes_is (w := W) (some ⟨b, o + 2, none⟩) (cp - 2) ((l.drop 2).take 61) (fun _ => ⟨b, o + 2, rfl, fun i v hv => by
            have hi : i < 61 := by have := (List.getElem?_eq_some_iff.1 hv).1; rw [ints_length, hll] at this; exact this
            rw [Nat.add_assoc]
            have hcv : w.cell? ⟨b, o + (2 + i), none⟩ = some v := hc (2 + i) v ?_
            · exact (hW.cell (World.block_lt_of_cell? w _ hcv) (fun e => e)).trans hcv
            rw [← hv]
            unfold ints
            rw [List.map_take, List.map_drop, List.getElem?_take_of_lt hi, List.getElem?_drop]⟩) ((hu.drop 2).take 61) (by omega) (f (q + 1)) (by omega)
          rw [hll] at hb
          refine hb.mono ?_
          rintro e w' ⟨v, rfl, hg⟩
          have hE : byE ((l.drop 2).take 61) (f (q + 1)) = 0 := by unfold byE; rw [if_neg (by omega), if_neg (by omega)]
          rw [hE, if_pos rfl] at hg
          refine ⟨v, by rw [hE], ?_⟩
          have e3 : bytesN ((l.drop 2).take 61) (f (q + 1)).toNat = secB f q := by
            unfold bytesN secB
            apply List.map_congr_left
            intro i hi
            have hi := List.mem_range.1 hi
            congr 1
            rw [Nat.add_assoc, ← hf (2 + i / 4) (by omega), List.getD_eq_getElem?_getD, List.getD_eq_getElem?_getD, List.getElem?_take_of_lt (by omega), List.getElem?_drop]
          rw [e3] at hg
          exact Grew.pre hW (Grew.low hW hg)
        have t1 : (f (q + 63) != 0) = false := by simpa using h63
        have t2 : decide (2147483648 < f q) = false := decide_eq_false (by omega)
        have t3 : decide (244 < f (q + 1)) = false := decide_eq_false (by omega)
        have sl := cut_263 b o cp hcp
        have sl2 := cut_263' b o cp hcp
        have HW := hide hw
        have hbl : b < w.heap.size := World.block_lt_of_cell? w _ g0
        have wx : IntKind.i64.wrap (f (q + 1)) = f (q + 1) := IntWalk.i64_in _ (by omega)
        have wx0 : IntKind.i64.wrap (f q) = f q := IntWalk.i64_in _ (by omega)
        have v2 : IntKind.i64.wrap 2 = 2 := by decide
        have v63 : IntKind.i64.wrap 63 = 63 := by decide
        clear hr hc get hu hl hf h63 hw
        generalize f (q + 1) = x1 at *
        generalize f (q + 63) = x63 at *
        generalize hx0 : f q = x0 at *
        have HX := hide hx0
        clear hx0
        go_enter Try.func52, Try.ntmps52
        go_wp2_with fail
        go_region_held3 (fun w' => w'.cell? ⟨b, o + 1, none⟩ = some (.int .u32 x1)) (go_keep)
          (first
            | (go_at_call 78; ((with_reducible refine (KB.out _ ((Frm.refl NoB _).drew)).mono ?_); rintro e w3 ⟨v, rfl, hg⟩; have c1 := (hg.new.cell (p := ⟨b, o + 1, none⟩) hbl (fun e => e)).trans g1; have c0 := (hg.new.cell (p := ⟨b, o, none⟩) hbl (fun e => e)).trans g0)))
        have HGr := hide hg
        clear hg
        go_wp2
        go_ret3
        have key := whl_yes HW.out HGr.out
        rw [HX.out] at key
        exact key
      · have H := hide (whl_no (f := f) (o := q) (w := w) (fun h => h1 h.2.2))
        have t1 : (f (q + 63) != 0) = false := by simpa using h63
        have t2 : decide (2147483648 < f q) = false := decide_eq_false (by omega)
        have t3 : decide (244 < f (q + 1)) = true := decide_eq_true (by omega)
        clear hr hc get hu hl hf h63 h0 h1
        generalize f (q + 1) = x1 at *
        generalize f (q + 63) = x63 at *
        generalize f q = x0 at *
        go_enter Try.func52, Try.ntmps52
        go_wp2
        go_ret3
        exact H.out
    · have H := hide (whl_no (f := f) (o := q) (w := w) (fun h => h0 h.2.1))
      have t1 : (f (q + 63) != 0) = false := by simpa using h63
      have t2 : decide (2147483648 < f q) = true := decide_eq_true (by omega)
      clear hr hc get hu hl hf h63 h0
      generalize f (q + 1) = x1 at *
      generalize f (q + 63) = x63 at *
      generalize f q = x0 at *
      go_enter Try.func52, Try.ntmps52
      go_wp2
      go_ret3
      exact H.out
  · have H := hide (whl_no (f := f) (o := q) (w := w) (fun h => h63 h.1))
    have t1 : (f (q + 63) != 0) = true := by simpa using h63
    clear hr hc get hu hl hf h63
    generalize f (q + 1) = x1 at *
    generalize f (q + 63) = x63 at *
    generalize f q = x0 at *
    go_enter Try.func52, Try.ntmps52
    go_wp2
    go_ret3
    exact H.out
end
end Go.Proofs.Ytiapoalkkhpmlaa

/-
  128 words, cut in two.
-/
namespace Go.Proofs.Ytiapoalkkhpmlaa
open Go.RowKit
theorem u32s_under : Try.prog.underlying 34 = some (.slice (Try.prog.elem 34)) := by kernel_rfl
theorem u32s_size : ∀ w : World, (sizeOf (Try.prog.elem 34)).run Try.prog w = .ok 1 w := fun w => by kernel_rfl
theorem cut_0 (b o cp : Nat) (h : 128 ≤ cp) (w : World) : (Instr.sliceAt 34 (.slice (some ⟨b, o, none⟩) 128 cp) (some (.int .i64 0)) (some (.int .i64 64)) none).run Try.prog w = .ok (.slice (some ⟨b, o, none⟩) 64 cp) w := by
  rw [run_sliceAt_slice (h := u32s_under), run_slice_lh (ht := u32s_under) (h0 := by omega) (h1 := by omega) (h2 := by omega), u32s_size]
  simp only [Result.andThen, sliced]
  rw [if_neg (by show ¬ cp = 0; omega)]
  rfl
theorem cut_1 (b o cp : Nat) (h : 128 ≤ cp) (w : World) : (Instr.sliceAt 34 (.slice (some ⟨b, o, none⟩) 128 cp) (some (.int .i64 64)) (some (.int .i64 128)) none).run Try.prog w = .ok (.slice (some ⟨b, o + 64, none⟩) 64 (cp - 64)) w := by
  rw [run_sliceAt_slice (h := u32s_under), run_slice_lh (ht := u32s_under) (h0 := by omega) (h1 := by omega) (h2 := by omega), u32s_size]
  simp only [Result.andThen, sliced]
  rw [if_neg (by show ¬ cp = 64; omega)]
  rfl
theorem cut_0' (b o cp : Nat) (h : 128 ≤ cp) (w : World) : (Instr.slice 34 (.slice (some ⟨b, o, none⟩) 128 cp) (some (.int .i64 0)) (some (.int .i64 64)) none).run Try.prog w = .ok (.slice (some ⟨b, o, none⟩) 64 cp) w := by
  rw [← run_sliceAt_slice (h := u32s_under)]; exact cut_0 b o cp h w
theorem cut_1' (b o cp : Nat) (h : 128 ≤ cp) (w : World) : (Instr.slice 34 (.slice (some ⟨b, o, none⟩) 128 cp) (some (.int .i64 64)) (some (.int .i64 128)) none).run Try.prog w = .ok (.slice (some ⟨b, o + 64, none⟩) 64 (cp - 64)) w := by
  rw [← run_sliceAt_slice (h := u32s_under)]; exact cut_1 b o cp h w
end Go.Proofs.Ytiapoalkkhpmlaa

/-
  Program, Rewrite at an argument.
-/
namespace Go.Proofs.Ytiapoalkkhpmlaa
open Go.RowKit
section
variable {w : World} {p q c : Nat} {s : NorS}
theorem program_at (sec k : Int) (A : Option Addr) (cp n : Nat) (xs : List Int) (hn : xs.length = n) (h : NorAt w p q c s) (hx : Rd w A (ints .u32 xs)) (hA : xs ≠ [] → ∀ a, A = some a → ¬ Two p q a.block) (ux : U32 xs) (hm : (xs.length : Int) ≤ 9223372036854775807) :
    Calls Try.prog 74 #[.pointer (some ⟨p, 0, none⟩), .int .i64 sec, .int .i64 k, .slice A n cp] w fun e w' => e = .returned (.int .i64 (s.programE sec k xs)) ∧ NorAt w' p q c (s.program sec k xs) ∧ Frm (Two p q) w w' := by
  subst hn; exact program_is sec k A cp xs h hx hA ux hm
theorem rewrite_at (sec k : Int) (A : Option Addr) (cp n : Nat) (xs : List Int) (hn : xs.length = n) (h : NorAt w p q c s) (hx : Rd w A (ints .u32 xs)) (ux : U32 xs) (hm : (xs.length : Int) ≤ 9223372036854775807) :
    Calls Try.prog 21 #[.pointer (some ⟨p, 0, none⟩), .int .i64 sec, .int .i64 k, .slice A n cp] w fun e w' => e = .returned (.int .i64 (s.rewriteE sec k xs)) ∧ NorAt w' p q c (s.rewrite sec k xs) ∧ Frm (Two p q) w w' := by
  subst hn; exact rewrite_is sec k A cp xs h hx ux hm
end
end Go.Proofs.Ytiapoalkkhpmlaa

/-
  The drive: how it lies in memory; Open, Part, Sectors, Size, there, Erase.
-/
namespace Go.Proofs.Ytiapoalkkhpmlaa
open Go.RowKit

/-- A drive in memory: block g. -/
def drvCells (p : Nat) (d : DrvS) : Array Value := #[.pointer (some ⟨p, 0, none⟩), .int .i64 d.first, .int .i64 d.many]
structure DrvAt (w : World) (g p : Nat) (d : DrvS) : Prop where
  b : Blk w g 92 (drvCells p d)
namespace DrvAt
variable {w w' : World} {g p : Nat} {d : DrvS}
theorem c0 (h : DrvAt w g p d) : w.cell? ⟨g, 0, none⟩ = some (.pointer (some ⟨p, 0, none⟩)) := h.b.cell 0
theorem c1 (h : DrvAt w g p d) : w.cell? ⟨g, 1, none⟩ = some (.int .i64 d.first) := h.b.cell 1
theorem c2 (h : DrvAt w g p d) : w.cell? ⟨g, 2, none⟩ = some (.int .i64 d.many) := h.b.cell 2
theorem frm {S : Nat → Prop} (h : DrvAt w g p d) (hf : Frm S w w') (hs : ¬ S g) : DrvAt w' g p d := ⟨h.b.frm hf hs⟩
theorem lt (h : DrvAt w g p d) : g < w.heap.size := h.b.lt
theorem ne {p' q c : Nat} {s : NorS} (h : DrvAt w g p d) (hn : NorAt w p' q c s) : g ≠ p' ∧ g ≠ q := by
  refine ⟨?_, ?_⟩
  · rintro rfl
    exact absurd (h.b.inj hn.blk).2 (by decide)
  · rintro rfl
    obtain ⟨cs, hb⟩ := hn.blkq
    exact absurd (h.b.inj hb).2 (by decide)
theorem two {p' q c : Nat} {s : NorS} (h : DrvAt w g p d) (hn : NorAt w p' q c s) : ¬ Two p' q g := fun e => by
  have := h.ne hn
  rcases e with e | e
  · exact this.1 e
  · exact this.2 e
end DrvAt
/-- No drive: nil, or one that Open did not make. -/
def NoDrv (w : World) (v : Value) : Prop := v = .pointer none ∨ ∃ g, v = .pointer (some ⟨g, 0, none⟩) ∧ w.cell? ⟨g, 0, none⟩ = some (.pointer none)

theorem dnone_no (v : Value) (w : World) (h : NoDrv w v) : Calls Try.prog 70 #[v] w fun e w' => e = .returned (.bool true) ∧ w = w' := by
  rcases h with rfl | ⟨g, rfl, hc⟩
  all_goals
    go_enter Try.func70, Try.ntmps70
    go_wp2
    go_ret
    exact ⟨rfl, rfl⟩
/-- are there so many from a place on, of some? -/
def withinB (a m k : Int) : Bool := decide (0 ≤ a ∧ 0 ≤ m ∧ a ≤ k ∧ m ≤ k - a)
theorem within_true {a m k : Int} (h : 0 ≤ a ∧ 0 ≤ m ∧ a ≤ k ∧ m ≤ k - a) : withinB a m k = true := decide_eq_true h
theorem within_false {a m k : Int} (h : ¬ (0 ≤ a ∧ 0 ≤ m ∧ a ≤ k ∧ m ≤ k - a)) : withinB a m k = false := decide_eq_false h
theorem within_is (a m k : Int) (w : World) (hk : 0 ≤ k) (hk2 : k ≤ 9223372036854775807) :
    Calls Try.prog 58 #[.int .i64 a, .int .i64 m, .int .i64 k] w fun e w' => e = .returned (.bool (withinB a m k)) ∧ w = w' := by
  have H : Hid (∀ b : Bool, (b = true ↔ (0 ≤ a ∧ 0 ≤ m ∧ a ≤ k ∧ m ≤ k - a)) → b = withinB a m k) := fun b hb => by rw [Bool.eq_iff_iff, hb]; simp [withinB]
  go_enter Try.func58, Try.ntmps58
  go_wp2
  all_goals
    go_ret
    refine ⟨ret_bool (H.out _ ?_), rfl⟩
    simp
    try omega
section
variable {w : World} {g p q c : Nat} {s : NorS} {d : DrvS}
theorem dnone_is (h : DrvAt w g p d) : Calls Try.prog 70 #[.pointer (some ⟨g, 0, none⟩)] w fun e w' => e = .returned (.bool false) ∧ w = w' := by
  have h0 := h.c0
  clear h
  go_enter Try.func70, Try.ntmps70
  go_wp2
  go_ret
  exact ⟨rfl, rfl⟩
theorem dsectors_is (h : DrvAt w g p d) : Calls Try.prog 50 #[.pointer (some ⟨g, 0, none⟩)] w fun e w' => e = .returned (.int .i64 d.many) ∧ w = w' := by
  have h2 := h.c2
  have H := hide h
  clear h
  go_enter Try.func50, Try.ntmps50
  go_wp2_with (go_at_call 70; refine (dnone_is H.out).mono ?_; rintro e w' ⟨rfl, rfl⟩)
  go_ret
  exact ⟨rfl, rfl⟩
theorem dsize_is (h : DrvAt w g p d) (hd : d.many ≤ 1024) : Calls Try.prog 51 #[.pointer (some ⟨g, 0, none⟩)] w fun e w' => e = .returned (.int .i64 ((d.many : Int) * 64)) ∧ w = w' := by
  have H := hide h
  clear h
  go_enter Try.func51, Try.ntmps51
  go_wp2_with (go_at_call 50; refine (dsectors_is H.out).mono ?_; rintro e w' ⟨rfl, rfl⟩)
  go_ret
  exact ⟨rfl, rfl⟩
/-- what 'there' tells -/
def DrvS.thereE (d : DrvS) (a m : Int) : Int := if 0 ≤ a ∧ 0 ≤ m ∧ a ≤ d.many * 64 ∧ m ≤ d.many * 64 - a then 0 else 2
theorem dthere_is (a m : Int) (h : DrvAt w g p d) (hd : d.many ≤ 1024) : Calls Try.prog 46 #[.pointer (some ⟨g, 0, none⟩), .int .i64 a, .int .i64 m] w fun e w' => e = .returned (.int .i64 (d.thereE a m)) ∧ w = w' := by
  have H := hide h
  clear h
  by_cases ht : 0 ≤ a ∧ 0 ≤ m ∧ a ≤ d.many * 64 ∧ m ≤ d.many * 64 - a
  · have E : Hid (d.thereE a m = 0) := by show _ = _; unfold DrvS.thereE; rw [if_pos ht]
    have e0 : withinB a m ((d.many : Int) * 64) = true := within_true ht
    have E0 := hide e0
    clear ht e0
    go_enter Try.func46, Try.ntmps46
    go_wp2_with (first
      | (go_at_call 70; refine (dnone_is H.out).mono ?_; rintro e w' ⟨rfl, rfl⟩)
      | (go_at_call 51; refine (dsize_is H.out hd).mono ?_; rintro e w' ⟨rfl, rfl⟩)
      | (go_at_call 58; refine (within_is _ _ _ _ (by omega) (by omega)).mono ?_; rw [E0.out]; rintro e w' ⟨rfl, rfl⟩))
    go_ret
    exact ⟨ret_int E.out.symm, rfl⟩
  · have E : Hid (d.thereE a m = 2) := by show _ = _; unfold DrvS.thereE; rw [if_neg ht]
    have e0 : withinB a m ((d.many : Int) * 64) = false := within_false ht
    have E0 := hide e0
    clear ht e0
    go_enter Try.func46, Try.ntmps46
    go_wp2_with (first
      | (go_at_call 70; refine (dnone_is H.out).mono ?_; rintro e w' ⟨rfl, rfl⟩)
      | (go_at_call 51; refine (dsize_is H.out hd).mono ?_; rintro e w' ⟨rfl, rfl⟩)
      | (go_at_call 58; refine (within_is _ _ _ _ (by omega) (by omega)).mono ?_; rw [E0.out]; rintro e w' ⟨rfl, rfl⟩))
    go_ret
    exact ⟨ret_int E.out.symm, rfl⟩
theorem dthere_no (a m : Int) (v : Value) (h : NoDrv w v) : Calls Try.prog 46 #[v, .int .i64 a, .int .i64 m] w fun e w' => e = .returned (.int .i64 1) ∧ w = w' := by
  have H := hide h
  clear h
  go_enter Try.func46, Try.ntmps46
  go_wp2_with (go_at_call 70; refine (dnone_no _ _ H.out).mono ?_; rintro e w' ⟨rfl, rfl⟩)
  go_ret
  exact ⟨rfl, rfl⟩
theorem dsectors_no (v : Value) (h : NoDrv w v) : Calls Try.prog 50 #[v] w fun e w' => e = .returned (.int .i64 0) ∧ w = w' := by
  have H := hide h
  clear h
  go_enter Try.func50, Try.ntmps50
  go_wp2_with (go_at_call 70; refine (dnone_no _ _ H.out).mono ?_; rintro e w' ⟨rfl, rfl⟩)
  go_ret
  exact ⟨rfl, rfl⟩
theorem dsize_no (v : Value) (h : NoDrv w v) : Calls Try.prog 51 #[v] w fun e w' => e = .returned (.int .i64 0) ∧ w = w' := by
  have H := hide h
  clear h
  go_enter Try.func51, Try.ntmps51
  go_wp2_with (go_at_call 50; refine (dsectors_no _ H.out).mono ?_; rintro e w' ⟨rfl, rfl⟩)
  go_ret
  exact ⟨rfl, rfl⟩
/-- Open of sectors that there are -/
theorem dopen_is (a m : Nat) (h : NorAt w p q c s) (hm : 1 ≤ m) (ham : a + m ≤ s.n) :
    Calls Try.prog 23 #[.pointer (some ⟨p, 0, none⟩), .int .i64 a, .int .i64 m] w fun e w' => e = .returned (.tuple #[.pointer (some ⟨w.heap.size, 0, none⟩), .int .i64 0]) ∧ w' = w.alloc (.cells (drvCells p ⟨a, m⟩) 92) := by
  have hn := h.ok.n2
  have hn1 := h.n0
  have H := hide h
  clear h
  have e0 : withinB a m s.n = true := within_true (by omega)
  have E0 := hide e0
  have m1 : decide ((m : Int) < 1) = false := by simp; omega
  clear e0
  go_enter Try.func23, Try.ntmps23
  go_wp2_with (first
    | (go_at_call 57; refine (sectors_is H.out).mono ?_; rintro e w' ⟨rfl, rfl⟩)
    | (go_at_call 58; refine (within_is _ _ _ _ (by omega) (by omega)).mono ?_; rw [E0.out]; rintro e w' ⟨rfl, rfl⟩))
  go_ret2
  exact ⟨rfl, rfl⟩
theorem dopen_bad (a m : Int) (h : NorAt w p q c s) (hb : ¬ (1 ≤ m ∧ 0 ≤ a ∧ a ≤ s.n ∧ m ≤ s.n - a)) :
    Calls Try.prog 23 #[.pointer (some ⟨p, 0, none⟩), .int .i64 a, .int .i64 m] w fun e w' => e = .returned (.tuple #[.pointer none, .int .i64 2]) ∧ w = w' := by
  have hn := h.ok.n2
  have hn1 := h.n0
  have H := hide h
  have HB := hide hb
  clear h hb
  by_cases hm : m < 1
  · go_enter Try.func23, Try.ntmps23
    go_wp2_with (first
      | (go_at_call 57; refine (sectors_is H.out).mono ?_; rintro e w' ⟨rfl, rfl⟩))
    go_ret2
    exact ⟨rfl, rfl⟩
  · have e0 : withinB a m s.n = false := within_false (by have := HB.out; omega)
    have E0 := hide e0
    clear e0
    go_enter Try.func23, Try.ntmps23
    go_wp2_with (first
      | (go_at_call 57; refine (sectors_is H.out).mono ?_; rintro e w' ⟨rfl, rfl⟩)
      | (go_at_call 58; refine (within_is _ _ _ _ (by omega) (by omega)).mono ?_; rw [E0.out]; rintro e w' ⟨rfl, rfl⟩))
    go_ret2
    exact ⟨rfl, rfl⟩
theorem dopen_no (a m : Int) (v : Value) (h : NoNor w v) :
    Calls Try.prog 23 #[v, .int .i64 a, .int .i64 m] w fun e w' => e = .returned (.tuple #[.pointer none, .int .i64 1]) ∧ w = w' := by
  have H := hide h
  clear h
  go_enter Try.func23, Try.ntmps23
  go_wp2_with (first
    | (go_at_call 57; refine (sectors_no _ H.out).mono ?_; rintro e w' ⟨rfl, rfl⟩))
  go_ret2
  exact ⟨rfl, rfl⟩
end
end Go.Proofs.Ytiapoalkkhpmlaa
