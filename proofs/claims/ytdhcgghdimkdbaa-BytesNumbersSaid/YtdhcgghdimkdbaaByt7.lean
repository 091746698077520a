/-
  bytes: Words.
-/
import Derived.Test.YtdhcgghdimkdbaaByt6
import Derived.Test.YtdhcgghdimkdbaaChunk
import Derived.Test.YtdhcgghdimkdbaaMarks
import Derived.Test.YtdhcgghdimkdbaaRoundHeld
import Derived.Shelf.RegionOpen
namespace Go.Proofs.Ytdhcgghdimkdbaa
open Go.RowKit
attribute [local go_sem] Oper.semAt_some
/-- bytes, up to whole words -/
def padN (b : List Int) : Nat := (4 - b.length % 4) % 4
def padded (b : List Int) : List Int := b ++ List.replicate (padN b) 255
def wordsOf (b : List Int) : List Int := (List.range ((b.length + 3) / 4)).map fun k => wv ((padded b).drop (4 * k))
theorem padded_length (b : List Int) : (padded b).length = 4 * ((b.length + 3) / 4) := by
  unfold padded padN; rw [List.length_append, List.length_replicate]; omega
theorem padded_u8 {b : List Int} (h : U8 b) : U8 (padded b) := h.append (fun x hx => by rw [(List.mem_replicate.1 hx).2]; omega)
theorem wordsOf_length (b : List Int) : (wordsOf b).length = (b.length + 3) / 4 := by simp [wordsOf]
theorem wordsOf_get {b : List Int} {k : Nat} (h : k < (b.length + 3) / 4) : (wordsOf b).getD k 0 = wv ((padded b).drop (4 * k)) := by
  unfold wordsOf
  rw [List.getD_eq_getElem?_getD, List.getElem?_map, List.getElem?_range h]; rfl
theorem wordsOf_u32 {b : List Int} (h : U8 b) : U32 (wordsOf b) := fun x hx => by
  obtain ⟨k, _, rfl⟩ := List.mem_map.1 hx
  have hu := (padded_u8 h).drop (4 * k)
  have h0 := hu.get 0; have h1 := hu.get 1; have h2 := hu.get 2; have h3 := hu.get 3
  unfold wv
  omega
section
variable {w : World}
def PadRel (w : World) (b : List Int) (v : Value) (wr : World) : Prop := ∃ j : Nat, j ≤ padN b ∧ Grew w w.heap.size (.slice none 0 0) v (b ++ List.replicate j 255) wr
theorem three_boxes {w W : World} {c0 c1 c2 : Array Value} {t0 t1 t2 : TypeId} (hW : ((w.alloc (.cells c0 t0)).alloc (.cells c1 t1)).alloc (.cells c2 t2) = W) :
    W.heap.size = w.heap.size + 3 ∧ Frm NoB w W ∧ Blk W w.heap.size t0 c0 ∧ Blk W (w.heap.size + 1) t1 c1 ∧ Blk W (w.heap.size + 2) t2 c2 := by
  subst hW
  have n1 := Blk.new (w.alloc (.cells c0 t0)) t1 c1
  have n2 := Blk.new ((w.alloc (.cells c0 t0)).alloc (.cells c1 t1)) t2 c2
  simp only [World.size_alloc] at n1 n2
  exact ⟨by simp only [World.size_alloc], ((Frm.refl NoB w).alloc _).alloc _ |>.alloc _, (((Blk.new w t0 c0).alloc _).alloc _), n1.alloc _, n2⟩
theorem chunk_is (A : Option Addr) (n c : Nat) : Calls Try.prog 36 #[.slice A n c, .int .i64 4] w fun e w' => e = .returned (.func (.func 47) #[] #[.pointer (some ⟨w.heap.size, 0, none⟩), .pointer (some ⟨w.heap.size + 1, 0, none⟩)]) ∧ w' = (w.alloc (.cells #[.slice A n c] 23)).alloc (.cells #[.int .i64 4] 3) := by
  go_enter Try.func36, Try.ntmps36
  go_wp2
  go_ret
  exact ⟨rfl, rfl⟩
/-- between two rounds: k words have come -/
structure WdInv (w : World) (H : Nat) (b : List Int) (v : Value) (k : Nat) (W : World) : Prop where
  r : By W v (padded b)
  out : ∃ u, Blk W H 30 #[u] ∧ W.ownsRow (H + 5) 27 1 u k (ints .u32 ((wordsOf b).take k))
  f : Frm NoB w W
/-- the blocks of the iterator, and of the loop -/
def WdB (H : Nat) : Nat → Prop := fun k => H + 1 ≤ k ∧ k < H + 5
theorem WdInv.frm {w W W' : World} {H : Nat} {b : List Int} {v : Value} {k : Nat} (h : WdInv w H b v k W) (hw : w.heap.size ≤ H) (hv : ∀ k, RowB v k → k < H) (hf : Frm (WdB H) W W') : WdInv w H b v k W' := by
  obtain ⟨u, hb, ho⟩ := h.out
  exact ⟨h.r.frm hf (fun k hk e => by have := hv k hk; have := e.1; omega), ⟨u, hb.frm hf (fun e => by have := e.1; omega), own_frm ho hf (fun b e h2 => by have := (ho.lt b e).1; have := h2.2; omega)⟩, h.f.then_ hf (fun i hi e => by have := e.1; omega)⟩
theorem own_boxG {W w2 : World} {B base : Nat} {t e : TypeId} {cs : Array Value} {X : Obj} {n : Nat} {v : Value} {xs : List Value} (hB : B < base) (hv : Blk W B t cs) (ho : W.ownsRow base e 1 v n xs) (hgr : (W.alloc X).grownBy w2 v.ownBlock) : Blk w2 B t cs :=
  (hgr.block _ ((hv.alloc X).lt) (fun e => by have := (ho.lt B e.symm).1; omega)).trans (hv.alloc X)
/-- what a round has written -/
theorem WdInv.round {w W W' w5 : World} {H g2 cap : Nat} {b : List Int} {v u : Value} {k : Nat} {y : Int} (h : WdInv w H b v k W') (ho : W'.ownsRow (H + 5) 27 1 u k (ints .u32 ((wordsOf b).take k)))
    (hown : w5.ownsRow (H + 5) 27 1 (.slice (some ⟨g2, 0, none⟩) (k + 1) cap) (k + 1) (ints .u32 ((wordsOf b).take k) ++ [.int .u32 y])) (hb5 : Blk w5 H 30 #[u]) (hF5 : Frm (fun x => RowB u x ∨ x = H) W' w5)
    (hsz : W.heap.size = H + 3) (hw : w.heap.size ≤ H) (hv : ∀ k, RowB v k → k < H) (hk : k < (wordsOf b).length) (hy : (wordsOf b).getD k 0 = y) :
    Keep (fun k => (NoB k ∨ Two (H + 1) (H + 2) k) ∨ LoopB W.heap.size k) W' (w5.setCell ⟨H, 0, none⟩ (.slice (some ⟨g2, 0, none⟩) (k + 1) cap)) ∧ WdInv w H b v (List.range k ++ [k]).length (w5.setCell ⟨H, 0, none⟩ (.slice (some ⟨g2, 0, none⟩) (k + 1) cap)) := by
  have hF6 : Frm (fun x => RowB u x ∨ x = H) W' (w5.setCell ⟨H, 0, none⟩ (.slice (some ⟨g2, 0, none⟩) (k + 1) cap)) := hF5.setCell (p := ⟨H, 0, none⟩) (.inl (.inr rfl)) _
  have hu : ∀ x, RowB u x → H + 5 ≤ x := fun x hx => (ho.lt x hx).1
  refine ⟨Keep.of_frm hF6 (fun i hi e => ?_), ?_⟩
  · rcases e with e | e
    · have := hu i e
      rcases hi with (hi | (hi | hi)) | (hi | hi)
      · cases hi
      all_goals omega
    · rcases hi with (hi | (hi | hi)) | (hi | hi)
      · cases hi
      all_goals omega
  · have e : (List.range k ++ [k]).length = k + 1 := by simp
    rw [e]
    refine ⟨h.r.frm hF6 (fun j hj e => ?_), ⟨_, hb5.set_ 0 _, ?_⟩, h.f.then_ hF6 (fun i hi e => ?_)⟩
    · have := hv j hj
      rcases e with e | e
      · have := hu j e; omega
      · omega
    · have e2 : ints .u32 ((wordsOf b).take (k + 1)) = ints .u32 ((wordsOf b).take k) ++ [.int .u32 y] := by
        rw [← take_next hk, ints_append, hy]; rfl
      rw [e2]
      exact own_frm hown ((Frm.refl (One H) w5).set1 0 _) (fun j hj e => by have := (hown.lt j hj).1; have e : j = H := e; omega)
    · rcases e with e | e
      · have := hu i e; omega
      · omega
def wdAct (A A1 : Option Addr) (c c1 L m H : Nat) (g o k : Nat) (v1 u9 u10 u11 u12 u13 u14 : Value) : Act := { tmps := #[.slice A L c, undef, .slice none 0 0, .slice A1 (4 * m) c1, .pointer (some ⟨H, 0, none⟩), .slice (some ⟨g, o + 4 * k, none⟩) 4 4, .slice A L c, v1, .slice A1 (4 * m) c1, u9, u10, u11, u12, u13, u14, .slice A1 (4 * m) c1,
  .func (.func 47) #[] #[.pointer (some ⟨H + 1, 0, none⟩), .pointer (some ⟨H + 2, 0, none⟩)], .slice (some ⟨g, o + 4 * k, none⟩) 4 4, undef, undef, undef, undef, undef, undef], defers := [] }
def lenV : Value → Nat
  | .slice _ n _ => n
  | _ => 0
theorem words_is {vx : Value} {b : List Int} (hy : By w vx b) (hl : b.length ≤ 16777000) :
    Calls Try.prog 13 #[vx] w fun e w' => ∃ A c, e = .returned (.slice A (wordsOf b).length c) ∧ Rd w' A (ints .u32 (wordsOf b)) ∧ (∀ a, A = some a → w.heap.size ≤ a.block) ∧ Frm NoB w w' := by
  have HY := hide hy
  have hY_u := hy.u
  obtain ⟨A, c, rfl, -⟩ := hy
  refine calls_marks Try.func13 rfl ?_
  simp only [Try.ntmps13, List.size_toArray, List.length_cons, List.length_nil, Nat.reduceAdd, Nat.reduceSub, Array.replicate_succ, Array.replicate_zero, List.push_toArray, List.append_toArray, List.nil_append, List.cons_append]
  go_wp2_with (at_builtin; refine append_bytes rfl (.const (.slice none 0 0)) (.tmp 6) rfl w.heap.size _ _ [] b rfl rfl (Ob.nil _ _) HY.out (by simp only [List.length_nil]; omega) (Nat.le_refl _) ?_; intro v1 w1 hg)
  have HG : Hid (Grew w w.heap.size (.slice none 0 0) v1 b w1) := hg
  clear hg
  go_loopw [3] (fun v wr => PadRel w b v wr) (fun v _ => padN b - (lenV v - b.length))
  case atStart => exact ⟨0, Nat.zero_le _, by rw [List.replicate_zero, List.append_nil]; exact HG.out⟩
  case round =>
    obtain ⟨j, hj, hG⟩ := hrel
    obtain ⟨L, hL⟩ : ∃ L, (b ++ List.replicate j 255).length = L := ⟨_, rfl⟩
    have hL2 : L = b.length + j := by rw [← hL, List.length_append, List.length_replicate]
    have hG0 := hide hG
    obtain ⟨A1, c1, rfl, -⟩ := hG.o.by_
    rw [hL] at hG0 ⊢
    have q : Int.tmod (L : Int) 4 = ((L % 4 : Nat) : Int) := by rw [Int.tmod_eq_emod_of_nonneg (by omega)]; omega
    have hp3 : padN b ≤ 3 := by unfold padN; omega
    by_cases hlt : j < padN b
    · have q4 : 0 < L % 4 := by unfold padN at hlt; omega
      clear hG hL
      go_wp2_with (at_builtin; refine append_bytes rfl (.tmp 12) (.tmp 13) rfl w.heap.size _ _ (b ++ List.replicate j 255) [255] rfl rfl (hG0.out.o.frm0 ((Frm.refl NoB wr).alloc _)) (by_lit wr [255] (U8.cons (by omega) U8.nil) (by simp) _ rfl 1 rfl) (by rw [List.length_append, List.length_replicate]; simp only [List.length_singleton]; omega) (by have := hG0.out.f.size; simp; omega) ?_; intro v' w2 hg)
      have HG1 := hide ((hG0.out.frm ((Frm.refl NoB wr).alloc (.cells #[.int .u8 255] 5))).trans hg)
      clear hg
      go_wp2
      go_roundw
      case rel =>
        refine ⟨j + 1, by omega, ?_⟩
        have := HG1.out
        rw [List.append_assoc, ← List.replicate_succ'] at this
        exact this
      case measure =>
        obtain ⟨A2, c2, rfl, -⟩ := HG1.out.o.by_
        simp [lenV, hL2]; omega
    · have q4 : L % 4 = 0 := by unfold padN at hlt hj; omega
      have hj2 : j = padN b := by omega
      subst hj2
      obtain ⟨m, hm⟩ : ∃ m, (b.length + 3) / 4 = m := ⟨_, rfl⟩
      have hLm : L = 4 * m := by unfold padN at hL2; omega
      subst hLm
      have HL2 := hide hL2
      clear hL2 q q4 hj hp3 hlt
      have HG1 : Hid (Grew w w.heap.size (.slice none 0 0) (.slice A1 (4 * m) c1) (padded b) wr) := hG0.out
      have HU := hide hY_u
      clear hG hL HY hG0 HG
      go_wp2_with (go_at_call 36; refine (chunk_is _ _ _).mono ?_; rintro e w' ⟨rfl, rfl⟩)
      rename_i K0 hK0
      obtain ⟨W, hW⟩ : ∃ W, (((wr.alloc (.cells #[.slice none 0 0] 30)).alloc (.cells #[.slice A1 (4 * m) c1] 23)).alloc (.cells #[.int .i64 4] 3)) = W := ⟨_, rfl⟩
      rw [hW]
      obtain ⟨hsz, hF, b0, b1, b2⟩ := three_boxes hW
      have hFw : Frm NoB w wr := HG1.out.new
      have hHw := hFw.size
      have hby := HG1.out.o.by_
      have hrow : ∀ k, RowB (.slice A1 (4 * m) c1) k → k < wr.heap.size := fun k hk => (HG1.out.o.lo hk).2
      have I0 : WdInv w wr.heap.size b (.slice A1 (4 * m) c1) 0 W := ⟨hby.frm0 hF, ⟨_, b0, by simpa [ints] using World.ownsRow_nil W _ _ _⟩, hFw.trans hF⟩
      have hpl := padded_length b
      rw [hm] at hpl
      have hadr : ∃ g o, (0 < m → A1 = some ⟨g, o, none⟩) ∧ (∀ i, i < 4 * m → wr.cell? ⟨g, o + i, none⟩ = some (.int .u8 ((padded b).getD i 0))) ∧ (0 < m → g < wr.heap.size) := by
        rcases Nat.eq_zero_or_pos m with h0 | h0
        · exact ⟨0, 0, fun h => by omega, fun i hi => by omega, fun h => by omega⟩
        · obtain ⟨A2, c2, e2, hr, -⟩ := hby
          injection e2 with e2 e3 e4
          subst e2
          obtain ⟨g, o, rfl, hc⟩ := hr (ints_ne (by intro e; rw [e] at hpl; simp at hpl; omega))
          exact ⟨g, o, fun _ => rfl, fun i hi => hc i _ (ints_get (by omega)), fun _ => hrow g rfl⟩
      obtain ⟨g, o, hA1, hcell, hgl⟩ := hadr
      have hc1 : 4 * m ≤ c1 ∧ (c1 : Int) ≤ 9223372036854775807 := by
        obtain ⟨A2, c2, e2, -, -, h4, h5, -⟩ := hby
        injection e2 with e2 e3 e4
        subst e4
        omega
      clear hW
      refine (wpIn_wide (n := 4)).1 ?_
      refine wpIn_rangeL (F := Fence.wide) (n := 4) rfl (by omega) (gf := 47) (lb := #[.pointer (some ⟨wr.heap.size + 1, 0, none⟩), .pointer (some ⟨wr.heap.size + 2, 0, none⟩)]) rfl trivial (enters_of Try.func47 (by kernel_rfl) rfl)
        (encs := fun k : Nat => #[.slice (some ⟨g, o + 4 * k, none⟩) 4 4]) (U := NoB) (V := Two (wr.heap.size + 1) (wr.heap.size + 2)) (full := List.range m)
        (chunk1_in Fence.wide 3 trivial rfl (by omega) (wr.heap.size + 1) (wr.heap.size + 2) g o m c1 A1 hA1 hc1.1 hc1.2 W (b1.cell 0) (b2.cell 0))
        (fun k hk => by cases hk) (fun x => rfl)
        (fun pre W' => WdInv w wr.heap.size b (.slice A1 (4 * m) c1) pre.length W') (fun _ _ _ => False)
        (fun pre A B hi hf => hi.frm hHw hrow (hf.mono (fun k _ hk => ?sub)))
        (fun _ _ _ _ hi _ => hi) I0
        (fun k a' W' => a' = wdAct A A1 c c1 b.length m wr.heap.size g o k v1 (.int .i64 (4 * (m : Int))) (.int .i64 0) (.bool false) u12 u13 u14)
        (fun k a' A B hx hf => hx) ?assign ?body (fun k hk => by rcases hk with hk | hk <;> omega) ?done (fun _ _ _ _ h _ => h.elim)
      case sub =>
        have h : (NoB k ∨ LoopB W.heap.size k) → wr.heap.size + 1 ≤ k ∧ k < wr.heap.size + 5 := fun hk => by
          rcases hk with hk | (hk | hk)
          · cases hk
          all_goals omega
        exact h hk
      case assign =>
        intro l pre k W' K hlt hi hK
        have HK := hide hK
        have HI := hide hi
        clear hK hi I0 b0 b1 b2 hF
        gi_wp2
        refine HK.out _ _ (Keep.refl _ _) HI.out ?_
        rfl
      case body =>
        rintro l pre k a' W' hlt hi rfl hpre
        obtain ⟨rfl, hk⟩ := range_prefix hpre
        rw [List.length_range] at hi
        have hA1 := hA1 (by omega)
        subst hA1
        have hgl := hgl (by omega)
        have hcw : ∀ i, i < 4 * m → W'.cell? ⟨g, o + i, none⟩ = some (.int .u8 ((padded b).getD i 0)) := fun i hi2 => by
          obtain ⟨A2, c2, e2, hr, -⟩ := hi.r
          injection e2 with e2 e3 e4
          subst e2
          obtain ⟨g2, o2, e5, hc⟩ := hr (ints_ne (by intro e; rw [e] at hpl; simp at hpl; omega))
          injection e5 with e5
          injection e5 with e6 e7
          subst e6 e7
          exact hc i _ (ints_get (by omega))
        have hwk := wordsOf_get (b := b) (k := k) (by omega)
        have hwl := wordsOf_length b
        obtain ⟨x0, x1, x2, x3, rest, hd⟩ : ∃ x0 x1 x2 x3 rest, (padded b).drop (4 * k) = x0 :: x1 :: x2 :: x3 :: rest := by
          have hln : ((padded b).drop (4 * k)).length = 4 * m - 4 * k := by rw [List.length_drop, hpl]
          match h : (padded b).drop (4 * k) with
          | [] => rw [h] at hln; simp at hln; omega
          | [_] => rw [h] at hln; simp at hln; omega
          | [_, _] => rw [h] at hln; simp at hln; omega
          | [_, _, _] => rw [h] at hln; simp at hln; omega
          | x0 :: x1 :: x2 :: x3 :: l => exact ⟨x0, x1, x2, x3, l, rfl⟩
        have hud := (padded_u8 HU.out).drop (4 * k)
        have hrd : Rd W' (some ⟨g, o + 4 * k, none⟩) (ints .u8 (x0 :: x1 :: x2 :: x3 :: rest)) := by
          rw [← hd]
          refine fun _ => ⟨g, o + 4 * k, rfl, fun i v hv => ?_⟩
          have hlt2 : i < ((padded b).drop (4 * k)).length := by have := (List.getElem?_eq_some_iff.1 hv).1; rwa [ints_length] at this
          rw [List.length_drop, hpl] at hlt2
          rw [Nat.add_assoc, hcw (4 * k + i) (by omega), ← hv]
          rw [ints_get (by rw [List.length_drop, hpl]; omega)]
          congr 2
          rw [List.getD_eq_getElem?_getD, List.getD_eq_getElem?_getD, List.getElem?_drop]
        have hy : (wordsOf b).getD k 0 = x0 * 16777216 + x1 * 65536 + x2 * 256 + x3 := by rw [hwk, hd]; rfl
        rw [hd] at hud
        have WD : Hid (Calls Try.prog 37 #[.slice (some ⟨g, o + 4 * k, none⟩) 4 4] W'.drew fun e w' => e = .returned (.int .u32 ((wordsOf b).getD k 0)) ∧ ∃ m, w' = W'.drew.drewN m) := by
          rw [hy]
          exact word_is x0 x1 x2 x3 rest (U8.cons hud.head (U8.cons hud.tail.head (U8.cons hud.tail.tail.head (U8.cons hud.tail.tail.tail.head U8.nil)))) (hrd.frm ((Frm.refl NoB W').drew) (fun _ _ e => e)) 4 (by omega)
        have hkl : k < (wordsOf b).length := by rw [hwl, hm]; exact hk
        obtain ⟨y, hyy⟩ : ∃ y, (wordsOf b).getD k 0 = y := ⟨_, rfl⟩
        rw [hyy] at WD
        obtain ⟨u, hbu, hou⟩ := hi.out
        have HI := hide hi
        have HBU := hide hbu
        have HOU := hide hou
        have HYY := hide hyy
        have ld : W'.cell? ⟨wr.heap.size, 0, none⟩ = some u := hbu.cell 0
        clear hi hbu hou hyy hy hud hrd hcw hwk hd hpre I0 b0 b1 b2 hF hcell hby
        obtain ⟨i0, hi0, hz0, hz1, hz2⟩ := info_parts uint32_info
        have hk24 : k ≤ 16777216 := by omega
        have hbs : wr.heap.size + 5 ≤ W'.heap.size + 1 := by omega
        unfold wdAct
        gi_wp2
        refine wpIn_region_any (by kernel_rfl) (anyIn_of_any (by kernel_rfl) (by rintro ⟨a0, w0, h0⟩; exact h0) _ _ _ _ ?_)
        refine wpAny_take (i := 1) (v := .slice (some ⟨g, o + 4 * k, none⟩) 4 4) rfl (by kernel_rfl) (by kernel_rfl) (by kernel_rfl) (fun c a w h => h) (.inl ⟨by rfl, fun w => ?ya⟩) ?_
        case ya =>
          go_simp
          try with_reducible rfl
        simp only [Act.put, List.setIfInBounds_toArray, List.set_cons_zero, List.set_cons_succ]
        refine wpAny_all (rs := [0, 2]) (by kernel_rfl) (by simp) (fun i hi2 => ?_)
        have hi3 : i = 0 ∨ i = 2 := by simpa using hi2
        rcases hi3 with rfl | rfl
        · unfold wpOp
          simp only [List.getElem?_toArray, List.getElem?_cons_zero, List.getElem?_cons_succ]
          rw [if_pos (by rfl)]
          refine .inl ?_
          go_simp
          refine wpAny_all (rs := [2]) (by kernel_rfl) (by simp) (fun i hi2 => ?_)
          obtain rfl : i = 2 := by simpa using hi2
          unfold wpOp
          simp only [List.getElem?_toArray, List.getElem?_cons_zero, List.getElem?_cons_succ]
          rw [if_pos (by rfl)]
          refine .inl ?_
          go_simp
          go_at_call 37
          refine WD.out.mono ?_
          rintro e W3 ⟨rfl, q, rfl⟩
          try simp only [Act.put, List.setIfInBounds_toArray, List.set_cons_zero, List.set_cons_succ]
          refine wpAny_all (rs := [3]) (by kernel_rfl) (by simp) (fun i hi2 => ?_)
          obtain rfl : i = 3 := by simpa using hi2
          unfold wpOp
          simp only [List.getElem?_toArray, List.getElem?_cons_zero, List.getElem?_cons_succ]
          rw [if_pos (by rfl)]
          refine .inl ?_
          go_simp
          refine wpAny_all (rs := [4]) (by kernel_rfl) (by simp) (fun i hi2 => ?_)
          obtain rfl : i = 4 := by simpa using hi2
          unfold wpOp
          simp only [List.getElem?_toArray, List.getElem?_cons_zero, List.getElem?_cons_succ]
          rw [if_pos (by rfl)]
          refine .inl ?_
          refine wp_append_lies _ (.tmp 18) (.tmp 21) 30 rfl (wr.heap.size + 5) 27 i0 _ 1 4 Try.underlying30 hi0 hz0 hz1 hz2 rfl (by omega) u k (ints .u32 ((wordsOf b).take k)) rfl (World.ownsRow.alloc (own_frm HOU.out (((Frm.refl NoB W').drew).drewN q) (fun _ _ e => e)) _) ⟨_, 0, none⟩ 1 1 [.int .u32 y] rfl rfl (World.news_of_block (cs := #[.int .u32 y]) (Blk.new (W'.drew.drewN q) 27 #[.int .u32 y])) (by simp [Value.oneCell']) (by omega) (by simp only [maxLen]; omega) (by omega) (by simp only [World.size_alloc]; exact hbs) _ rfl ?_
          intro g2 cap w5 hown hgrow _ _
          have HB5 := own_boxG (by omega) (Blk.frm HBU.out ((Frm.refl NoB W').drewN (1 + q)) (fun e => e)) (own_frm HOU.out ((Frm.refl NoB W').drewN (1 + q)) (fun _ _ e => e)) hgrow
          have hF5 : Frm (fun x => RowB u x ∨ x = wr.heap.size) W' w5 := ((((Frm.refl _ W').drewN (1 + q)).alloc _).grown hgrow (fun g hg _ => .inl hg))
          have y5 := HB5.cell 0
          have z5 := HB5.frozen 0
          have HOW := hide hown
          have HF5 := hide hF5
          have HBB5 := hide HB5
          clear hown hgrow hF5 HB5
          refine wpAny_all (rs := [5]) (by kernel_rfl) (by simp) (fun i hi2 => ?_)
          obtain rfl : i = 5 := by simpa using hi2
          unfold wpOp
          simp only [List.getElem?_toArray, List.getElem?_cons_zero, List.getElem?_cons_succ]
          rw [if_pos (by rfl)]
          refine .inl ?_
          go_simp
          refine wpAny_done (by kernel_rfl) ?_ _
          exact WdInv.round HI.out HOU.out HOW.out HBB5.out HF5.out hsz hHw hrow hkl HYY.out
        · unfold wpOp
          simp only [List.getElem?_toArray, List.getElem?_cons_zero, List.getElem?_cons_succ]
          rw [if_pos (by rfl)]
          refine .inl ?_
          go_simp
          go_at_call 37
          refine WD.out.mono ?_
          rintro e W3 ⟨rfl, q, rfl⟩
          try simp only [Act.put, List.setIfInBounds_toArray, List.set_cons_zero, List.set_cons_succ]
          refine wpAny_all (rs := [0, 3]) (by kernel_rfl) (by simp) (fun i hi2 => ?_)
          have hi3 : i = 0 ∨ i = 3 := by simpa using hi2
          rcases hi3 with rfl | rfl
          · unfold wpOp
            simp only [List.getElem?_toArray, List.getElem?_cons_zero, List.getElem?_cons_succ]
            rw [if_pos (by rfl)]
            refine .inl ?_
            go_simp
            refine wpAny_all (rs := [3]) (by kernel_rfl) (by simp) (fun i hi2 => ?_)
            obtain rfl : i = 3 := by simpa using hi2
            unfold wpOp
            simp only [List.getElem?_toArray, List.getElem?_cons_zero, List.getElem?_cons_succ]
            rw [if_pos (by rfl)]
            refine .inl ?_
            go_simp
            refine wpAny_all (rs := [4]) (by kernel_rfl) (by simp) (fun i hi2 => ?_)
            obtain rfl : i = 4 := by simpa using hi2
            unfold wpOp
            simp only [List.getElem?_toArray, List.getElem?_cons_zero, List.getElem?_cons_succ]
            rw [if_pos (by rfl)]
            refine .inl ?_
            refine wp_append_lies _ (.tmp 18) (.tmp 21) 30 rfl (wr.heap.size + 5) 27 i0 _ 1 4 Try.underlying30 hi0 hz0 hz1 hz2 rfl (by omega) u k (ints .u32 ((wordsOf b).take k)) rfl (World.ownsRow.alloc (own_frm HOU.out (((Frm.refl NoB W').drew).drewN q) (fun _ _ e => e)) _) ⟨_, 0, none⟩ 1 1 [.int .u32 y] rfl rfl (World.news_of_block (cs := #[.int .u32 y]) (Blk.new (W'.drew.drewN q) 27 #[.int .u32 y])) (by simp [Value.oneCell']) (by omega) (by simp only [maxLen]; omega) (by omega) (by simp only [World.size_alloc]; exact hbs) _ rfl ?_
            intro g2 cap w5 hown hgrow _ _
            have HB5 := own_boxG (by omega) (Blk.frm HBU.out ((Frm.refl NoB W').drewN (1 + q)) (fun e => e)) (own_frm HOU.out ((Frm.refl NoB W').drewN (1 + q)) (fun _ _ e => e)) hgrow
            have hF5 : Frm (fun x => RowB u x ∨ x = wr.heap.size) W' w5 := ((((Frm.refl _ W').drewN (1 + q)).alloc _).grown hgrow (fun g hg _ => .inl hg))
            have y5 := HB5.cell 0
            have z5 := HB5.frozen 0
            have HOW := hide hown
            have HF5 := hide hF5
            have HBB5 := hide HB5
            clear hown hgrow hF5 HB5
            refine wpAny_all (rs := [5]) (by kernel_rfl) (by simp) (fun i hi2 => ?_)
            obtain rfl : i = 5 := by simpa using hi2
            unfold wpOp
            simp only [List.getElem?_toArray, List.getElem?_cons_zero, List.getElem?_cons_succ]
            rw [if_pos (by rfl)]
            refine .inl ?_
            go_simp
            refine wpAny_done (by kernel_rfl) ?_ _
            exact WdInv.round HI.out HOU.out HOW.out HBB5.out HF5.out hsz hHw hrow hkl HYY.out
          · unfold wpOp
            simp only [List.getElem?_toArray, List.getElem?_cons_zero, List.getElem?_cons_succ]
            rw [if_pos (by rfl)]
            refine .inl ?_
            go_simp
            refine wpAny_all (rs := [0]) (by kernel_rfl) (by simp) (fun i hi2 => ?_)
            obtain rfl : i = 0 := by simpa using hi2
            have ld2 := ((Blk.drewN HBU.out (1 + q)).alloc (.cells #[.int .u32 y] 27)).cell 0
            unfold wpOp
            simp only [List.getElem?_toArray, List.getElem?_cons_zero, List.getElem?_cons_succ]
            rw [if_pos (by rfl)]
            refine .inl ?_
            go_simp
            refine wpAny_all (rs := [4]) (by kernel_rfl) (by simp) (fun i hi2 => ?_)
            obtain rfl : i = 4 := by simpa using hi2
            unfold wpOp
            simp only [List.getElem?_toArray, List.getElem?_cons_zero, List.getElem?_cons_succ]
            rw [if_pos (by rfl)]
            refine .inl ?_
            refine wp_append_lies _ (.tmp 18) (.tmp 21) 30 rfl (wr.heap.size + 5) 27 i0 _ 1 4 Try.underlying30 hi0 hz0 hz1 hz2 rfl (by omega) u k (ints .u32 ((wordsOf b).take k)) rfl (World.ownsRow.alloc (own_frm HOU.out (((Frm.refl NoB W').drew).drewN q) (fun _ _ e => e)) _) ⟨_, 0, none⟩ 1 1 [.int .u32 y] rfl rfl (World.news_of_block (cs := #[.int .u32 y]) (Blk.new (W'.drew.drewN q) 27 #[.int .u32 y])) (by simp [Value.oneCell']) (by omega) (by simp only [maxLen]; omega) (by omega) (by simp only [World.size_alloc]; exact hbs) _ rfl ?_
            intro g2 cap w5 hown hgrow _ _
            have HB5 := own_boxG (by omega) (Blk.frm HBU.out ((Frm.refl NoB W').drewN (1 + q)) (fun e => e)) (own_frm HOU.out ((Frm.refl NoB W').drewN (1 + q)) (fun _ _ e => e)) hgrow
            have hF5 : Frm (fun x => RowB u x ∨ x = wr.heap.size) W' w5 := ((((Frm.refl _ W').drewN (1 + q)).alloc _).grown hgrow (fun g hg _ => .inl hg))
            have y5 := HB5.cell 0
            have z5 := HB5.frozen 0
            have HOW := hide hown
            have HF5 := hide hF5
            have HBB5 := hide HB5
            clear hown hgrow hF5 HB5
            refine wpAny_all (rs := [5]) (by kernel_rfl) (by simp) (fun i hi2 => ?_)
            obtain rfl : i = 5 := by simpa using hi2
            unfold wpOp
            simp only [List.getElem?_toArray, List.getElem?_cons_zero, List.getElem?_cons_succ]
            rw [if_pos (by rfl)]
            refine .inl ?_
            go_simp
            refine wpAny_done (by kernel_rfl) ?_ _
            exact WdInv.round HI.out HOU.out HOW.out HBB5.out HF5.out hsz hHw hrow hkl HYY.out
      case done =>
        intro W2 hi hD
        rw [List.length_range] at hi
        obtain ⟨u, hbu, hou⟩ := hi.out
        have hwl := wordsOf_length b
        rw [hm] at hwl
        rw [List.take_of_length_le (by omega)] at hou
        obtain ⟨Au, cu, rfl, hRd, hAb, hcp⟩ := Rd.of_own hou
        have HRd := hide hRd
        have HAb := hide hAb
        have HDe := hide hD
        have HF2 := hide hi.f
        have ld := hbu.cell 0
        clear hi hbu hou hRd hAb hD I0 b0 b1 b2 hF
        refine hK0 _ _ ?_
        go_wp2
        have hF4 : Frm (One (wr.heap.size + 3)) W2 (W2.putObj (wr.heap.size + 3) (.deferred none)) := Frm.putObj (Frm.refl _ W2) _ (.inl rfl)
        refine postM_mark (v := .slice Au m cu) (by simp [results, Try.results13, go_sem]) rfl (by rw [← hsz]; exact HDe.out) ⟨Au, cu, ?_, ?_, ?_, ?_⟩
        · rw [hwl]
        · exact Rd.frm HRd.out hF4 (fun b hb e => by have := (HAb.out b hb).1; have e : b.block = wr.heap.size + 3 := e; omega)
        · exact fun a ha => by have := (HAb.out a ha).1; omega
        · exact HF2.out.then_ hF4 (fun i hi e => by have e : i = wr.heap.size + 3 := e; omega)
end
end Go.Proofs.Ytdhcgghdimkdbaa
