/-
  Texts of this claim, joined: CoP, OpenG, CelArg, CoW, CoA, CelOther.
-/
import Derived.Deep.DeepCutAuto
import Derived.Test.YtiapoalkkhpmlaaCelJ8
/-
  Plain: what another hand lays in the sector that is not the cell's.
-/
namespace Go.Proofs.Ytiapoalkkhpmlaa
/-- the cell is where its turn tells -/
structure InTurn (cs : CelS) : Prop where
  t1 : 1 ≤ cs.turn
  on : cs.on = (cs.turn - 1) % 2
theorem InTurn.next {cs : CelS} (h : InTurn cs) (b : List Int) : InTurn ⟨nextC cs.on, cs.turn + 1, b⟩ := by
  have h1 := h.t1
  have h2 := h.on
  refine ⟨by show 1 ≤ cs.turn + 1; omega, ?_⟩
  show ((nextC cs.on : Nat) : Int) = (cs.turn + 1 - 1) % 2
  unfold nextC
  split <;> omega
theorem InTurn.first (b : List Int) : InTurn ⟨nextC (-1), 0 + 1, b⟩ := ⟨by show (1 : Int) ≤ 0 + 1; decide, by show ((nextC (-1) : Nat) : Int) = (0 + 1 - 1) % 2; decide⟩
/-- words that tell no cell of the next turn -/
structure OthL (t : Int) (F : List Int) : Prop where
  len : F.length = 64
  u : U32 F
  no : F.getD 63 0 ≠ 0 ∨ (F.getD 0 0 = t - 1)
theorem oth_look {f f' : Nat → Int} {F : List Int} (h : InTurn (clook f)) (hF : OthL (clook f).turn F) (io : Nat) (hio : (io : Int) = 1 - (clook f).on)
    (hf : ∀ i, i < 128 → f' i = if 64 * io ≤ i ∧ i < 64 * io + 64 then F.getD (i - 64 * io) 0 else f i) : clook f' = clook f := by
  have ht := h.t1
  have hon := h.on
  rcases clook_cases f with ⟨e, w0, w1⟩ | ⟨e, w0, w1⟩ | ⟨e, w0, w1⟩
  · rw [e] at ht; simp at ht
  · have hio : io = 1 := by rw [e] at hio; dsimp only at hio; omega
    subst hio
    rw [e] at hF ⊢
    have a0 : ∀ i, i < 64 → f' (0 + i) = f (0 + i) := fun i hi => by rw [hf _ (by omega), if_neg (by omega)]
    have a1 : ∀ i, i < 64 → f' (64 + i) = F.getD i 0 := fun i hi => by rw [hf _ (by omega), if_pos (by omega)]; congr 1; omega
    have hw0 : whl f' 0 = true := by rw [whl_congr a0]; exact w0
    have h00 : f' 0 = f 0 := a0 0 (by omega)
    have hn : ¬ (whl f' 64 = true ∧ f' 64 = f' 0 + 1) := fun ⟨k1, k2⟩ => by
      have k3 := (whl_true k1).1
      rw [a1 63 (by omega)] at k3
      have k4 := a1 0 (by omega)
      rw [Nat.add_zero] at k4
      have := hF.no
      dsimp only at this
      rw [k4, h00] at k2
      omega
    unfold clook
    rw [if_pos hw0, if_neg hn, h00, secB_congr a0 (whl_true w0).2.2]
  · have hio : io = 0 := by rw [e] at hio; dsimp only at hio; omega
    subst hio
    rw [e] at hF ⊢
    have a0 : ∀ i, i < 64 → f' (0 + i) = F.getD i 0 := fun i hi => by rw [hf _ (by omega), if_pos (by omega)]; congr 1; omega
    have a1 : ∀ i, i < 64 → f' (64 + i) = f (64 + i) := fun i hi => by rw [hf _ (by omega), if_neg (by omega)]
    have hw1 : whl f' 64 = true := by rw [whl_congr a1]; exact w0
    have h64 : f' 64 = f 64 := a1 0 (by omega)
    unfold clook
    rw [h64, secB_congr a1 (whl_true w0).2.2]
    by_cases hw0 : whl f' 0 = true
    · have k3 := (whl_true hw0).1
      rw [a0 63 (by omega)] at k3
      have k4 := a0 0 (by omega)
      rw [Nat.add_zero] at k4
      have := hF.no
      dsimp only at this
      rw [if_pos hw0, if_pos ⟨hw1, by rw [k4]; omega⟩]
    · rw [if_neg hw0, if_pos hw1]
/-- the words that the law lays -/
def othG (xs : List Int) : List Int := xs ++ [1, 2]
def othR (xs : List Int) (j : Nat) : List Int := othG xs ++ List.replicate j 1
theorem othR_length (xs : List Int) (j : Nat) : (othR xs j).length = xs.length + 2 + j := by simp [othR, othG]; omega
theorem othR_u {xs : List Int} (h : U32 xs) (j : Nat) : U32 (othR xs j) := fun x hx => by
  unfold othR othG at hx
  rcases List.mem_append.1 hx with hx | hx
  · rcases List.mem_append.1 hx with hx | hx
    · exact h x hx
    · simp at hx; omega
  · have := (List.mem_replicate.1 hx).2; omega
theorem othR_succ (xs : List Int) (j : Nat) : othR xs j ++ [1] = othR xs (j + 1) := by
  unfold othR; rw [List.append_assoc, List.replicate_succ']
theorem othR_last {xs : List Int} {j : Nat} (h : xs.length + 2 + j = 64) : (othR xs j).getD 63 0 ≠ 0 := by
  unfold othR
  by_cases hj : j = 0
  · subst hj
    have : 63 = xs.length + 1 := by omega
    rw [this, List.replicate_zero, List.append_nil]
    unfold othG
    simp [List.getD_eq_getElem?_getD]
  · have hl : (othG xs).length = 64 - j := by simp [othG]; omega
    rw [List.getD_eq_getElem?_getD, List.getElem?_append_right (by omega), List.getElem?_replicate_of_lt (by omega)]
    decide
theorem oth_plain {t : Int} {xs : List Int} {j : Nat} (hu : U32 xs) (h : xs.length + 2 + j = 64) : OthL t (othR xs j) :=
  ⟨by rw [othR_length]; omega, othR_u hu j, .inl (othR_last h)⟩
theorem oth_elder {t : Int} {xs : List Int} {j : Nat} (hu : U32 xs) (h : xs.length + 2 + j = 64) (h1 : 1 ≤ t) (h2 : t ≤ 5) : OthL t ((((othR xs j).set 0 (t - 1)).set 1 3).set 63 0) := by
  have hl := othR_length xs j
  refine ⟨by simp; omega, (((othR_u hu j).set 0 (by omega)).set 1 (by omega)).set 63 (by omega), .inr ?_⟩
  simp [List.getD_eq_getElem?_getD, show 0 < (othR xs j).length from by omega]
theorem DrvS.rw_fn {d : DrvS} {s : NorS} {F : List Int} (hs : s.Ok) (hd : d.Ok s) (hm : d.many = 2) (sec : Nat) (hF : F.length = 64) (h1 : d.first ≤ sec) (h2 : sec < d.first + 2) (hg : s.guard ≤ sec) :
    s.rewriteE sec 0 F = 0 ∧ ∀ i, i < 128 → d.fn (s.rewrite sec 0 F) i = if 64 * (sec - d.first) ≤ i ∧ i < 64 * (sec - d.first) + 64 then F.getD (i - 64 * (sec - d.first)) 0 else d.fn s i := by
  have hn := hd.n
  rw [hm] at hn
  have he : s.rewriteE sec 0 F = 0 := by
    unfold NorS.rewriteE
    rw [if_pos (by unfold NorS.there; simp only [Bool.and_eq_true, decide_eq_true_eq]; omega), if_neg (by omega)]
  refine ⟨he, fun i hi => ?_⟩
  unfold NorS.rewrite
  rw [if_pos he]
  unfold DrvS.fn NorS.wd DrvS.base
  show (NorS.lay s.l (NorS.at_ sec 0) F).getD (d.first * 64 + i) 0 = _
  have hl := hs.len
  have hat : NorS.at_ (sec : Int) 0 = sec * 64 := by unfold NorS.at_; simp
  rw [hat, lay_at _ _ _ _ (by omega)]
  by_cases hc : 64 * (sec - d.first) ≤ i ∧ i < 64 * (sec - d.first) + 64
  · rw [if_pos (by omega), if_pos hc]
    congr 1
    omega
  · rw [if_neg (by omega), if_neg hc]
theorem DrvS.wr_guard (d : DrvS) (s : NorS) (a : Int) (l : List Int) : (d.wr s a l).guard = s.guard := by
  unfold DrvS.wr
  split
  · split
    · rfl
    · exact (NorS.prog_same l s _).2.1
  · rfl
theorem DrvS.er_guard (d : DrvS) (s : NorS) (k : Int) : (d.er s k).guard = s.guard := by
  unfold DrvS.er NorS.erase
  split
  · split
    · split
      · exact NorS.step_guard s
      · exact NorS.step_guard s
    · rfl
  · rfl
theorem DrvS.cput_guard {d : DrvS} {s : NorS} {c : CelS} {b : List Int} : (d.cput s c b).1.guard = s.guard := by
  unfold DrvS.cput
  split
  · rfl
  split
  · rfl
  unfold DrvS.cputI
  split
  · split
    · rw [DrvS.wr_guard, DrvS.wr_guard, DrvS.er_guard]
    · rw [DrvS.wr_guard, DrvS.er_guard]
  · rw [DrvS.er_guard]
theorem calm_rewrite {s : NorS} {sec k : Int} {F : List Int} (h : DrvS.Calm s) : DrvS.Calm (s.rewrite sec k F) := by
  unfold NorS.rewrite
  split
  · exact ⟨h.1, h.2⟩
  · exact h
end Go.Proofs.Ytiapoalkkhpmlaa

/-
  An argument that is a slice, opened: whatever its elements are.
-/
namespace Go.Proofs.Ytiapoalkkhpmlaa
open Go.ChangeShapes Go.WideShapes Go.ChangeAt Go.RowKit Go.Deep
section
variable {H : Type} {enc : TypeId × Value → H} {W : World}
/-- elements in a row, each of k cells -/
def ElemsAt (W : World) (A : Option Addr) (k : Nat) {α : Type} (R : List Value → α → Prop) (os : List α) : Prop :=
  ∀ i (hi : i < os.length), ∃ b x cs, A = some ⟨b, x, none⟩ ∧ b < W.heap.size ∧ R cs (os[i]'hi) ∧ ∀ j u, cs[j]? = some u → W.cell? ⟨b, x + i * k + j, none⟩ = some u
theorem open_list {α : Type} {P : Program} {t e : TypeId} {k fuel : Nat} {v : Value} {x : DataW H × List MemPlace} (dflt : α) (R : List Value → α → Prop) (ht : P.underlying t = some (.slice e)) (hk : P.cellsOf e = k) (hk0 : 0 < k)
    (hel : ∀ fuel cs x, DataW.trod enc P W 0 (fun _ => true) true fuel e cs = some x → ∃ o, R cs o) (hlen : ∀ cs o, R cs o → cs.length = k)
    (h : DataW.trod enc P W 0 (fun _ => true) true fuel t [v] = some x) :
    ∃ (A : Option Addr) (c : Nat) (os : List α), v = .slice A os.length c ∧ ElemsAt W A k R os ∧ os.length ≤ c ∧ c ≤ maxLen := by
  rcases open_slice ht h with ⟨hcs, _⟩ | ⟨a, len, cap, m, n, D, Pl, hcs, _, hl, hm, hmm, _, hi⟩
  · simp at hcs
    exact ⟨none, 0, [], by simp [hcs], fun i hi => by simp at hi, Nat.le_refl _, Nat.zero_le _⟩
  · simp only [if_true] at hmm
    subst hmm
    have hex : ∀ i, i < m → ∃ (o : α) (cs : List Value), R cs o ∧ ∀ j u, cs[j]? = some u → W.cell? ((a.add (i * k)).add j) = some u := fun i him => by
      obtain ⟨cs', hcell, ht⟩ := hi i him
      rw [hk] at hcell
      obtain ⟨o, ho⟩ := hel _ _ _ ht
      refine ⟨o, cs', ho, fun j u hju => ?_⟩
      obtain ⟨_, hlen', hat⟩ := World.cells?_some hcell
      have hj : j < k := by
        have := (List.getElem?_eq_some_iff.1 hju).1
        rw [hlen _ _ ho] at this
        exact this
      rw [hat j hj, hju]
    classical
    let F : Nat → α := fun i => if him : i < m then (hex i him).choose else dflt
    refine ⟨some a, m, (List.range len).map F, ?_, fun i hi' => ?_, by simpa using hl, hm⟩
    · simp at hcs
      simp [hcs]
    · have hil : i < len := by simpa using hi'
      have him : i < m := by omega
      have e : ((List.range len).map F)[i]'hi' = (hex i him).choose := by
        simp [F, him]
      obtain ⟨cs, ho, hcells⟩ := (hex i him).choose_spec
      have hgo : ∀ j (hj : j < m), ∃ b y, a = ⟨b, y, none⟩ := fun j hj => by
        obtain ⟨cs', hr, hc0⟩ := (hex 0 (by omega)).choose_spec
        have hl0 := hlen _ _ hr
        have h1 := hc0 0 _ (List.getElem?_eq_getElem (by omega))
        rw [show (a.add (0 * k)).add 0 = a from by simp [Addr.add]] at h1
        exact spot_none h1
      obtain ⟨b, y, rfl⟩ := hgo i him
      have hadd : ∀ j, ((⟨b, y, none⟩ : Addr).add (i * k)).add j = ⟨b, y + i * k + j, none⟩ := fun j => by rw [addr_add, addr_add]
      have hl0 := hlen _ _ ho
      have h0 := hcells 0 _ (List.getElem?_eq_getElem (by omega))
      rw [hadd] at h0
      refine ⟨b, y, cs, rfl, World.block_lt_of_cell? W _ h0, by rw [e]; exact ho, fun j u hu => ?_⟩
      have := hcells j u hu
      rwa [hadd] at this
theorem open_threeG {P : Program} {base : Nat} {spare : Nat → Bool} {held : Bool} {t : TypeId} {f0 f1 f2 : Field} {fuel : Nat} {cs : List Value} {x : DataW H × List MemPlace} (ht : P.underlying t = some (.struct #[f0, f1, f2])) (hone : oneCellFields P #[f0, f1, f2] = true) (hC : P.cellsOf t = 3)
    (h : DataW.trod enc P W base spare held fuel t cs = some x) :
    ∃ (v0 v1 v2 : Value) (n : Nat) (y0 y1 y2 : DataW H × List MemPlace), cs = [v0, v1, v2] ∧ DataW.trod enc P W base spare held n f0.type [v0] = some y0 ∧ DataW.trod enc P W base spare held n f1.type [v1] = some y1 ∧ DataW.trod enc P W base spare held n f2.type [v2] = some y2 := by
  obtain ⟨xs, n, _, _, hl, hx, hf⟩ := DataW.trod_struct ht h
  rw [hC] at hl
  match cs, hl with
  | [v0, v1, v2], _ =>
    match xs, hx with
    | [y0, y1, y2], _ =>
      obtain ⟨o0, k0⟩ := hone_of hone 0 f0 rfl
      obtain ⟨o1, k1⟩ := hone_of hone 1 f1 rfl
      obtain ⟨o2, k2⟩ := hone_of hone 2 f2 rfl
      exact ⟨v0, v1, v2, n, y0, y1, y2, rfl, by simpa [o0, k0] using hf 0 f0 rfl, by simpa [o1, k1] using hf 1 f1 rfl, by simpa [o2, k2] using hf 2 f2 rfl⟩
end
end Go.Proofs.Ytiapoalkkhpmlaa

/-
  Lists of bytes as an argument; what Get tells is memory of one's own; bytes that are turned.
-/
namespace Go.Proofs.Ytiapoalkkhpmlaa
open Go.RowKit
section
variable {w : World} {v : Value} {xs : List Int}
def CloneOwn (w : World) (xs : List Int) (e : Ending) (w' : World) : Prop := ∃ v', e = .returned v' ∧ Ob w' w.heap.size v' xs ∧ Frm NoB w w'
set_option maxRecDepth 100000 in
theorem clone_own (hy : By w v xs) (hl : xs.length ≤ 16777216) :
    Calls Try.prog 45 #[v] w (CloneOwn w xs) := by
  have HY := hide hy
  obtain ⟨A, c, rfl, hr, hz, hlc, hc, hu⟩ := hy
  have q := fun (w : World) (a : Option Addr) (n c n' c' : Nat) => Lib.run_eql_slice_nil (P := Try.prog) w 28 5 a n c n' c' Try.underlying28
  cases A with
  | none =>
    have h0 : xs.length = 0 := by have := hz rfl; omega
    have e0 : xs = [] := List.eq_nil_of_length_eq_zero h0
    subst e0
    clear hr hz hlc hc hu
    go_enter Try.func45, Try.ntmps45
    go_wp2
    go_ret
    exact ⟨_, rfl, Ob.nil _ _, Frm.refl _ _⟩
  | some a =>
    clear hr hz hlc hc hu
    have hf : Frm NoB w (w.alloc (.cells #[] 5)) := (Frm.refl NoB w).alloc _
    have HF := hide hf
    have ho : Ob (w.alloc (.cells #[] 5)) w.heap.size (.slice (some ⟨w.heap.size, 0, none⟩) 0 0) [] := ⟨World.ownsRow_made w #[] 0 (Nat.le_refl _) (Nat.zero_le _) rfl, U8.nil⟩
    have HO := hide ho
    clear hf ho
    go_enter Try.func45, Try.ntmps45
    go_wp2_with (at_builtin; refine append_bytes rfl (.tmp 5) (.tmp 6) rfl w.heap.size _ _ [] xs rfl rfl HO.out (HY.out.frm0 HF.out) (by simpa using hl) (by simp) ?_; intro v' w' hg)
    go_ret
    refine ⟨v', rfl, hg.o, ?_⟩
    exact (HF.out).then_ hg.f (fun i hi e => by
      have e : some w.heap.size = some i := e
      injection e with e
      omega)
/-- what Get tells: memory of its own -/
def CGetOwn (w : World) (c : CelS) (e : Ending) (w' : World) : Prop := ∃ v', e = .returned (.tuple #[v', .bool (decide (0 ≤ c.on))]) ∧ Ob w' w.heap.size v' (if 0 ≤ c.on then c.b else []) ∧ Frm NoB w w'
theorem cget_own {g gd : Nat} {c : CelS} {over : Bool} (h : CelAt w g gd c v over) (hl : c.b.length ≤ 16777216) : Calls Try.prog 12 #[.pointer (some ⟨g, 0, none⟩)] w (CGetOwn w c) := by
  have K := hide (cnone_is h)
  have m1 := h.c1
  have m3 := h.c3
  have KC := hide (clone_own h.y hl)
  clear h hl
  by_cases hon : 0 ≤ c.on
  · have P : Hid (∀ v' w', Ob w' w.heap.size v' c.b → Frm NoB w w' → CGetOwn w c (.returned (.tuple #[v', .bool true])) w') := fun v' w' a cc => ⟨v', by rw [decide_eq_true hon], by rw [if_pos hon]; exact a, cc⟩
    have t1 : decide (c.on < 0) = false := decide_eq_false (by omega)
    clear hon
    go_enter Try.func12, Try.ntmps12
    go_wp2_with fail
    refine K.out.mono ?_
    rintro e w' ⟨rfl, rfl⟩
    go_wp2_with fail
    refine KC.out.mono ?_
    rintro e w' ⟨v', rfl, h1, h3⟩
    have H := hide (P.out _ _ h1 h3)
    clear h1 h3 P
    go_wp2
    go_ret2
    exact H.out
  · have P : Hid (CGetOwn w c (.returned (.tuple #[.slice none 0 0, .bool false])) w) := ⟨_, by rw [decide_eq_false hon], by rw [if_neg hon]; exact Ob.nil _ _, Frm.refl _ _⟩
    have t1 : decide (c.on < 0) = true := decide_eq_true (by omega)
    clear hon
    go_enter Try.func12, Try.ntmps12
    go_wp2_with fail
    refine K.out.mono ?_
    rintro e w' ⟨rfl, rfl⟩
    go_wp2
    go_ret2
    exact P.out
end
/-- lists of bytes, as an argument -/
structure BysAt (w : World) (B : Nat) (A : Option Addr) (ls : List (List Int)) : Prop where
  at_ : ∀ i (h : i < ls.length), ∃ b x v, A = some ⟨b, x, none⟩ ∧ b < B ∧ By w v (ls[i]'h) ∧ ((ls[i]'h) ≠ [] → ∀ k, RowB v k → k < B) ∧ w.cell? ⟨b, x + i, none⟩ = some v
theorem BysAt.frm {S : Nat → Prop} {w w' : World} {B : Nat} {A : Option Addr} {ls : List (List Int)} (h : BysAt w B A ls) (hf : Frm S w w') (hs : ∀ k, k < B → ¬ S k) : BysAt w' B A ls := by
  refine ⟨fun i hi => ?_⟩
  obtain ⟨b, x, v, rfl, hb, h0, h1, h2⟩ := h.at_ i hi
  exact ⟨b, x, v, rfl, hb, h0.frm1 hf (fun e k hk => hs k (h1 e k hk)), h1, (hf.cell (World.block_lt_of_cell? w _ h2) (hs b hb)).trans h2⟩
section
open Go.ChangeShapes Go.WideShapes Go.ChangeAt Go.Deep
variable {H : Type} {enc : TypeId × Value → H} {W : World}
theorem bys_cells : Try.prog.cellsOf 28 = 1 := by kernel_rfl
theorem open_bys {fuel : Nat} {v : Value} {x : DataW H × List MemPlace} (h : DataW.trod enc Try.prog W 0 (fun _ => true) true fuel 22 [v] = some x) :
    ∃ (A : Option Addr) (c : Nat) (ls : List (List Int)), v = .slice A ls.length c ∧ BysAt W W.heap.size A ls ∧ (ls.length : Int) ≤ 9223372036854775807 := by
  obtain ⟨A, c, ls, rfl, hE, hl, hm⟩ := open_list (α := List Int) [] (fun cs l => ∃ v, cs = [v] ∧ By W v l ∧ ∀ k, RowB v k → k < W.heap.size ∨ l = []) Try.underlying22 bys_cells (by omega)
    (fun fuel cs x hx => by
      have hlen : ∃ v, cs = [v] := by
        rcases open_slice Try.underlying28 hx with ⟨hcs, _⟩ | ⟨a, len, cap, m, n, D, Pl, hcs, _⟩
        · exact ⟨_, hcs⟩
        · exact ⟨_, hcs⟩
      obtain ⟨v, rfl⟩ := hlen
      obtain ⟨xs, h1, h2⟩ := open_bytes Try.underlying28 Try.underlying5 uint8_one hx
      exact ⟨xs, v, rfl, h1, h2⟩)
    (fun cs o ⟨v, hv, _⟩ => by rw [hv]; rfl) h
  have hc := cap_i64 hm
  refine ⟨A, c, ls, rfl, ⟨fun i hi => ?_⟩, by omega⟩
  obtain ⟨b, x, cs, rfl, hb, ⟨v, rfl, hy, hk⟩, hcell⟩ := hE i hi
  refine ⟨b, x, v, rfl, hb, hy, fun e k h => ?_, ?_⟩
  · rcases hk k h with h | h
    · exact h
    · exact absurd h e
  · have := hcell 0 v rfl
    rwa [Nat.mul_one, Nat.add_zero] at this
theorem open_arg_bys {A0 : Option Addr} {len0 cap0 : Nat} {d : DataW H} {p : List MemPlace} (h : DataW.Trod enc Try.prog W 0 (fun _ => true) true 22 (.slice A0 len0 cap0) d p) :
    ∃ (A : Option Addr) (c : Nat) (ls : List (List Int)), Value.slice A0 len0 cap0 = .slice A ls.length c ∧ BysAt W W.heap.size A ls ∧ (ls.length : Int) ≤ 9223372036854775807 := by
  obtain ⟨fuel, hf⟩ := h
  exact open_bys hf
end
theorem By.row_lt {w : World} {v : Value} {xs : List Int} (h : By w v xs) (hne : xs ≠ []) {k : Nat} (hk : RowB v k) : k < w.heap.size := by
  obtain ⟨A, c, rfl, hr, -⟩ := h
  obtain ⟨a, rfl, hlt⟩ := hr.lt (ints_ne hne)
  have hk : some a.block = some k := hk
  injection hk with hk
  omega
/-- other blocks turn -/
theorem OwnC.far {S : Nat → Prop} {w0 w w' : World} {p q c gd g : Nat} {v : Value} {d : DrvS} {s : NorS} (h : OwnC w0 w p q c gd g v d s) (hf : Frm S w w') (h0 : ∀ k, S k → w0.heap.size ≤ k) (hS : ∀ k, S k → k ≠ p ∧ k ≠ q ∧ k ≠ gd ∧ k ≠ g ∧ ((clook (d.fn s)).b ≠ [] → ¬ RowB v k)) : OwnC w0 w' p q c gd g v d s :=
  ⟨⟨h.o.n.frm hf (fun e => (hS _ e).1 rfl) (fun e => (hS _ e).2.1 rfl), h.o.f.then_ hf (fun i hi e => by have := h0 i e; omega), h.o.p0, h.o.q0⟩,
    h.dr.frm hf (fun e => (hS _ e).2.2.1 rfl), h.t.frm hf (fun e => (hS _ e).2.2.2.1 rfl) (fun hb k hk e => (hS _ e).2.2.2.2 hb hk), h.g0, h.vn, h.dk, h.m⟩
/-- what was made behind the cell turns -/
theorem OwnC.newer {S : Nat → Prop} {w0 wz w w' : World} {p q c gd g : Nat} {v : Value} {d : DrvS} {s : NorS} (hz : OwnC w0 wz p q c gd g v d s) (h : OwnC w0 w p q c gd g v d s) (hf : Frm S w w') (hS : ∀ k, S k → wz.heap.size ≤ k) : OwnC w0 w' p q c gd g v d s := by
  have h1 := hz.o.n.ltp
  have h2 := hz.o.n.ltq
  have h3 := hz.t.lt
  have h4 := hz.dr.lt
  have h5 := hz.o.f.size
  exact h.far hf (fun k hk => by have := hS k hk; omega) (fun k hk => by
    have hk := hS k hk
    exact ⟨by omega, by omega, by omega, by omega, fun hb hr => by have := hz.t.y.row_lt hb hr; omega⟩)
/-- bytes of a row of one's own are turned, one by one -/
def TurnRel (w3 : World) (B : Nat) (v : Value) (n : Nat) (x : Value) (wr : World) : Prop :=
  ∃ (k : Nat) (ys : List Int), k ≤ n ∧ x = .int .i64 k ∧ wr.ownsRow B 5 1 v n (ints .u8 ys) ∧ Frm (RowB v) w3 wr
theorem turn_row {w : World} {B n : Nat} {v : Value} {ys : List Int} (h : w.ownsRow B 5 1 v n (ints .u8 ys)) {k : Nat} (hk : k < n) :
    ∃ g c y, v = .slice (some ⟨g, 0, none⟩) n c ∧ w.cell? ⟨g, k, none⟩ = some (.int .u8 y) ∧ w.frozen? ⟨g, k, none⟩ = false ∧
      ∀ z, (w.setCell ⟨g, k, none⟩ (.int .u8 z)).ownsRow B 5 1 v n (ints .u8 (ys.set k z)) ∧ Frm (RowB v) w (w.setCell ⟨g, k, none⟩ (.int .u8 z)) := by
  have hl : ys.length = n := by have := h.1; rw [ints_length] at this; omega
  obtain ⟨g, c, rfl⟩ : ∃ g c, v = .slice (some ⟨g, 0, none⟩) n c := by
    rcases h.2 with ⟨e, h0⟩ | ⟨g, cap, cur, e, _⟩
    · have := h.1; rw [h0] at this; simp at this; omega
    · exact ⟨g, cap, e⟩
  refine ⟨g, c, ys.getD k 0, rfl, ?_, h.frozenAt k, fun z => ⟨?_, Frm.setCell (S := RowB (.slice (some ⟨g, 0, none⟩) n c)) (Frm.refl _ w) (p := ⟨g, k, none⟩) (.inl rfl) _⟩⟩
  · rw [h.cellAt k (by omega), ints_get (by omega)]
  · have := h.stored k (.int .u8 z)
    have e : (ints .u8 ys).set k (.int .u8 z) = ints .u8 (ys.set k z) := by unfold ints; rw [List.map_set]
    rw [e] at this
    exact this.1
end Go.Proofs.Ytiapoalkkhpmlaa

/-
  Words behind words of one's own; CopyWords; another hand's words in a flash of a call's own.
-/
namespace Go.Proofs.Ytiapoalkkhpmlaa
open Go.RowKit
set_option maxRecDepth 100000 in
theorem append_w {w : World} {ops : Array Oper} {rest : List Oper} {o : Oper} {a : Act} {Q : Exit → Act → World → Prop} (hgd : o.guard = none) (s x : Operand)
    (ho : o.op = .call { callee := .builtin .append, args := #[s, x], argTypes := #[34, 34] })
    (base : Nat) (v : Value) (n m c : Nat) (xs : List Value) (ys : List Int) (A : Option Addr) (hm : ys.length = m) (hs : a.eval s = v) (hx : a.eval x = .slice A m c) (hown : w.ownsRow base 49 1 v n xs) (hr : Rd w A (ints .u32 ys)) (hz : A = none → c = 0)
    (hl : n + m ≤ 16777216) (hbase : base ≤ w.heap.size)
    (h : ∀ A' c' w', w'.ownsRow base 49 1 (.slice A' (n + m) c') (n + m) (xs ++ ints .u32 ys) → w.grownBy w' v.ownBlock → wpList Try.prog ops Q rest (a.put o.dst (.slice A' (n + m) c')) w') :
    wpList Try.prog ops Q (o :: rest) a w := by
  subst hm
  obtain ⟨i0, hi0, hz0, hz1, hz2⟩ := info_parts uint32_info
  cases A with
  | none =>
    obtain rfl := hz rfl
    have e : ys = [] := by
      by_cases e : ys = []
      · exact e
      · obtain ⟨b, o, h1, _⟩ := hr (ints_ne e); cases h1
    subst e
    refine wpList_append_own_none hgd s x 34 ho base 49 i0 1 Try.underlying34 hi0 v _ _ hs hown hx ?_
    obtain ⟨A', c', rfl, -⟩ := Rd.of_own hown
    exact h A' c' w (by simpa [ints] using hown) ⟨rfl, rfl, rfl, Nat.le_refl _, fun _ _ _ => rfl⟩
  | some ad =>
    refine wpList_append_own_at w hgd s x 34 ho base 49 i0 _ 1 4 Try.underlying34 hi0 hz0 hz1 hz2 rfl (by omega) v n xs hs hown ad ys.length c (ints .u32 ys) hx (by rw [ints_length, Nat.mul_one])
      (fun j u hu => by
        obtain ⟨b, o1, e, hc⟩ := hr (fun e => by rw [e] at hu; cases hu)
        injection e with e
        subst e
        rw [addr_add]
        exact hc j u hu)
      (fun u hu => by
        unfold ints at hu
        obtain ⟨y, _, rfl⟩ := List.mem_map.1 hu
        rfl) (by simp only [maxLen]; omega) (by omega) hbase (fun v' w' k1 k2 _ k3 => ?_)
    obtain ⟨A', c', rfl, -⟩ := Rd.of_own k1
    exact h A' c' w' k1 k2
def CwPost (w : World) (xs : List Int) (e : Ending) (w' : World) : Prop := ∃ A' c', e = .returned (.slice A' xs.length c') ∧ w'.ownsRow w.heap.size 49 1 (.slice A' xs.length c') xs.length (ints .u32 xs) ∧ Frm NoB w w'
set_option maxRecDepth 100000 in
theorem copyWords_own (w : World) (A : Option Addr) (cp : Nat) (xs : List Int) (hx : Rd w A (ints .u32 xs)) (hz : A = none → cp = 0) (hl : xs.length ≤ 16777216) :
    Calls Try.prog 20 #[.slice A xs.length cp] w (CwPost w xs) := by
  have HX := hide hx
  have HZ := hide hz
  clear hx hz
  go_enter Try.func20, Try.ntmps20
  go_wp2_with (at_builtin; refine append_w rfl (.tmp 4) (.tmp 5) rfl w.heap.size (.slice none 0 0) 0 _ cp [] xs A rfl rfl rfl (World.ownsRow_nil w _ _ _) HX.out HZ.out (by omega) (Nat.le_refl _) ?_; intro A' c' w' hown hgrow)
  go_ret
  rw [List.nil_append, Nat.zero_add] at hown
  exact ⟨A', c', rfl, hown, (Frm.refl NoB w).grown hgrow (fun g hg _ => by simp [Value.ownBlock] at hg)⟩
/-- one word of a row of one's own is laid -/
theorem set_row {w : World} {B n : Nat} {v : Value} {ys : List Int} (h : w.ownsRow B 49 1 v n (ints .u32 ys)) {k : Nat} (hk : k < n) :
    ∃ g c, v = .slice (some ⟨g, 0, none⟩) n c ∧ B ≤ g ∧ w.frozen? ⟨g, k, none⟩ = false ∧ (∃ y, w.cell? ⟨g, k, none⟩ = some y) ∧
      ∀ z, (w.setCell ⟨g, k, none⟩ (.int .u32 z)).ownsRow B 49 1 v n (ints .u32 (ys.set k z)) ∧ Frm (RowB v) w (w.setCell ⟨g, k, none⟩ (.int .u32 z)) := by
  have hl : ys.length = n := by have := h.1; rw [ints_length] at this; omega
  obtain ⟨g, c, rfl⟩ : ∃ g c, v = .slice (some ⟨g, 0, none⟩) n c := by
    rcases h.2 with ⟨e, h0⟩ | ⟨g, cap, cur, e, _⟩
    · have := h.1; rw [h0] at this; simp at this; omega
    · exact ⟨g, cap, e⟩
  refine ⟨g, c, rfl, (h.lt g rfl).1, h.frozenAt k, ⟨.int .u32 (ys.getD k 0), by rw [h.cellAt k (by omega), ints_get (by omega)]⟩, fun z => ⟨?_, Frm.setCell (S := RowB (.slice (some ⟨g, 0, none⟩) n c)) (Frm.refl _ w) (p := ⟨g, k, none⟩) (.inl rfl) _⟩⟩
  have := h.stored k (.int .u32 z)
  have e : (ints .u32 ys).set k (.int .u32 z) = ints .u32 (ys.set k z) := by unfold ints; rw [List.map_set]
  rw [e] at this
  exact this.1
section
variable {w0 w : World} {p q c gd : Nat} {d : DrvS} {s : NorS}
theorem own_rw_d (sec k : Int) (A : Option Addr) (cp n : Nat) (xs : List Int) (hn : xs.length = n) (h : Own w0 w p q c s) (hd : DrvAt w gd p d) (hx : Rd w A (ints .u32 xs)) (ux : U32 xs) (hm : (xs.length : Int) ≤ 9223372036854775807) :
    Calls Try.prog 21 #[.pointer (some ⟨p, 0, none⟩), .int .i64 sec, .int .i64 k, .slice A n cp] w fun e w' => e = .returned (.int .i64 (s.rewriteE sec k xs)) ∧ Own w0 w' p q c (s.rewrite sec k xs) ∧ DrvAt w' gd p d ∧ Frm (Two p q) w w' := by
  have hne := hd.ne h.n
  refine (rewrite_at sec k A cp n xs hn h.n hx ux hm).mono ?_
  rintro e w' ⟨rfl, hN, hf⟩
  exact ⟨rfl, h.step hN hf, hd.frm hf (fun e => e.elim hne.1 hne.2), hf⟩
end
end Go.Proofs.Ytiapoalkkhpmlaa

/-
  An argument of words, and how much room it has.
-/
namespace Go.Proofs.Ytiapoalkkhpmlaa
open Go.ChangeShapes Go.WideShapes Go.ChangeAt Go.RowKit Go.Deep
section
variable {H : Type} {enc : TypeId × Value → H} {W : World}
set_option maxRecDepth 100000 in
theorem open_words {A0 : Option Addr} {len0 cap0 : Nat} {d : DataW H} {p : List MemPlace} (h : DataW.Trod enc Try.prog W 0 (fun _ => true) true 34 (.slice A0 len0 cap0) d p) :
    ∃ (A : Option Addr) (c : Nat) (xs : List Int), Value.slice A0 len0 cap0 = .slice A xs.length c ∧ RowArg W W.heap.size A c xs ∧ (A = none → c = 0) := by
  have he : Try.prog.underlying 49 = some (.int .u32) := Try.underlying49
  obtain ⟨A, c, xs, e, hr⟩ := open_arg_row Try.underlying34 he (by kernel_rfl) h
  refine ⟨A, c, xs, e, hr, fun hA => ?_⟩
  subst hA
  obtain ⟨fuel, hf⟩ := h
  rw [e] at hf
  rcases open_ints Try.underlying34 he (by kernel_rfl) hf with ⟨hcs, _⟩ | ⟨a, l, c', zs, hcs, _⟩
  · injection hcs with h1 _
    injection h1 with _ _ h3
  · injection hcs with h1 _
    injection h1 with h2 _ _
    cases h2
end
end Go.Proofs.Ytiapoalkkhpmlaa

/-
  What the other sector has, whatever it is, is told of by nothing: the walk.
-/
namespace Go.Proofs.Ytiapoalkkhpmlaa
open Go.RowKit
def COtRel (w : World) (n : Nat) (p q c gd g : Nat) (x13 x14 : Value) (wr : World) : Prop :=
  ∃ (k j : Nat) (v : Value) (s : NorS), j ≤ n ∧ k ≤ 5 ∧ k ≤ j ∧ x13 = .int .i64 k ∧ x14 = .int .i64 j ∧ OwnC w wr p q c gd g v cmD s ∧ DrvS.Calm s ∧ (clook (cmD.fn s)).turn = k ∧ (k = 0 → (clook (cmD.fn s)).on = -1) ∧ (1 ≤ k → InTurn (clook (cmD.fn s))) ∧ s.guard = 0
def OtRow (wB : World) (xs : List Int) (m : Nat) (x : Value) (wr : World) : Prop :=
  ∃ (j : Nat) (A : Option Addr) (c : Nat), x = .slice A (m + 2 + j) c ∧ m + 2 + j ≤ 64 ∧ wr.ownsRow wB.heap.size 49 1 (.slice A (m + 2 + j) c) (m + 2 + j) (ints .u32 (othR xs j)) ∧ Frm NoB wB wr
theorem put_turn {s s' : NorS} {l : List Int} {k : Nat} (h : PutOk cmD s l ⟨nextC (clook (cmD.fn s)).on, (clook (cmD.fn s)).turn + 1, l⟩ s') (ht : (clook (cmD.fn s)).turn = k) (h0 : k = 0 → (clook (cmD.fn s)).on = -1) (h1 : 1 ≤ k → InTurn (clook (cmD.fn s))) :
    (clook (cmD.fn s')).turn = (k + 1 : Nat) ∧ InTurn (clook (cmD.fn s')) := by
  rw [h.l]
  refine ⟨by show (clook (cmD.fn s)).turn + 1 = _; omega, ?_⟩
  by_cases hk : k = 0
  · have e1 := h0 hk
    rw [e1, ht, hk]
    exact InTurn.first l
  · exact (h1 (by omega)).next l
set_option maxRecDepth 100000 in
set_option maxHeartbeats 16000000 in
theorem cellOther_is (w : World) (A : Option Addr) (cp n : Nat) (ls : List (List Int)) (hn : ls.length = n) (hA : BysAt w w.heap.size A ls) (hl : (ls.length : Int) ≤ 9223372036854775807)
    (Aw : Option Addr) (cw m : Nat) (xs : List Int) (hm : xs.length = m) (hX : RowArg w w.heap.size Aw cw xs) (hz : Aw = none → cw = 0) (An : Option Addr) (cn N : Nat) (ys : List Int) (hN : ys.length = N) (hY : By w (.slice An N cn) ys) (el : Bool) :
    Calls Try.prog 5 #[.slice A n cp, .slice Aw m cw, .slice An N cn, .bool el] w fun e w' => e = .returned (.bool true) ∧ Frm NoB w w' := by
  have HA := hide hA
  have HN := hide hn
  have HX := hide hX
  have HZ := hide hz
  have HM := hide hm
  have HY := hide hY
  have HNN := hide hN
  have hml : (m : Int) ≤ 9223372036854775807 := by have := hX.len; omega
  have hNl : (N : Int) ≤ 9223372036854775807 := by
    obtain ⟨A', c', e, -, -, h4, h5, -⟩ := hY
    omega
  rw [hn] at hl
  clear hA hn hX hz hY hN hm
  go_enter Try.func5, Try.ntmps5
  go_wp2_with fail
  refine (cmade_is w).mono ?_
  rintro e w1 ⟨p, q, c, gd, g, v, rfl, hT, hgd⟩
  have HT := hide hT
  clear hT hgd
  by_cases hm62 : 62 < m
  · have d1 : decide ((62 : Int) < (m : Int)) = true := decide_eq_true (by omega)
    have d2 : decide (62 < m) = true := decide_eq_true hm62
    have HF := hide HT.out.o.f
    clear HT
    go_wp2_with fail
    refine (awake_is _).mono ?_
    rintro e w5 ⟨rfl, hF5⟩
    go_wp2
    go_ret
    exact ⟨rfl, HF.out.trans hF5⟩
  have d1 : decide ((62 : Int) < (m : Int)) = false := decide_eq_false (by omega)
  have d1' : decide (62 < m) = false := decide_eq_false hm62
  by_cases hN244 : 244 < N
  · have d2 : decide ((244 : Int) < (N : Int)) = true := decide_eq_true (by omega)
    have d3 : decide (244 < N) = true := decide_eq_true hN244
    have HF := hide HT.out.o.f
    clear HT
    go_wp2_with fail
    refine (awake_is _).mono ?_
    rintro e w5 ⟨rfl, hF5⟩
    go_wp2
    go_ret
    exact ⟨rfl, HF.out.trans hF5⟩
  have d2 : decide ((244 : Int) < (N : Int)) = false := decide_eq_false (by omega)
  have d2' : decide (244 < N) = false := decide_eq_false hN244
  go_wp2_with fail
  go_loopw [13, 14] (fun x13 x14 wr => COtRel w n p q c gd g x13 x14 wr) (fun _ i _ => n - (intOf i).toNat)
  case atStart => exact ⟨0, 0, v, cm0, by omega, by omega, by omega, rfl, rfl, HT.out, cm0_calm, by rw [cm0_look]; rfl, fun _ => by rw [cm0_look], fun h => absurd h (by omega), rfl⟩
  case round =>
    clear HT d1 d1' d2 d2'
    obtain ⟨k, j, v, s, hj, hk5, hkj, rfl, rfl, hT, hC, ht, h0, h1, hgu⟩ := hrel
    obtain ⟨wo, rfl⟩ : ∃ wo : World, wo = wr := ⟨_, rfl⟩
    have HT := hide hT
    have HC := hide hC
    have HTN := hide ht
    have H0 := hide h0
    have H1 := hide h1
    have HGU := hide hgu
    clear hT hC ht h0 h1 hgu
    have j0 : (0 : Int) ≤ (j : Int) := by omega
    have k0 : (0 : Int) ≤ (k : Int) := by omega
    obtain ⟨B, hBe⟩ : ∃ B : Bool, decide (j < n ∧ k < 5) = B := ⟨_, rfl⟩
    have HBE := hide hBe
    clear hBe
    go_upto_region 6 with fail
    go_cut [55] (fun x wc => x = .bool B ∧ wc = wo)
    case first =>
      clear HT HC HTN H0 H1
      by_cases hjn : j < n
      · have c1 : decide ((j : Int) < (n : Int)) = true := decide_eq_true (by omega)
        go_wp2_with fail
        go_meet
        refine ⟨?_, rfl⟩
        rw [← HBE.out]
        congr 1
        by_cases hk : k < 5
        · rw [decide_eq_true (by omega), decide_eq_true ⟨hjn, hk⟩]
        · rw [decide_eq_false (by omega), decide_eq_false (fun h => hk h.2)]
      · have c1 : decide ((j : Int) < (n : Int)) = false := decide_eq_false (by omega)
        go_wp2_with fail
        go_meet
        exact ⟨by rw [← HBE.out, decide_eq_false (fun h => hjn h.1)], rfl⟩
    case rest =>
      obtain ⟨rfl, rfl⟩ := hcut
      have hcase : B = true ∨ B = false := by cases B <;> simp
      rcases hcase with rfl | rfl
      · obtain ⟨j1, k1⟩ := of_decide_eq_true HBE.out
        have j1' : (j : Int) < (n : Int) := by omega
        obtain ⟨b, x, vx, hAe, hb, hy, hk, hcell⟩ := (HA.out.frm HT.out.o.f (fun _ _ e => e)).at_ j (by have := HN.out; omega)
        obtain ⟨l, hll⟩ : ∃ l, ls[j]'(by have := HN.out; omega) = l := ⟨_, rfl⟩
        rw [hll] at hy hk
        have HYY := hide hy
        subst hAe
        have hu := hy.u
        have hfr : Hid (l ≠ [] → ∀ k, RowB vx k → ¬ Tri p q g k) := fun hne k hk' e => by
          have h3 := hk hne k hk'
          have h4 := HT.out.o.p0; have h5 := HT.out.o.q0; have h6 := HT.out.g0
          rcases e with e | e | e <;> omega
        obtain ⟨Ax, cx, rfl, -⟩ := hy
        obtain ⟨L, hL⟩ : ∃ L, l.length = L := ⟨_, rfl⟩
        have HL := hide hL
        rw [hL] at HYY hfr hcell
        clear hk hll hL hb
        by_cases h244 : 244 < L
        · have t1 : decide ((244 : Int) < (L : Int)) = true := decide_eq_true (by omega)
          have t1' : decide (244 < L) = true := decide_eq_true h244
          clear h244 hu
          go_wp2
          go_roundw
          case rel => exact ⟨k, j + 1, v, s, by omega, by omega, by omega, rfl, by go_num, HT.out, HC.out, HTN.out, H0.out, H1.out, HGU.out⟩
          case measure => simp [intOf]; omega
        · have t1 : decide ((244 : Int) < (L : Int)) = false := decide_eq_false (by omega)
          have t1' : decide (244 < L) = false := decide_eq_false h244
          have hl244 : L ≤ 244 := by omega
          clear h244
          have PO := putOk HC.out HT.out.o.n.ok HT.out.dk HT.out.m hu (by have := HL.out; omega) (by have := HTN.out; omega)
          have HGO := hide (ownc_put HT.out HYY.out hfr.out PO.z)
          obtain ⟨s2, hs2⟩ : ∃ s2, (cmD.cput s (clook (cmD.fn s)) l).1 = s2 := ⟨_, rfl⟩
          rw [hs2] at PO HGO
          have HGU2 : Hid (s2.guard = 0) := by rw [← hs2, DrvS.cput_guard]; exact HGU.out
          have HPT := hide (put_turn PO HTN.out H0.out H1.out)
          have HC2 := hide PO.c
          clear hs2 PO hu
          go_wp2_with fail
          refine HGO.out.mono ?_
          rintro e w3 ⟨v3, rfl, hT3, -, -⟩
          have HT3 := hide hT3
          clear hT3 HGO HT
          go_wp2
          go_roundw
          case rel => exact ⟨k + 1, j + 1, v3, s2, by omega, by omega, by omega, by go_num, by go_num, HT3.out, HC2.out, HPT.out.1, fun h => absurd h (by omega), fun _ => HPT.out.2, HGU2.out⟩
          case measure => simp [intOf]; omega
      · clear HBE HA HN
        go_upto_region 12 with fail
        go_cut [79] (fun x wc => x = .bool false ∧ ∃ v s, OwnC w wc p q c gd g v cmD s ∧ DrvS.Calm s ∧ InTurn (clook (cmD.fn s)) ∧ (clook (cmD.fn s)).turn ≤ 5 ∧ s.guard = 0)
        case first =>
          by_cases hk : k = 0
          · subst hk
            have PO := putOk (b := []) HC.out HT.out.o.n.ok HT.out.dk HT.out.m U8.nil (by simp) (by have := HTN.out; omega)
            have HGO := hide (ownc_put HT.out (By.nil _) (fun h => absurd rfl h) PO.z)
            obtain ⟨s2, hs2⟩ : ∃ s2, (cmD.cput s (clook (cmD.fn s)) []).1 = s2 := ⟨_, rfl⟩
            rw [hs2] at PO HGO
            have HGU2 : Hid (s2.guard = 0) := by rw [← hs2, DrvS.cput_guard]; exact HGU.out
            have HPT := hide (put_turn PO HTN.out H0.out H1.out)
            have HC2 := hide PO.c
            clear hs2 PO
            go_wp2_with fail
            refine HGO.out.mono ?_
            rintro e w3 ⟨v3, rfl, hT3, -, -⟩
            go_wp2_with fail
            go_meet
            exact ⟨rfl, v3, s2, hT3, HC2.out, HPT.out.2, by rw [HPT.out.1]; omega, HGU2.out⟩
          · have t1 : decide ((k : Int) = 0) = false := decide_eq_false (by omega)
            have t2 : ((k : Int) == 0) = false := by simp; omega
            have t3 : decide (k = 0) = false := decide_eq_false hk
            go_wp2_with fail
            go_meet
            exact ⟨rfl, v, s, HT.out, HC.out, H1.out (by omega), by rw [HTN.out]; omega, HGU.out⟩
        case rest =>
          clear HT HC HTN H0 H1 HGU hkj hk5 k0 hj j0 hl
          obtain ⟨rfl, v, s, hT, hC, hI, h5, hgu⟩ := hcut
          have HGU := hide hgu
          clear hgu
          obtain ⟨T, hTe⟩ : ∃ T, (clook (cmD.fn s)).turn = T := ⟨_, rfl⟩
          obtain ⟨b, hbe⟩ : ∃ b, (clook (cmD.fn s)).b = b := ⟨_, rfl⟩
          have hT1 := hI.t1
          have hon : (0 : Int) ≤ (clook (cmD.fn s)).on := by have := hI.on; omega
          obtain ⟨r, hr, hr1, hron⟩ : ∃ r : Nat, (T - 1).tmod 2 = (r : Int) ∧ r ≤ 1 ∧ (clook (cmD.fn s)).on = (r : Int) := by
            have h1 := hI.on
            rw [hTe] at hT1 h1
            refine ⟨(clook (cmD.fn s)).on.toNat, ?_, by omega, by omega⟩
            rw [Int.tmod_eq_emod_of_nonneg (by omega)]
            omega
          rw [hTe] at hT1 h5
          have HT := hide hT
          have HC := hide hC
          have HI := hide hI
          have HTE := hide hTe
          have HBE := hide hbe
          have HON := hide hon
          have HRON := hide hron
          have KG := ownc_get hT
          unfold CGetPost at KG
          rw [if_pos hon, hbe, decide_eq_true hon] at KG
          have HKG := hide KG
          clear hT hC hI hTe hbe hon hron KG
          go_wp2_with fail
          refine HKG.out.mono ?_
          rintro e w2 ⟨vg, rfl, hyg, hng, hFg⟩
          have HYG := hide hyg
          have HNG : Hid (∀ k, RowB vg k → k ≠ p ∧ k ≠ q ∧ k ≠ g) := fun k hk => by
            have h1 := hng k hk; have h2 := HT.out.o.n.ltp; have h3 := HT.out.o.n.ltq; have h4 := HT.out.t.lt
            omega
          have HT2 := hide (HT.out.frm hFg)
          obtain ⟨Ag, ng, cg, rfl⟩ := hyg.form
          clear hyg hng hFg HKG HT
          go_wp2_with fail
          refine (cturn_is HT2.out.t).mono ?_
          rintro e w' ⟨rfl, rfl⟩
          rw [HTE.out]
          obtain ⟨hr0, hr2⟩ : (0 : Int) ≤ (r : Int) ∧ (r : Int) ≤ 1 := by omega
          go_wp2_with fail
          have hX2 := HX.out.frm HT2.out.o.f (fun _ _ e => e)
          have KC : Hid (Calls Try.prog 20 #[.slice Aw m cw] w2 (CwPost w2 xs)) := by
            have := copyWords_own w2 Aw cw xs hX2.r HZ.out (by have := HM.out; omega)
            rwa [HM.out] at this
          clear hX2
          refine KC.out.mono ?_
          rintro e w3 ⟨A3, c3, rfl, hrow3, hF3⟩
          rw [HM.out] at hrow3 ⊢
          have HR3 := hide hrow3
          have HF3 := hide hF3
          have hsz3 := hF3.size
          clear hrow3 hF3 KC
          go_wp2_with (at_builtin; refine append_w rfl (.tmp 92) (.tmp 93) rfl w2.heap.size _ m 2 2 (ints .u32 xs) [1, 2] _ rfl rfl rfl (World.ownsRow.alloc HR3.out _) (rd_lit w3 (ints .u32 [1, 2]) _) (fun e => by cases e) (by omega) (by simp; omega) ?_; intro A4 c4 w4 hown4 hgrow4)
          have hF4 : Frm NoB w2 w4 := (HF3.out.alloc _).grown hgrow4 (fun gb hgb hlt => by
            have := (HR3.out.lt gb hgb).1
            omega)
          have hrow4 : w4.ownsRow w2.heap.size 49 1 (.slice A4 (m + 2 + 0) c4) (m + 2 + 0) (ints .u32 (othR xs 0)) := by
            have e : ints .u32 xs ++ ints .u32 [1, 2] = ints .u32 (othR xs 0) := by rw [← ints_append]; unfold othR othG; simp
            rw [← e]; exact hown4
          have HR4 := hide hrow4
          have HF4 := hide hF4
          clear hown4 hgrow4 hF4 hrow4 HR3 HF3 hsz3
          go_loopw [19] (fun x wr => OtRow w2 xs m x wr) (fun x _ => 64 - (match x with | .slice _ n _ => n | _ => 0))
          case atStart => exact ⟨0, A4, c4, rfl, by omega, HR4.out, HF4.out⟩
          case round =>
            clear HR4 HF4
            obtain ⟨j, A5, c5, rfl, hj64, hrow5, hF5⟩ := hrel
            obtain ⟨w5, rfl⟩ : ∃ w5 : World, w5 = wr := ⟨_, rfl⟩
            have HR5 := hide hrow5
            have HF5 := hide hF5
            have hsz5 := hF5.size
            clear hrow5 hF5
            by_cases hlt : m + 2 + j < 64
            · obtain ⟨L, hL⟩ : ∃ L, m + 2 + j = L := ⟨_, rfl⟩
              rw [hL] at HR5
              have hL64 : L < 64 := by omega
              have l1 : decide ((L : Int) < 64) = true := decide_eq_true (by omega)
              have l2 : decide (L < 64) = true := decide_eq_true hL64
              rw [hL]
              go_wp2_with (at_builtin; refine append_w rfl (.tmp 98) (.tmp 99) rfl w2.heap.size _ L 1 1 (ints .u32 (othR xs j)) [1] _ rfl rfl rfl (World.ownsRow.alloc HR5.out _) (rd_lit w5 (ints .u32 [1]) _) (fun e => by cases e) (by omega) (by simp; omega) ?_; intro A6 c6 w6 hown6 hgrow6)
              have hF6 : Frm NoB w2 w6 := (HF5.out.alloc _).grown hgrow6 (fun gb hgb hlt => by
                have := (HR5.out.lt gb hgb).1
                omega)
              have hrow6 : w6.ownsRow w2.heap.size 49 1 (.slice A6 (m + 2 + (j + 1)) c6) (m + 2 + (j + 1)) (ints .u32 (othR xs (j + 1))) := by
                have e : ints .u32 (othR xs j) ++ ints .u32 [1] = ints .u32 (othR xs (j + 1)) := by rw [← ints_append, othR_succ]
                rw [← e, show m + 2 + (j + 1) = L + 1 from by omega]; exact hown6
              have HR6 := hide hrow6
              have HF6 := hide hF6
              clear hown6 hgrow6 hF6 hrow6 HR5 HF5
              go_roundw
              case rel => exact ⟨j + 1, A6, c6, by rw [show m + 2 + (j + 1) = L + 1 from by omega], by omega, HR6.out, HF6.out⟩
              case measure => simp; omega
            · have hj : m + 2 + j = 64 := by omega
              rw [hj] at HR5 ⊢
              clear hlt hj64
              go_upto_if 101 with fail
              go_cut [19] (fun x wc => ∃ A c F, x = .slice A 64 c ∧ wc.ownsRow w2.heap.size 49 1 (.slice A 64 c) 64 (ints .u32 F) ∧ OthL T F ∧ Frm NoB w2 wc)
              case first =>
                cases el
                · go_wp2_with fail
                  go_meet
                  exact ⟨A5, c5, othR xs j, rfl, HR5.out, oth_plain HX.out.u (by have := HM.out; omega), HF5.out⟩
                · obtain ⟨gb, c', he, hgb, f0, ⟨y0, hy0⟩, s0⟩ := set_row HR5.out (k := 0) (by omega)
                  injection he with he1 he2 he3
                  subst he1 he3
                  obtain ⟨s0r, s0f⟩ := s0 (T - 1)
                  obtain ⟨g1, c1, he1, -, f1, ⟨y1, hy1⟩, s1⟩ := set_row s0r (k := 1) (by omega)
                  injection he1 with he1 he2 he3
                  injection he1 with he1
                  injection he1 with he1
                  subst he1 he3
                  obtain ⟨s1r, s1f⟩ := s1 3
                  obtain ⟨g2, c2, he1, -, f2, ⟨y2, hy2⟩, s2⟩ := set_row s1r (k := 63) (by omega)
                  injection he1 with he1 he2 he3
                  injection he1 with he1
                  injection he1 with he1
                  subst he1 he3
                  obtain ⟨s2r, s2f⟩ := s2 0
                  have HS2 := hide s2r
                  have hFF : Frm NoB w2 _ := ((HF5.out.then_ s0f (fun i hi e => by
                    have e : some gb = some i := e
                    injection e with e
                    omega)).then_ s1f (fun i hi e => by
                    have e : some gb = some i := e
                    injection e with e
                    omega)).then_ s2f (fun i hi e => by
                    have e : some gb = some i := e
                    injection e with e
                    omega)
                  have HFF := hide hFF
                  clear s0 s1 s2 s0r s0f s1r s1f s2r s2f hFF HR5 HF5
                  go_wp2_with fail
                  go_meet
                  exact ⟨_, _, _, rfl, HS2.out, oth_elder HX.out.u (by have := HM.out; omega) hT1 h5, HFF.out⟩
              case rest =>
                clear HR5 HF5 HM HZ HX
                obtain ⟨A6, c6, F, rfl, hrow6, hOF, hF6⟩ := hcut
                obtain ⟨w6, rfl⟩ : ∃ w6 : World, w6 = wc := ⟨_, rfl⟩
                obtain ⟨A7, c7, he7, hrd, -⟩ := Rd.of_own hrow6
                injection he7 with he1 he2 he3
                subst he1 he3
                have hT6 := HT2.out.frm hF6
                have HYG6 := hide (HYG.out.frm0 hF6)
                have HRW := hide (DrvS.rw_fn (sec := 2 - r) hT6.o.n.ok hT6.dk rfl hOF.len (by show 1 ≤ 2 - r; omega) (by show 2 - r < 1 + 2; omega) (by rw [HGU.out]; omega))
                have hsec : ((2 - r : Nat) : Int) = 2 - (r : Int) := by omega
                rw [hsec] at HRW
                have HCW := hide (calm_rewrite (sec := 2 - (r : Int)) (k := 0) (F := F) HC.out)
                have HLK : Hid (clook (cmD.fn (s.rewrite (2 - (r : Int)) 0 F)) = clook (cmD.fn s)) := oth_look HI.out (by rw [HTE.out]; exact hOF) (1 - r) (by rw [HRON.out]; omega) (fun i hi => by
                  rw [HRW.out.2 i hi, show 2 - r - cmD.first = 1 - r from by show 2 - r - 1 = _; omega])
                have HGO := hide (own_rw_d (2 - (r : Int)) 0 A6 c6 64 F hOF.len hT6.o hT6.dr hrd hOF.u (by rw [hOF.len]; decide))
                have HDK : Hid (cmD.Ok (s.rewrite (2 - (r : Int)) 0 F)) := hT6.dk.n' (by unfold NorS.rewrite; split <;> rfl)
                have hP := hT6.o.p0
                have hQ := hT6.o.q0
                obtain ⟨s2, hs2⟩ : ∃ s2, s.rewrite (2 - (r : Int)) 0 F = s2 := ⟨_, rfl⟩
                obtain ⟨E, hE⟩ : ∃ E, s.rewriteE (2 - (r : Int)) 0 F = E := ⟨_, rfl⟩
                have hE0 : E = 0 := by rw [← hE]; exact HRW.out.1
                subst hE0
                rw [hs2] at HCW HLK HGO HDK
                rw [hE] at HGO
                clear hE hs2 HRW hrow6 hOF hF6 hrd hT6 hsec HC HYG HT2
                go_wp2_with fail
                refine HGO.out.mono ?_
                rintro e w7 ⟨rfl, hO7, hD7, hF7⟩
                have HYG7 : Hid (By w7 (.slice Ag ng cg) b) := HYG6.out.frm hF7 (fun k hk e => by
                  have := HNG.out k hk
                  rcases e with e | e <;> omega)
                have HO7 := hide hO7
                have HD7 := hide hD7
                clear hO7 hD7 hF7 HGO HYG6
                go_wp2_with fail
                refine (ownc_open HO7.out HD7.out HDK.out rfl HCW.out.dn).mono ?_
                rintro e w8 ⟨gu, vu, rfl, hT8, -, -, hF8⟩
                have HT8 := hide hT8
                have HYG8 := hide (HYG7.out.frm0 hF8)
                have hTu : (clook (cmD.fn s2)).turn = T := by rw [HLK.out]; exact HTE.out
                have hBu : (clook (cmD.fn s2)).b = b := by rw [HLK.out]; exact HBE.out
                have hOn : 0 ≤ (clook (cmD.fn s2)).on := by rw [HLK.out]; exact HON.out
                have HTU := hide hTu
                have KG := ownc_get hT8
                unfold CGetPost at KG
                rw [if_pos hOn, hBu, decide_eq_true hOn] at KG
                have HKG := hide KG
                clear hT8 hF8 HO7 HD7 HYG7 hTu hBu hOn KG
                go_wp2_with fail
                refine HKG.out.mono ?_
                rintro e w9 ⟨vh, rfl, hyh, -, hFh⟩
                have HYH := hide hyh
                have HYG9 := hide (HYG8.out.frm0 hFh)
                have HT9 := hide (HT8.out.frm hFh)
                obtain ⟨Ah, nh, ch, rfl⟩ := hyh.form
                clear hyh hFh HKG HYG8 HT8
                go_wp2_with fail
                refine (cturn_is HT9.out.t).mono ?_
                rintro e w' ⟨rfl, rfl⟩
                rw [HTU.out]
                have e1 : (T != T) = false := by simp
                go_wp2_with fail
                refine (sameBytes_is HYH.out HYG9.out).mono ?_
                rintro e wa ⟨rfl, ma, rfl⟩
                rw [decide_eq_true rfl]
                have hqa : Frm NoB w9 (w9.drewN ma) := (Frm.refl NoB w9).drewN ma
                have HTa := hide (HT9.out.frm hqa)
                have hYa : By (w9.drewN ma) (.slice An N cn) ys := HY.out.frm0 HTa.out.o.f
                have hfr : ys ≠ [] → ∀ k, RowB (.slice An N cn) k → ¬ Tri p q gu k := fun hne k hk e => by
                  have h3 := HY.out.row_lt hne hk
                  have h6 := HTa.out.g0
                  rcases e with e | e | e <;> omega
                have PO := putOk (b := ys) HCW.out HTa.out.o.n.ok HTa.out.dk HTa.out.m hYa.u (by have := HNN.out; omega) (by rw [HTU.out]; omega)
                have HGO := hide (ownc_put HTa.out hYa hfr PO.z)
                obtain ⟨s3, hs3⟩ : ∃ s3, (cmD.cput s2 (clook (cmD.fn s2)) ys).1 = s3 := ⟨_, rfl⟩
                rw [hs3] at PO HGO
                have HL3 : Hid (clook (cmD.fn s3) = ⟨nextC (clook (cmD.fn s2)).on, T + 1, ys⟩) := by have := PO.l; rwa [HTU.out] at this
                have HC3 := hide PO.c
                clear hs3 PO hqa hYa hfr e1 HT9 HYH HYG9
                go_wp2_with fail
                refine HGO.out.mono ?_
                rintro e wb ⟨vb, rfl, hTb, -, -⟩
                have HTb := hide hTb
                clear hTb HGO HTa
                go_wp2_with fail
                refine (ownc_open HTb.out.o HTb.out.dr HTb.out.dk HTb.out.m HC3.out.dn).mono ?_
                rintro e wd ⟨gv, vv, rfl, hTd, -, -, -⟩
                have HTd := hide hTd
                have hOn : 0 ≤ (clook (cmD.fn s3)).on := by rw [HL3.out]; dsimp only; omega
                have hBu : (clook (cmD.fn s3)).b = ys := by rw [HL3.out]
                have HTU3 : Hid ((clook (cmD.fn s3)).turn = T + 1) := by show (clook (cmD.fn s3)).turn = T + 1; rw [HL3.out]
                have KG := ownc_get hTd
                unfold CGetPost at KG
                rw [if_pos hOn, hBu, decide_eq_true hOn] at KG
                have HKG := hide KG
                clear hTd hBu hOn KG HTb
                go_wp2_with fail
                refine HKG.out.mono ?_
                rintro e we ⟨vk, rfl, hyk, -, hFk⟩
                have HYK := hide hyk
                have HTe := hide (HTd.out.frm hFk)
                have HYe : Hid (By we (.slice An N cn) ys) := HY.out.frm0 HTe.out.o.f
                obtain ⟨Ak, nk, ck, rfl⟩ := hyk.form
                clear hyk hFk HKG HTd
                go_wp2_with fail
                refine (cturn_is HTe.out.t).mono ?_
                rintro e w' ⟨rfl, rfl⟩
                rw [HTU3.out]
                have e1 : (T + 1 == T + 1) = true := by simp
                go_wp2_with fail
                refine (sameBytes_is HYK.out HYe.out).mono ?_
                rintro e wf ⟨rfl, mf, rfl⟩
                rw [decide_eq_true rfl]
                have HFf : Hid (Frm NoB w (we.drewN mf)) := HTe.out.o.f.drewN mf
                clear HTe HYK HYe e1
                go_wp2_with fail
                refine (awake_is _).mono ?_
                rintro e wg ⟨rfl, hFg⟩
                go_wp2
                go_ret
                exact ⟨rfl, HFf.out.trans hFg⟩
end Go.Proofs.Ytiapoalkkhpmlaa
