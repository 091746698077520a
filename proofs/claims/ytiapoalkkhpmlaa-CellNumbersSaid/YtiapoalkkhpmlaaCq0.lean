/-
  Texts of this claim, joined: CoP, OpenG, CelArg, CoW, CelF, CnP, CelLife.
-/
import Derived.Test.YtiapoalkkhpmlaaCelJ8
/-
  Plain: what another hand lays in the sector that is not the cell's.
-/
namespace Go.Proofs.Ytiapoalkkhpmlaa
/-- the cell is where its turn tells -/
structure InTurn (cs : CelS) : Prop where
  t1 : 1 ≤ cs.turn
  on : cs.on = (cs.turn - 1) % 2
theorem InTurn.next {cs : CelS} (h : InTurn cs) (b : List Int) : InTurn ⟨nextC cs.on, cs.turn + 1, b⟩ := by
  have h1 := h.t1
  have h2 := h.on
  refine ⟨by show 1 ≤ cs.turn + 1; omega, ?_⟩
  show ((nextC cs.on : Nat) : Int) = (cs.turn + 1 - 1) % 2
  unfold nextC
  split <;> omega
theorem InTurn.first (b : List Int) : InTurn ⟨nextC (-1), 0 + 1, b⟩ := ⟨by show (1 : Int) ≤ 0 + 1; decide, by show ((nextC (-1) : Nat) : Int) = (0 + 1 - 1) % 2; decide⟩
/-- words that tell no cell of the next turn -/
structure OthL (t : Int) (F : List Int) : Prop where
  len : F.length = 64
  u : U32 F
  no : F.getD 63 0 ≠ 0 ∨ (F.getD 0 0 = t - 1)
theorem oth_look {f f' : Nat → Int} {F : List Int} (h : InTurn (clook f)) (hF : OthL (clook f).turn F) (io : Nat) (hio : (io : Int) = 1 - (clook f).on)
    (hf : ∀ i, i < 128 → f' i = if 64 * io ≤ i ∧ i < 64 * io + 64 then F.getD (i - 64 * io) 0 else f i) : clook f' = clook f := by
  have ht := h.t1
  have hon := h.on
  rcases clook_cases f with ⟨e, w0, w1⟩ | ⟨e, w0, w1⟩ | ⟨e, w0, w1⟩
  · rw [e] at ht; simp at ht
  · have hio : io = 1 := by rw [e] at hio; dsimp only at hio; omega
    subst hio
    rw [e] at hF ⊢
    have a0 : ∀ i, i < 64 → f' (0 + i) = f (0 + i) := fun i hi => by rw [hf _ (by omega), if_neg (by omega)]
    have a1 : ∀ i, i < 64 → f' (64 + i) = F.getD i 0 := fun i hi => by rw [hf _ (by omega), if_pos (by omega)]; congr 1; omega
    have hw0 : whl f' 0 = true := by rw [whl_congr a0]; exact w0
    have h00 : f' 0 = f 0 := a0 0 (by omega)
    have hn : ¬ (whl f' 64 = true ∧ f' 64 = f' 0 + 1) := fun ⟨k1, k2⟩ => by
      have k3 := (whl_true k1).1
      rw [a1 63 (by omega)] at k3
      have k4 := a1 0 (by omega)
      rw [Nat.add_zero] at k4
      have := hF.no
      dsimp only at this
      rw [k4, h00] at k2
      omega
    unfold clook
    rw [if_pos hw0, if_neg hn, h00, secB_congr a0 (whl_true w0).2.2]
  · have hio : io = 0 := by rw [e] at hio; dsimp only at hio; omega
    subst hio
    rw [e] at hF ⊢
    have a0 : ∀ i, i < 64 → f' (0 + i) = F.getD i 0 := fun i hi => by rw [hf _ (by omega), if_pos (by omega)]; congr 1; omega
    have a1 : ∀ i, i < 64 → f' (64 + i) = f (64 + i) := fun i hi => by rw [hf _ (by omega), if_neg (by omega)]
    have hw1 : whl f' 64 = true := by rw [whl_congr a1]; exact w0
    have h64 : f' 64 = f 64 := a1 0 (by omega)
    unfold clook
    rw [h64, secB_congr a1 (whl_true w0).2.2]
    by_cases hw0 : whl f' 0 = true
    · have k3 := (whl_true hw0).1
      rw [a0 63 (by omega)] at k3
      have k4 := a0 0 (by omega)
      rw [Nat.add_zero] at k4
      have := hF.no
      dsimp only at this
      rw [if_pos hw0, if_pos ⟨hw1, by rw [k4]; omega⟩]
    · rw [if_neg hw0, if_pos hw1]
/-- the words that the law lays -/
def othG (xs : List Int) : List Int := xs ++ [1, 2]
def othR (xs : List Int) (j : Nat) : List Int := othG xs ++ List.replicate j 1
theorem othR_length (xs : List Int) (j : Nat) : (othR xs j).length = xs.length + 2 + j := by simp [othR, othG]; omega
theorem othR_u {xs : List Int} (h : U32 xs) (j : Nat) : U32 (othR xs j) := fun x hx => by
  unfold othR othG at hx
  rcases List.mem_append.1 hx with hx | hx
  · rcases List.mem_append.1 hx with hx | hx
    · exact h x hx
    · simp at hx; omega
  · have := (List.mem_replicate.1 hx).2; omega
theorem othR_succ (xs : List Int) (j : Nat) : othR xs j ++ [1] = othR xs (j + 1) := by
  unfold othR; rw [List.append_assoc, List.replicate_succ']
theorem othR_last {xs : List Int} {j : Nat} (h : xs.length + 2 + j = 64) : (othR xs j).getD 63 0 ≠ 0 := by
  unfold othR
  by_cases hj : j = 0
  · subst hj
    have : 63 = xs.length + 1 := by omega
    rw [this, List.replicate_zero, List.append_nil]
    unfold othG
    simp [List.getD_eq_getElem?_getD]
  · have hl : (othG xs).length = 64 - j := by simp [othG]; omega
    rw [List.getD_eq_getElem?_getD, List.getElem?_append_right (by omega), List.getElem?_replicate_of_lt (by omega)]
    decide
theorem oth_plain {t : Int} {xs : List Int} {j : Nat} (hu : U32 xs) (h : xs.length + 2 + j = 64) : OthL t (othR xs j) :=
  ⟨by rw [othR_length]; omega, othR_u hu j, .inl (othR_last h)⟩
theorem oth_elder {t : Int} {xs : List Int} {j : Nat} (hu : U32 xs) (h : xs.length + 2 + j = 64) (h1 : 1 ≤ t) (h2 : t ≤ 5) : OthL t ((((othR xs j).set 0 (t - 1)).set 1 3).set 63 0) := by
  have hl := othR_length xs j
  refine ⟨by simp; omega, (((othR_u hu j).set 0 (by omega)).set 1 (by omega)).set 63 (by omega), .inr ?_⟩
  simp [List.getD_eq_getElem?_getD, show 0 < (othR xs j).length from by omega]
theorem DrvS.rw_fn {d : DrvS} {s : NorS} {F : List Int} (hs : s.Ok) (hd : d.Ok s) (hm : d.many = 2) (sec : Nat) (hF : F.length = 64) (h1 : d.first ≤ sec) (h2 : sec < d.first + 2) (hg : s.guard ≤ sec) :
    s.rewriteE sec 0 F = 0 ∧ ∀ i, i < 128 → d.fn (s.rewrite sec 0 F) i = if 64 * (sec - d.first) ≤ i ∧ i < 64 * (sec - d.first) + 64 then F.getD (i - 64 * (sec - d.first)) 0 else d.fn s i := by
  have hn := hd.n
  rw [hm] at hn
  have he : s.rewriteE sec 0 F = 0 := by
    unfold NorS.rewriteE
    rw [if_pos (by unfold NorS.there; simp only [Bool.and_eq_true, decide_eq_true_eq]; omega), if_neg (by omega)]
  refine ⟨he, fun i hi => ?_⟩
  unfold NorS.rewrite
  rw [if_pos he]
  unfold DrvS.fn NorS.wd DrvS.base
  show (NorS.lay s.l (NorS.at_ sec 0) F).getD (d.first * 64 + i) 0 = _
  have hl := hs.len
  have hat : NorS.at_ (sec : Int) 0 = sec * 64 := by unfold NorS.at_; simp
  rw [hat, lay_at _ _ _ _ (by omega)]
  by_cases hc : 64 * (sec - d.first) ≤ i ∧ i < 64 * (sec - d.first) + 64
  · rw [if_pos (by omega), if_pos hc]
    congr 1
    omega
  · rw [if_neg (by omega), if_neg hc]
theorem DrvS.wr_guard (d : DrvS) (s : NorS) (a : Int) (l : List Int) : (d.wr s a l).guard = s.guard := by
  unfold DrvS.wr
  split
  · split
    · rfl
    · exact (NorS.prog_same l s _).2.1
  · rfl
theorem DrvS.er_guard (d : DrvS) (s : NorS) (k : Int) : (d.er s k).guard = s.guard := by
  unfold DrvS.er NorS.erase
  split
  · split
    · split
      · exact NorS.step_guard s
      · exact NorS.step_guard s
    · rfl
  · rfl
theorem DrvS.cput_guard {d : DrvS} {s : NorS} {c : CelS} {b : List Int} : (d.cput s c b).1.guard = s.guard := by
  unfold DrvS.cput
  split
  · rfl
  split
  · rfl
  unfold DrvS.cputI
  split
  · split
    · rw [DrvS.wr_guard, DrvS.wr_guard, DrvS.er_guard]
    · rw [DrvS.wr_guard, DrvS.er_guard]
  · rw [DrvS.er_guard]
theorem calm_rewrite {s : NorS} {sec k : Int} {F : List Int} (h : DrvS.Calm s) : DrvS.Calm (s.rewrite sec k F) := by
  unfold NorS.rewrite
  split
  · exact ⟨h.1, h.2⟩
  · exact h
end Go.Proofs.Ytiapoalkkhpmlaa

/-
  An argument that is a slice, opened: whatever its elements are.
-/
namespace Go.Proofs.Ytiapoalkkhpmlaa
open Go.ChangeShapes Go.WideShapes Go.ChangeAt Go.RowKit Go.Deep
section
variable {H : Type} {enc : TypeId × Value → H} {W : World}
/-- elements in a row, each of k cells -/
def ElemsAt (W : World) (A : Option Addr) (k : Nat) {α : Type} (R : List Value → α → Prop) (os : List α) : Prop :=
  ∀ i (hi : i < os.length), ∃ b x cs, A = some ⟨b, x, none⟩ ∧ b < W.heap.size ∧ R cs (os[i]'hi) ∧ ∀ j u, cs[j]? = some u → W.cell? ⟨b, x + i * k + j, none⟩ = some u
theorem open_list {α : Type} {P : Program} {t e : TypeId} {k fuel : Nat} {v : Value} {x : DataW H × List MemPlace} (dflt : α) (R : List Value → α → Prop) (ht : P.underlying t = some (.slice e)) (hk : P.cellsOf e = k) (hk0 : 0 < k)
    (hel : ∀ fuel cs x, DataW.trod enc P W 0 (fun _ => true) true fuel e cs = some x → ∃ o, R cs o) (hlen : ∀ cs o, R cs o → cs.length = k)
    (h : DataW.trod enc P W 0 (fun _ => true) true fuel t [v] = some x) :
    ∃ (A : Option Addr) (c : Nat) (os : List α), v = .slice A os.length c ∧ ElemsAt W A k R os ∧ os.length ≤ c ∧ c ≤ maxLen := by
  rcases open_slice ht h with ⟨hcs, _⟩ | ⟨a, len, cap, m, n, D, Pl, hcs, _, hl, hm, hmm, _, hi⟩
  · simp at hcs
    exact ⟨none, 0, [], by simp [hcs], fun i hi => by simp at hi, Nat.le_refl _, Nat.zero_le _⟩
  · simp only [if_true] at hmm
    subst hmm
    have hex : ∀ i, i < m → ∃ (o : α) (cs : List Value), R cs o ∧ ∀ j u, cs[j]? = some u → W.cell? ((a.add (i * k)).add j) = some u := fun i him => by
      obtain ⟨cs', hcell, ht⟩ := hi i him
      rw [hk] at hcell
      obtain ⟨o, ho⟩ := hel _ _ _ ht
      refine ⟨o, cs', ho, fun j u hju => ?_⟩
      obtain ⟨_, hlen', hat⟩ := World.cells?_some hcell
      have hj : j < k := by
        have := (List.getElem?_eq_some_iff.1 hju).1
        rw [hlen _ _ ho] at this
        exact this
      rw [hat j hj, hju]
    classical
    let F : Nat → α := fun i => if him : i < m then (hex i him).choose else dflt
    refine ⟨some a, m, (List.range len).map F, ?_, fun i hi' => ?_, by simpa using hl, hm⟩
    · simp at hcs
      simp [hcs]
    · have hil : i < len := by simpa using hi'
      have him : i < m := by omega
      have e : ((List.range len).map F)[i]'hi' = (hex i him).choose := by
        simp [F, him]
      obtain ⟨cs, ho, hcells⟩ := (hex i him).choose_spec
      have hgo : ∀ j (hj : j < m), ∃ b y, a = ⟨b, y, none⟩ := fun j hj => by
        obtain ⟨cs', hr, hc0⟩ := (hex 0 (by omega)).choose_spec
        have hl0 := hlen _ _ hr
        have h1 := hc0 0 _ (List.getElem?_eq_getElem (by omega))
        rw [show (a.add (0 * k)).add 0 = a from by simp [Addr.add]] at h1
        exact spot_none h1
      obtain ⟨b, y, rfl⟩ := hgo i him
      have hadd : ∀ j, ((⟨b, y, none⟩ : Addr).add (i * k)).add j = ⟨b, y + i * k + j, none⟩ := fun j => by rw [addr_add, addr_add]
      have hl0 := hlen _ _ ho
      have h0 := hcells 0 _ (List.getElem?_eq_getElem (by omega))
      rw [hadd] at h0
      refine ⟨b, y, cs, rfl, World.block_lt_of_cell? W _ h0, by rw [e]; exact ho, fun j u hu => ?_⟩
      have := hcells j u hu
      rwa [hadd] at this
theorem open_threeG {P : Program} {base : Nat} {spare : Nat → Bool} {held : Bool} {t : TypeId} {f0 f1 f2 : Field} {fuel : Nat} {cs : List Value} {x : DataW H × List MemPlace} (ht : P.underlying t = some (.struct #[f0, f1, f2])) (hone : oneCellFields P #[f0, f1, f2] = true) (hC : P.cellsOf t = 3)
    (h : DataW.trod enc P W base spare held fuel t cs = some x) :
    ∃ (v0 v1 v2 : Value) (n : Nat) (y0 y1 y2 : DataW H × List MemPlace), cs = [v0, v1, v2] ∧ DataW.trod enc P W base spare held n f0.type [v0] = some y0 ∧ DataW.trod enc P W base spare held n f1.type [v1] = some y1 ∧ DataW.trod enc P W base spare held n f2.type [v2] = some y2 := by
  obtain ⟨xs, n, _, _, hl, hx, hf⟩ := DataW.trod_struct ht h
  rw [hC] at hl
  match cs, hl with
  | [v0, v1, v2], _ =>
    match xs, hx with
    | [y0, y1, y2], _ =>
      obtain ⟨o0, k0⟩ := hone_of hone 0 f0 rfl
      obtain ⟨o1, k1⟩ := hone_of hone 1 f1 rfl
      obtain ⟨o2, k2⟩ := hone_of hone 2 f2 rfl
      exact ⟨v0, v1, v2, n, y0, y1, y2, rfl, by simpa [o0, k0] using hf 0 f0 rfl, by simpa [o1, k1] using hf 1 f1 rfl, by simpa [o2, k2] using hf 2 f2 rfl⟩
end
end Go.Proofs.Ytiapoalkkhpmlaa

/-
  Lists of bytes as an argument; what Get tells is memory of one's own; bytes that are turned.
-/
namespace Go.Proofs.Ytiapoalkkhpmlaa
open Go.RowKit
section
variable {w : World} {v : Value} {xs : List Int}
def CloneOwn (w : World) (xs : List Int) (e : Ending) (w' : World) : Prop := ∃ v', e = .returned v' ∧ Ob w' w.heap.size v' xs ∧ Frm NoB w w'
set_option maxRecDepth 100000 in
theorem clone_own (hy : By w v xs) (hl : xs.length ≤ 16777216) :
    Calls Try.prog 45 #[v] w (CloneOwn w xs) := by
  have HY := hide hy
  obtain ⟨A, c, rfl, hr, hz, hlc, hc, hu⟩ := hy
  have q := fun (w : World) (a : Option Addr) (n c n' c' : Nat) => Lib.run_eql_slice_nil (P := Try.prog) w 28 5 a n c n' c' Try.underlying28
  cases A with
  | none =>
    have h0 : xs.length = 0 := by have := hz rfl; omega
    have e0 : xs = [] := List.eq_nil_of_length_eq_zero h0
    subst e0
    clear hr hz hlc hc hu
    go_enter Try.func45, Try.ntmps45
    go_wp2
    go_ret
    exact ⟨_, rfl, Ob.nil _ _, Frm.refl _ _⟩
  | some a =>
    clear hr hz hlc hc hu
    have hf : Frm NoB w (w.alloc (.cells #[] 5)) := (Frm.refl NoB w).alloc _
    have HF := hide hf
    have ho : Ob (w.alloc (.cells #[] 5)) w.heap.size (.slice (some ⟨w.heap.size, 0, none⟩) 0 0) [] := ⟨World.ownsRow_made w #[] 0 (Nat.le_refl _) (Nat.zero_le _) rfl, U8.nil⟩
    have HO := hide ho
    clear hf ho
    go_enter Try.func45, Try.ntmps45
    go_wp2_with (at_builtin; refine append_bytes rfl (.tmp 5) (.tmp 6) rfl w.heap.size _ _ [] xs rfl rfl HO.out (HY.out.frm0 HF.out) (by simpa using hl) (by simp) ?_; intro v' w' hg)
    go_ret
    refine ⟨v', rfl, hg.o, ?_⟩
    exact (HF.out).then_ hg.f (fun i hi e => by
      have e : some w.heap.size = some i := e
      injection e with e
      omega)
/-- what Get tells: memory of its own -/
def CGetOwn (w : World) (c : CelS) (e : Ending) (w' : World) : Prop := ∃ v', e = .returned (.tuple #[v', .bool (decide (0 ≤ c.on))]) ∧ Ob w' w.heap.size v' (if 0 ≤ c.on then c.b else []) ∧ Frm NoB w w'
theorem cget_own {g gd : Nat} {c : CelS} {over : Bool} (h : CelAt w g gd c v over) (hl : c.b.length ≤ 16777216) : Calls Try.prog 12 #[.pointer (some ⟨g, 0, none⟩)] w (CGetOwn w c) := by
  have K := hide (cnone_is h)
  have m1 := h.c1
  have m3 := h.c3
  have KC := hide (clone_own h.y hl)
  clear h hl
  by_cases hon : 0 ≤ c.on
  · have P : Hid (∀ v' w', Ob w' w.heap.size v' c.b → Frm NoB w w' → CGetOwn w c (.returned (.tuple #[v', .bool true])) w') := fun v' w' a cc => ⟨v', by rw [decide_eq_true hon], by rw [if_pos hon]; exact a, cc⟩
    have t1 : decide (c.on < 0) = false := decide_eq_false (by omega)
    clear hon
    go_enter Try.func12, Try.ntmps12
    go_wp2_with fail
    refine K.out.mono ?_
    rintro e w' ⟨rfl, rfl⟩
    go_wp2_with fail
    refine KC.out.mono ?_
    rintro e w' ⟨v', rfl, h1, h3⟩
    have H := hide (P.out _ _ h1 h3)
    clear h1 h3 P
    go_wp2
    go_ret2
    exact H.out
  · have P : Hid (CGetOwn w c (.returned (.tuple #[.slice none 0 0, .bool false])) w) := ⟨_, by rw [decide_eq_false hon], by rw [if_neg hon]; exact Ob.nil _ _, Frm.refl _ _⟩
    have t1 : decide (c.on < 0) = true := decide_eq_true (by omega)
    clear hon
    go_enter Try.func12, Try.ntmps12
    go_wp2_with fail
    refine K.out.mono ?_
    rintro e w' ⟨rfl, rfl⟩
    go_wp2
    go_ret2
    exact P.out
end
/-- lists of bytes, as an argument -/
structure BysAt (w : World) (B : Nat) (A : Option Addr) (ls : List (List Int)) : Prop where
  at_ : ∀ i (h : i < ls.length), ∃ b x v, A = some ⟨b, x, none⟩ ∧ b < B ∧ By w v (ls[i]'h) ∧ ((ls[i]'h) ≠ [] → ∀ k, RowB v k → k < B) ∧ w.cell? ⟨b, x + i, none⟩ = some v
theorem BysAt.frm {S : Nat → Prop} {w w' : World} {B : Nat} {A : Option Addr} {ls : List (List Int)} (h : BysAt w B A ls) (hf : Frm S w w') (hs : ∀ k, k < B → ¬ S k) : BysAt w' B A ls := by
  refine ⟨fun i hi => ?_⟩
  obtain ⟨b, x, v, rfl, hb, h0, h1, h2⟩ := h.at_ i hi
  exact ⟨b, x, v, rfl, hb, h0.frm1 hf (fun e k hk => hs k (h1 e k hk)), h1, (hf.cell (World.block_lt_of_cell? w _ h2) (hs b hb)).trans h2⟩
section
open Go.ChangeShapes Go.WideShapes Go.ChangeAt Go.Deep
variable {H : Type} {enc : TypeId × Value → H} {W : World}
theorem bys_cells : Try.prog.cellsOf 28 = 1 := by kernel_rfl
theorem open_bys {fuel : Nat} {v : Value} {x : DataW H × List MemPlace} (h : DataW.trod enc Try.prog W 0 (fun _ => true) true fuel 22 [v] = some x) :
    ∃ (A : Option Addr) (c : Nat) (ls : List (List Int)), v = .slice A ls.length c ∧ BysAt W W.heap.size A ls ∧ (ls.length : Int) ≤ 9223372036854775807 := by
  obtain ⟨A, c, ls, rfl, hE, hl, hm⟩ := open_list (α := List Int) [] (fun cs l => ∃ v, cs = [v] ∧ By W v l ∧ ∀ k, RowB v k → k < W.heap.size ∨ l = []) Try.underlying22 bys_cells (by omega)
    (fun fuel cs x hx => by
      have hlen : ∃ v, cs = [v] := by
        rcases open_slice Try.underlying28 hx with ⟨hcs, _⟩ | ⟨a, len, cap, m, n, D, Pl, hcs, _⟩
        · exact ⟨_, hcs⟩
        · exact ⟨_, hcs⟩
      obtain ⟨v, rfl⟩ := hlen
      obtain ⟨xs, h1, h2⟩ := open_bytes Try.underlying28 Try.underlying5 uint8_one hx
      exact ⟨xs, v, rfl, h1, h2⟩)
    (fun cs o ⟨v, hv, _⟩ => by rw [hv]; rfl) h
  have hc := cap_i64 hm
  refine ⟨A, c, ls, rfl, ⟨fun i hi => ?_⟩, by omega⟩
  obtain ⟨b, x, cs, rfl, hb, ⟨v, rfl, hy, hk⟩, hcell⟩ := hE i hi
  refine ⟨b, x, v, rfl, hb, hy, fun e k h => ?_, ?_⟩
  · rcases hk k h with h | h
    · exact h
    · exact absurd h e
  · have := hcell 0 v rfl
    rwa [Nat.mul_one, Nat.add_zero] at this
theorem open_arg_bys {A0 : Option Addr} {len0 cap0 : Nat} {d : DataW H} {p : List MemPlace} (h : DataW.Trod enc Try.prog W 0 (fun _ => true) true 22 (.slice A0 len0 cap0) d p) :
    ∃ (A : Option Addr) (c : Nat) (ls : List (List Int)), Value.slice A0 len0 cap0 = .slice A ls.length c ∧ BysAt W W.heap.size A ls ∧ (ls.length : Int) ≤ 9223372036854775807 := by
  obtain ⟨fuel, hf⟩ := h
  exact open_bys hf
end
theorem By.row_lt {w : World} {v : Value} {xs : List Int} (h : By w v xs) (hne : xs ≠ []) {k : Nat} (hk : RowB v k) : k < w.heap.size := by
  obtain ⟨A, c, rfl, hr, -⟩ := h
  obtain ⟨a, rfl, hlt⟩ := hr.lt (ints_ne hne)
  have hk : some a.block = some k := hk
  injection hk with hk
  omega
/-- other blocks turn -/
theorem OwnC.far {S : Nat → Prop} {w0 w w' : World} {p q c gd g : Nat} {v : Value} {d : DrvS} {s : NorS} (h : OwnC w0 w p q c gd g v d s) (hf : Frm S w w') (h0 : ∀ k, S k → w0.heap.size ≤ k) (hS : ∀ k, S k → k ≠ p ∧ k ≠ q ∧ k ≠ gd ∧ k ≠ g ∧ ((clook (d.fn s)).b ≠ [] → ¬ RowB v k)) : OwnC w0 w' p q c gd g v d s :=
  ⟨⟨h.o.n.frm hf (fun e => (hS _ e).1 rfl) (fun e => (hS _ e).2.1 rfl), h.o.f.then_ hf (fun i hi e => by have := h0 i e; omega), h.o.p0, h.o.q0⟩,
    h.dr.frm hf (fun e => (hS _ e).2.2.1 rfl), h.t.frm hf (fun e => (hS _ e).2.2.2.1 rfl) (fun hb k hk e => (hS _ e).2.2.2.2 hb hk), h.g0, h.vn, h.dk, h.m⟩
/-- what was made behind the cell turns -/
theorem OwnC.newer {S : Nat → Prop} {w0 wz w w' : World} {p q c gd g : Nat} {v : Value} {d : DrvS} {s : NorS} (hz : OwnC w0 wz p q c gd g v d s) (h : OwnC w0 w p q c gd g v d s) (hf : Frm S w w') (hS : ∀ k, S k → wz.heap.size ≤ k) : OwnC w0 w' p q c gd g v d s := by
  have h1 := hz.o.n.ltp
  have h2 := hz.o.n.ltq
  have h3 := hz.t.lt
  have h4 := hz.dr.lt
  have h5 := hz.o.f.size
  exact h.far hf (fun k hk => by have := hS k hk; omega) (fun k hk => by
    have hk := hS k hk
    exact ⟨by omega, by omega, by omega, by omega, fun hb hr => by have := hz.t.y.row_lt hb hr; omega⟩)
/-- bytes of a row of one's own are turned, one by one -/
def TurnRel (w3 : World) (B : Nat) (v : Value) (n : Nat) (x : Value) (wr : World) : Prop :=
  ∃ (k : Nat) (ys : List Int), k ≤ n ∧ x = .int .i64 k ∧ wr.ownsRow B 5 1 v n (ints .u8 ys) ∧ Frm (RowB v) w3 wr
theorem turn_row {w : World} {B n : Nat} {v : Value} {ys : List Int} (h : w.ownsRow B 5 1 v n (ints .u8 ys)) {k : Nat} (hk : k < n) :
    ∃ g c y, v = .slice (some ⟨g, 0, none⟩) n c ∧ w.cell? ⟨g, k, none⟩ = some (.int .u8 y) ∧ w.frozen? ⟨g, k, none⟩ = false ∧
      ∀ z, (w.setCell ⟨g, k, none⟩ (.int .u8 z)).ownsRow B 5 1 v n (ints .u8 (ys.set k z)) ∧ Frm (RowB v) w (w.setCell ⟨g, k, none⟩ (.int .u8 z)) := by
  have hl : ys.length = n := by have := h.1; rw [ints_length] at this; omega
  obtain ⟨g, c, rfl⟩ : ∃ g c, v = .slice (some ⟨g, 0, none⟩) n c := by
    rcases h.2 with ⟨e, h0⟩ | ⟨g, cap, cur, e, _⟩
    · have := h.1; rw [h0] at this; simp at this; omega
    · exact ⟨g, cap, e⟩
  refine ⟨g, c, ys.getD k 0, rfl, ?_, h.frozenAt k, fun z => ⟨?_, Frm.setCell (S := RowB (.slice (some ⟨g, 0, none⟩) n c)) (Frm.refl _ w) (p := ⟨g, k, none⟩) (.inl rfl) _⟩⟩
  · rw [h.cellAt k (by omega), ints_get (by omega)]
  · have := h.stored k (.int .u8 z)
    have e : (ints .u8 ys).set k (.int .u8 z) = ints .u8 (ys.set k z) := by unfold ints; rw [List.map_set]
    rw [e] at this
    exact this.1
end Go.Proofs.Ytiapoalkkhpmlaa

/-
  Words behind words of one's own; CopyWords; another hand's words in a flash of a call's own.
-/
namespace Go.Proofs.Ytiapoalkkhpmlaa
open Go.RowKit
set_option maxRecDepth 100000 in
theorem append_w {w : World} {ops : Array Oper} {rest : List Oper} {o : Oper} {a : Act} {Q : Exit → Act → World → Prop} (hgd : o.guard = none) (s x : Operand)
    (ho : o.op = .call { callee := .builtin .append, args := #[s, x], argTypes := #[34, 34] })
    (base : Nat) (v : Value) (n m c : Nat) (xs : List Value) (ys : List Int) (A : Option Addr) (hm : ys.length = m) (hs : a.eval s = v) (hx : a.eval x = .slice A m c) (hown : w.ownsRow base 49 1 v n xs) (hr : Rd w A (ints .u32 ys)) (hz : A = none → c = 0)
    (hl : n + m ≤ 16777216) (hbase : base ≤ w.heap.size)
    (h : ∀ A' c' w', w'.ownsRow base 49 1 (.slice A' (n + m) c') (n + m) (xs ++ ints .u32 ys) → w.grownBy w' v.ownBlock → wpList Try.prog ops Q rest (a.put o.dst (.slice A' (n + m) c')) w') :
    wpList Try.prog ops Q (o :: rest) a w := by
  subst hm
  obtain ⟨i0, hi0, hz0, hz1, hz2⟩ := info_parts uint32_info
  cases A with
  | none =>
    obtain rfl := hz rfl
    have e : ys = [] := by
      by_cases e : ys = []
      · exact e
      · obtain ⟨b, o, h1, _⟩ := hr (ints_ne e); cases h1
    subst e
    refine wpList_append_own_none hgd s x 34 ho base 49 i0 1 Try.underlying34 hi0 v _ _ hs hown hx ?_
    obtain ⟨A', c', rfl, -⟩ := Rd.of_own hown
    exact h A' c' w (by simpa [ints] using hown) ⟨rfl, rfl, rfl, Nat.le_refl _, fun _ _ _ => rfl⟩
  | some ad =>
    refine wpList_append_own_at w hgd s x 34 ho base 49 i0 _ 1 4 Try.underlying34 hi0 hz0 hz1 hz2 rfl (by omega) v n xs hs hown ad ys.length c (ints .u32 ys) hx (by rw [ints_length, Nat.mul_one])
      (fun j u hu => by
        obtain ⟨b, o1, e, hc⟩ := hr (fun e => by rw [e] at hu; cases hu)
        injection e with e
        subst e
        rw [addr_add]
        exact hc j u hu)
      (fun u hu => by
        unfold ints at hu
        obtain ⟨y, _, rfl⟩ := List.mem_map.1 hu
        rfl) (by simp only [maxLen]; omega) (by omega) hbase (fun v' w' k1 k2 _ k3 => ?_)
    obtain ⟨A', c', rfl, -⟩ := Rd.of_own k1
    exact h A' c' w' k1 k2
def CwPost (w : World) (xs : List Int) (e : Ending) (w' : World) : Prop := ∃ A' c', e = .returned (.slice A' xs.length c') ∧ w'.ownsRow w.heap.size 49 1 (.slice A' xs.length c') xs.length (ints .u32 xs) ∧ Frm NoB w w'
set_option maxRecDepth 100000 in
theorem copyWords_own (w : World) (A : Option Addr) (cp : Nat) (xs : List Int) (hx : Rd w A (ints .u32 xs)) (hz : A = none → cp = 0) (hl : xs.length ≤ 16777216) :
    Calls Try.prog 20 #[.slice A xs.length cp] w (CwPost w xs) := by
  have HX := hide hx
  have HZ := hide hz
  clear hx hz
  go_enter Try.func20, Try.ntmps20
  go_wp2_with (at_builtin; refine append_w rfl (.tmp 4) (.tmp 5) rfl w.heap.size (.slice none 0 0) 0 _ cp [] xs A rfl rfl rfl (World.ownsRow_nil w _ _ _) HX.out HZ.out (by omega) (Nat.le_refl _) ?_; intro A' c' w' hown hgrow)
  go_ret
  rw [List.nil_append, Nat.zero_add] at hown
  exact ⟨A', c', rfl, hown, (Frm.refl NoB w).grown hgrow (fun g hg _ => by simp [Value.ownBlock] at hg)⟩
/-- one word of a row of one's own is laid -/
theorem set_row {w : World} {B n : Nat} {v : Value} {ys : List Int} (h : w.ownsRow B 49 1 v n (ints .u32 ys)) {k : Nat} (hk : k < n) :
    ∃ g c, v = .slice (some ⟨g, 0, none⟩) n c ∧ B ≤ g ∧ w.frozen? ⟨g, k, none⟩ = false ∧ (∃ y, w.cell? ⟨g, k, none⟩ = some y) ∧
      ∀ z, (w.setCell ⟨g, k, none⟩ (.int .u32 z)).ownsRow B 49 1 v n (ints .u32 (ys.set k z)) ∧ Frm (RowB v) w (w.setCell ⟨g, k, none⟩ (.int .u32 z)) := by
  have hl : ys.length = n := by have := h.1; rw [ints_length] at this; omega
  obtain ⟨g, c, rfl⟩ : ∃ g c, v = .slice (some ⟨g, 0, none⟩) n c := by
    rcases h.2 with ⟨e, h0⟩ | ⟨g, cap, cur, e, _⟩
    · have := h.1; rw [h0] at this; simp at this; omega
    · exact ⟨g, cap, e⟩
  refine ⟨g, c, rfl, (h.lt g rfl).1, h.frozenAt k, ⟨.int .u32 (ys.getD k 0), by rw [h.cellAt k (by omega), ints_get (by omega)]⟩, fun z => ⟨?_, Frm.setCell (S := RowB (.slice (some ⟨g, 0, none⟩) n c)) (Frm.refl _ w) (p := ⟨g, k, none⟩) (.inl rfl) _⟩⟩
  have := h.stored k (.int .u32 z)
  have e : (ints .u32 ys).set k (.int .u32 z) = ints .u32 (ys.set k z) := by unfold ints; rw [List.map_set]
  rw [e] at this
  exact this.1
section
variable {w0 w : World} {p q c gd : Nat} {d : DrvS} {s : NorS}
theorem own_rw_d (sec k : Int) (A : Option Addr) (cp n : Nat) (xs : List Int) (hn : xs.length = n) (h : Own w0 w p q c s) (hd : DrvAt w gd p d) (hx : Rd w A (ints .u32 xs)) (ux : U32 xs) (hm : (xs.length : Int) ≤ 9223372036854775807) :
    Calls Try.prog 21 #[.pointer (some ⟨p, 0, none⟩), .int .i64 sec, .int .i64 k, .slice A n cp] w fun e w' => e = .returned (.int .i64 (s.rewriteE sec k xs)) ∧ Own w0 w' p q c (s.rewrite sec k xs) ∧ DrvAt w' gd p d ∧ Frm (Two p q) w w' := by
  have hne := hd.ne h.n
  refine (rewrite_at sec k A cp n xs hn h.n hx ux hm).mono ?_
  rintro e w' ⟨rfl, hN, hf⟩
  exact ⟨rfl, h.step hN hf, hd.frm hf (fun e => e.elim hne.1 hne.2), hf⟩
end
end Go.Proofs.Ytiapoalkkhpmlaa

/-
  Plain: a put on an armed flash, and a crash behind it.
-/
namespace Go.Proofs.Ytiapoalkkhpmlaa
/-- of one sector nothing is told that was not told; the other is as it was -/
theorem clook_drop {f g : Nat → Int} (hfar : ∀ k, k < 128 → ¬ (64 * nextC (clook f).on ≤ k ∧ k < 64 * nextC (clook f).on + 64) → g k = f k)
    (hs : whl g (64 * nextC (clook f).on) = true → whl f (64 * nextC (clook f).on) = true ∧ g (64 * nextC (clook f).on) = f (64 * nextC (clook f).on)) : clook g = clook f := by
  rcases clook_cases f with ⟨e, w0, w1⟩ | ⟨e, w0, w1⟩ | ⟨e, w0, w1⟩
  · rw [e] at hfar hs ⊢
    have hn : nextC (-1) = 0 := rfl
    simp only [hn, Nat.mul_zero] at hfar hs
    have q1 : whl g 64 = false := by rw [whl_congr (f := f) (fun i _ => hfar _ (by omega) (by omega))]; exact w1
    have q0 : ¬ whl g 0 = true := fun h => by rw [(hs h).1] at w0; cases w0
    unfold clook
    rw [if_neg q0, if_neg (by rw [q1]; simp)]
  · rw [e] at hfar hs ⊢
    have hn : nextC 0 = 1 := rfl
    simp only [hn, Nat.mul_one] at hfar hs
    have a0 : ∀ i, i < 64 → g (0 + i) = f (0 + i) := fun i hi => hfar _ (by omega) (by omega)
    have q0 : whl g 0 = true := by rw [whl_congr a0]; exact w0
    unfold clook
    rw [if_pos q0, if_neg (fun h => w1 ⟨(hs h.1).1, by rw [← (hs h.1).2, h.2, hfar 0 (by omega) (by omega)]⟩), secB_congr a0 (whl_true w0).2.2, hfar 0 (by omega) (by omega)]
  · rw [e] at hfar hs ⊢
    have hn : nextC 1 = 0 := rfl
    simp only [hn, Nat.mul_zero] at hfar hs
    have a1 : ∀ i, i < 64 → g (64 + i) = f (64 + i) := fun i hi => hfar _ (by omega) (by omega)
    have q1 : whl g 64 = true := by rw [whl_congr a1]; exact w0
    have h64 : g 64 = f 64 := hfar 64 (by omega) (by omega)
    unfold clook
    by_cases h0 : whl g 0 = true
    · rw [if_pos h0, if_pos ⟨q1, by rw [h64, (hs h0).2]; exact w1 (hs h0).1⟩, secB_congr a1 (whl_true w0).2.2, h64]
    · rw [if_neg h0, if_pos q1, secB_congr a1 (whl_true w0).2.2, h64]
namespace DrvS
variable {d : DrvS} {s : NorS}
/-- a put that is not OK: behind a crash all is as it was -/
theorem cfall (hdn : s.down = false) (hh : s.half = -1) (hs : s.Ok) (hd : d.Ok s) (hm : d.many = 2) {b : List Int} (hb : U8 b) (hl : b.length ≤ 244) (ht : (clook (d.fn s)).turn < 2147483648)
    (hE : (d.cput s (clook (d.fn s)) b).2 ≠ 0) (ks : List Bool) : clook (d.fn ((d.cput s (clook (d.fn s)) b).1.crash ks)) = clook (d.fn s) := by
  have ht0 := (clook_turn (f := d.fn s) (fun i => (fn_u32 hs i).1)).1
  have hpl := putL_length (clook (d.fn s)).turn b
  have hpu := putL_u32 ht0 ht hb hl
  have hi := nextC_lt (clook (d.fn s)).on
  unfold cput at hE ⊢
  rw [if_neg (by omega), if_neg (by omega)] at hE ⊢
  have drop := fun (g : Nat → Int) => clook_drop (f := d.fn s) (g := g)
  generalize putL (clook (d.fn s)).turn b = l at hE hpl hpu ⊢
  generalize nextC (clook (d.fn s)).on = i at hE hi drop ⊢
  -- words that are laid into a sector that was erased; its last word is not
  have laid : ∀ g : Nat → Int, (∃ D, D ≤ l.length ∧ ∀ k, g k = if 64 * i ≤ k ∧ k < 64 * i + D then l.getD (k - 64 * i) 0 else onesTo (d.fn s) (64 * i) 64 k) → clook g = clook (d.fn s) := fun g hg => by
    obtain ⟨D, hD, hg⟩ := hg
    refine drop g (fun k _ hk => ?_) (fun h => ?_)
    · rw [hg, if_neg (by omega)]
      unfold onesTo
      rw [if_neg hk]
    · have h63 := (whl_true h).1
      rw [hg, if_neg (by omega)] at h63
      unfold onesTo at h63
      rw [if_pos (by omega)] at h63
      cases h63
  unfold cputI at hE ⊢
  by_cases h1 : d.erE s i = 0
  · rw [if_pos h1] at hE ⊢
    obtain ⟨-, -, e3, e4, e5, -, e7⟩ := er_ok hs hd h1
    have hs1 := er_Ok (d := d) hs (i : Int)
    have hd1 : d.Ok (d.er s i) := hd.n' e4
    generalize d.er s i = t at hE e3 e4 e5 e7 hs1 hd1 ⊢
    have hset : d.sets t (64 * i) l = false := fall_sets (fun j hj => by
      have e : t.wd (d.base + 64 * i + j) = 4294967295 := by
        rw [Nat.add_assoc, base_wd, e7]
        unfold onesTo; rw [if_pos (by omega)]
      rw [e]
      have := hpu.get j
      exact wand_full this.1 this.2)
    obtain ⟨g1, g2, g3, g4, g5⟩ := wr_go e3 hs1 hd1 (k := 64 * i) (x := l) (by omega) hset
    have hdl := NorS.doneN_le t l.length
    by_cases h2 : d.wrE t ((64 * i : Nat) : Int) l = 0
    · rw [if_pos h2] at hE ⊢
      have hw := wr_ok hs1 hd1 h2
      have hs2 := wr_Ok (d := d) hs1 ((64 * i : Nat) : Int) l
      have hd2 : d.Ok (d.wr t ((64 * i : Nat) : Int) l) := hd1.n' g4
      have hf2 := hw.2.2.2.2.2
      have hdn2 := hw.2.2.1
      have hh2 := g3
      generalize d.wr t ((64 * i : Nat) : Int) l = u at hE hs2 hd2 hf2 hdn2 hh2 ⊢
      have hset2 : d.sets u (64 * i + 63) [0] = false := fall_sets (fun j hj => by
        have : j = 0 := by simp only [List.length_cons, List.length_nil] at hj; omega
        subst this
        unfold wand; simp)
      obtain ⟨k1, k2, k3, k4, k5⟩ := wr_go hdn2 hs2 hd2 (k := 64 * i + 63) (x := [0]) (by simp only [List.length_cons, List.length_nil]; omega) hset2
      have hdl2 := NorS.doneN_le u [(0 : Int)].length
      simp only [List.length_cons, List.length_nil, Nat.zero_add] at hdl2 k1 k5
      have hD0 : u.doneN 1 = 0 := by
        by_cases e : u.doneN 1 = 1
        · rw [if_pos e] at k1
          exact absurd k1 hE
        · omega
      simp only
      rw [crash_half (by rw [k3, hh2, e5]; exact hh)]
      refine laid _ ⟨l.length, Nat.le_refl _, fun k => ?_⟩
      show (d.wr u ((64 * i + 63 : Nat) : Int) [0]).wd (d.base + k) = _
      rw [k5, hD0, if_neg (by omega), base_wd, hf2]
      unfold laidF
      rw [e7 k]
    · rw [if_neg h2] at hE ⊢
      simp only
      rw [crash_half (by rw [g3, e5]; exact hh)]
      refine laid _ ⟨t.doneN l.length, hdl, fun k => ?_⟩
      show (d.wr t ((64 * i : Nat) : Int) l).wd (d.base + k) = _
      rw [g5]
      by_cases e : 64 * i ≤ k ∧ k < 64 * i + t.doneN l.length
      · rw [if_pos e, if_pos (by omega), show d.base + k - (d.base + 64 * i) = k - 64 * i from by omega]
      · rw [if_neg e, if_neg (by omega), base_wd, e7]
  · rw [if_neg h1] at hE ⊢
    simp only
    have hn := hd.n
    have hM : 0 ≤ (i : Int) ∧ (i : Int) < d.many := by omega
    have hup : s.up ((d.first : Int) + i) 0 0 = 0 := by
      unfold NorS.up NorS.there
      rw [if_neg (by rw [hdn]; simp), if_pos]
      simp only [Bool.and_eq_true, decide_eq_true_eq]
      omega
    have hst : ¬ s.steps = true := fun h => h1 (by
      unfold erE NorS.eraseE
      rw [if_pos hM, if_pos hup, if_pos h])
    have hEr : d.er s i = { s.step with half := (d.first : Int) + i } := by
      unfold er NorS.erase
      rw [if_pos hM, if_pos hup, if_neg hst]
    have hfn : d.fn (d.er s i) = d.fn s := by
      funext k
      rw [hEr]
      show s.step.l.getD _ 0 = s.l.getD _ 0
      rw [NorS.step_l]
    have hbu := crash_burn (d := d) (s := d.er s i) (ks := ks) (i := i) (by rw [hEr])
    rw [hfn] at hbu
    generalize d.fn ((d.er s i).crash ks) = g at hbu
    refine drop g (fun k _ hk => ?_) (fun h => ?_)
    · rcases hbu k with h | ⟨h1, h2, -⟩
      · exact h
      · exact absurd ⟨h1, h2⟩ hk
    · obtain ⟨a, b', c⟩ := whl_true h
      have q63 : g (64 * i + 63) = d.fn s (64 * i + 63) := by
        rcases hbu (64 * i + 63) with h | ⟨-, -, h⟩
        · exact h
        · omega
      have q0 : g (64 * i) = d.fn s (64 * i) := by
        rcases hbu (64 * i) with h | ⟨-, -, h⟩
        · exact h
        · omega
      have q1 : g (64 * i + 1) = d.fn s (64 * i + 1) := by
        rcases hbu (64 * i + 1) with h | ⟨-, -, h⟩
        · exact h
        · omega
      exact ⟨decide_eq_true ⟨by omega, by omega, by omega⟩, q0⟩
end DrvS
end Go.Proofs.Ytiapoalkkhpmlaa

/-
  Plain: the flash of the fixed examples.
-/
namespace Go.Proofs.Ytiapoalkkhpmlaa
def gr : List Int := (List.range 245).map fun i : Nat => (i : Int)
theorem gr_length : gr.length = 245 := by simp [gr]
theorem gr_u8 : U8 gr := fun x hx => by
  unfold gr at hx
  obtain ⟨i, hi, rfl⟩ := List.mem_map.1 hx
  have := List.mem_range.1 hi
  omega
def grs : List Int := gr.take 244
theorem grs_length : grs.length = 244 := by unfold grs; rw [List.length_take, gr_length]; rfl
theorem grs_u8 : U8 grs := fun x hx => gr_u8 x (List.mem_of_mem_take hx)
def cn1 : NorS := (cmD.cput cm0 (clook (cmD.fn cm0)) grs).1
def cn2 : NorS := (cmD.cput cn1 (clook (cmD.fn cn1)) [120]).1
theorem cn1_is : PutOk cmD cm0 grs ⟨0, 1, grs⟩ cn1 := by
  have h := putOk (d := cmD) (b := grs) cm0_calm cm0_ok cmD_ok rfl grs_u8 (by rw [grs_length]; decide) (by rw [cm0_look]; decide)
  rw [cm0_look] at h
  exact h
theorem cn2_is : PutOk cmD cn1 [120] ⟨1, 2, [120]⟩ cn2 := by
  have h : PutOk cmD cn1 [120] ⟨nextC (clook (cmD.fn cn1)).on, (clook (cmD.fn cn1)).turn + 1, [120]⟩ cn2 := putOk (d := cmD) (b := [120]) cn1_is.c cn1_is.ok (cmD_okn cn1_is.n) rfl (u8_lit (by decide)) (by decide) (by rw [cn1_is.l]; decide)
  rw [cn1_is.l] at h
  exact h
theorem cn2_n : cn2.n = 3 := cn2_is.n.trans cn1_is.n
theorem cn2_half : cn2.half = -1 := cn2_is.h.trans cn1_is.h
theorem cn1_guard : cn1.guard = 0 := by unfold cn1; rw [DrvS.cput_guard]; rfl
theorem cn2_guard : cn2.guard = 0 := by unfold cn2; rw [DrvS.cput_guard]; exact cn1_guard
theorem burn_nil (base : Nat) : ∀ (m i : Nat) (l : List Int), NorS.burn [] base m i l = l
  | 0, _, _ => rfl
  | m + 1, i, l => by
    show NorS.burn [] base m (i + 1) (if ([] : List Bool).getD i false = true then _ else l) = l
    rw [if_neg (by simp), burn_nil base m]
theorem arm_put {d : DrvS} {s : NorS} {cs : CelS} {b : List Int} (hC : DrvS.Calm s) (hh : s.half = -1) (hd : d.Ok s) (hm : d.many = 2) (hl : b.length ≤ 244) (ht : cs.turn < 2147483648) :
    (d.cput (s.arms 0) cs b).2 = 40 ∧ (d.cput (s.arms 0) cs b).1.crash [] = s ∧ (d.cput (s.arms 0) cs b).1.down = true := by
  have hn := hd.n
  rw [hm] at hn
  have hi := nextC_lt cs.on
  have ha : s.arms 0 = { s with arm := 0 } := by
    unfold NorS.arms
    rw [if_neg (by rw [hC.dn]; simp)]
    rfl
  rw [ha]
  have hup : ({ s with arm := 0 } : NorS).up ((d.first : Int) + (nextC cs.on : Nat)) 0 0 = 0 := by
    unfold NorS.up
    rw [if_neg (by show ¬ s.down = true; rw [hC.dn]; simp), if_pos (by unfold NorS.there; simp only [Bool.and_eq_true, decide_eq_true_eq]; omega)]
  have hst : ({ s with arm := 0 } : NorS).steps = false := rfl
  have hE : d.erE { s with arm := 0 } (nextC cs.on : Nat) = 40 := by
    unfold DrvS.erE NorS.eraseE
    rw [if_pos (by omega), if_pos hup, hst]
    rfl
  have hS : d.er { s with arm := 0 } (nextC cs.on : Nat) = { s with arm := -1, down := true, half := (d.first : Int) + (nextC cs.on : Nat) } := by
    unfold DrvS.er NorS.erase
    rw [if_pos (by omega), if_pos hup, hst]
    rfl
  unfold DrvS.cput
  rw [if_neg (by omega), if_neg (by omega)]
  unfold DrvS.cputI
  rw [if_neg (by rw [hE]; decide), hS, hE]
  refine ⟨rfl, ?_, rfl⟩
  unfold NorS.crash
  dsimp only
  rw [burn_nil]
  have h1 := hC.dn
  have h2 := hC.ar
  cases s
  simp at hh h1 h2 ⊢
  exact ⟨h2.symm, h1, hh.symm⟩
def RwP (s : NorS) (sec k : Nat) (x : Int) : Prop := s.rewriteE sec k [x] = 0 ∧ (∀ j, (s.rewrite sec k [x]).wd j = if j = sec * 64 + k then x else s.wd j) ∧ (s.rewrite sec k [x]).n = s.n ∧ (s.rewrite sec k [x]).guard = 0 ∧ (s.rewrite sec k [x]).down = s.down
theorem rw_wd {s : NorS} (hs : s.Ok) (sec k : Nat) (x : Int) (h1 : sec < s.n) (h2 : k < 64) (hg : s.guard = 0) : RwP s sec k x := by
  have he : s.rewriteE sec k [x] = 0 := by
    unfold NorS.rewriteE
    rw [if_pos (by unfold NorS.there; simp only [Bool.and_eq_true, decide_eq_true_eq, List.length_cons, List.length_nil]; omega), if_neg (by omega)]
  refine ⟨he, fun j => ?_, ?_, ?_, ?_⟩
  · unfold NorS.rewrite
    rw [if_pos he]
    unfold NorS.wd
    have hl := hs.len
    have hat : NorS.at_ (sec : Int) (k : Int) = sec * 64 + k := by unfold NorS.at_; simp
    show (NorS.lay s.l (NorS.at_ sec k) [x]).getD j 0 = _
    rw [hat, lay_at _ _ _ _ (by simp only [List.length_cons, List.length_nil]; omega)]
    simp only [List.length_cons, List.length_nil]
    by_cases hj : j = sec * 64 + k
    · subst hj
      rw [if_pos (by omega), if_pos rfl, Nat.sub_self]; rfl
    · rw [if_neg (by omega), if_neg hj]
  · unfold NorS.rewrite; rw [if_pos he]
  · unfold NorS.rewrite; rw [if_pos he]; exact hg
  · unfold NorS.rewrite; rw [if_pos he]
def cn6 : NorS := cn2.rewrite (2 : Nat) (0 : Nat) [9]
def cn7 : NorS := cn6.rewrite (2 : Nat) (0 : Nat) [2147483648]
def cn8 : NorS := cn7.rewrite (1 : Nat) (63 : Nat) [1]
theorem rw_ok {s : NorS} (hs : s.Ok) (sec k : Int) {xs : List Int} (hx : U32 xs) : (s.rewrite sec k xs).Ok := by
  unfold NorS.rewrite
  split
  · exact ⟨by show (NorS.lay s.l _ xs).length = _; rw [lay_length']; exact hs.len, hs.n1, hs.n2, hs.g0, hs.g1, hs.a0, hs.a1, hs.h0, hs.h1, NorS.lay_u32 xs hx _ _ hs.u⟩
  · exact hs
theorem cn6_r : RwP cn2 2 0 9 := rw_wd (s := cn2) cn2_is.ok 2 0 9 (by rw [cn2_n]; decide) (by decide) cn2_guard
theorem cn6_ok : cn6.Ok := rw_ok cn2_is.ok _ _ (fun x hx => by simp at hx; omega)
theorem cn6_n : cn6.n = 3 := cn6_r.2.2.1.trans cn2_n
theorem cn7_r : RwP cn6 2 0 2147483648 := rw_wd (s := cn6) cn6_ok 2 0 2147483648 (by rw [cn6_n]; decide) (by decide) cn6_r.2.2.2.1
theorem cn7_ok : cn7.Ok := rw_ok cn6_ok _ _ (fun x hx => by simp at hx; omega)
theorem cn7_n : cn7.n = 3 := cn7_r.2.2.1.trans cn6_n
theorem cn8_r : RwP cn7 1 63 1 := rw_wd (s := cn7) cn7_ok 1 63 1 (by rw [cn7_n]; decide) (by decide) cn7_r.2.2.2.1
theorem cn8_ok : cn8.Ok := rw_ok cn7_ok _ _ (fun x hx => by simp at hx; omega)
theorem cn8_n : cn8.n = 3 := cn8_r.2.2.1.trans cn7_n
theorem cn6_fn (i : Nat) : cmD.fn cn6 i = if i = 64 then 9 else cmD.fn cn2 i := by
  have h := cn6_r.2.1 (64 + i)
  show cn6.wd (64 + i) = if i = 64 then 9 else cn2.wd (64 + i)
  unfold cn6
  rw [h]
  by_cases hi : i = 64
  · rw [if_pos (by omega), if_pos hi]
  · rw [if_neg (by omega), if_neg hi]
theorem cn8_fn (i : Nat) : cmD.fn cn8 i = if i = 63 then 1 else if i = 64 then 2147483648 else cmD.fn cn2 i := by
  have h := cn8_r.2.1 (64 + i)
  have h7 := cn7_r.2.1 (64 + i)
  have h6 := cn6_r.2.1 (64 + i)
  show cn8.wd (64 + i) = if i = 63 then 1 else if i = 64 then 2147483648 else cn2.wd (64 + i)
  unfold cn8
  rw [h]
  by_cases hi : i = 63
  · rw [if_pos (by omega), if_pos hi]
  · rw [if_neg (by omega), if_neg hi]
    unfold cn7
    rw [h7]
    by_cases hj : i = 64
    · rw [if_pos (by omega), if_pos hj]
    · rw [if_neg (by omega), if_neg hj]
      unfold cn6
      rw [h6, if_neg (by omega)]
theorem cn1_sec : whl (cmD.fn cn1) 0 = true ∧ cmD.fn cn1 0 = 1 ∧ secB (cmD.fn cn1) 0 = grs := by
  have hl := cn1_is.l
  rcases clook_cases (cmD.fn cn1) with ⟨e, w0, w1⟩ | ⟨e, w0, w1⟩ | ⟨e, w0, w1⟩
  · rw [e] at hl; injection hl with h1 h2 h3; omega
  · rw [e] at hl; injection hl with h1 h2 h3; exact ⟨w0, h2, h3⟩
  · rw [e] at hl; injection hl with h1 h2 h3; omega
theorem cn2_sec : whl (cmD.fn cn2) 64 = true ∧ cmD.fn cn2 64 = 2 := by
  have hl := cn2_is.l
  rcases clook_cases (cmD.fn cn2) with ⟨e, w0, w1⟩ | ⟨e, w0, w1⟩ | ⟨e, w0, w1⟩
  · rw [e] at hl; injection hl with h1 h2 h3; omega
  · rw [e] at hl; injection hl with h1 h2 h3; omega
  · rw [e] at hl; injection hl with h1 h2 h3; exact ⟨w0, h2⟩
theorem cn2_low (i : Nat) (h : i < 64) : cmD.fn cn2 i = cmD.fn cn1 i := by
  rw [cn2_is.f, cn1_is.l]
  show laidF (laidF (onesTo (cmD.fn cn1) 64 64) 64 _) 127 [0] i = _
  unfold laidF onesTo
  rw [if_neg (by omega), if_neg (by omega), if_neg (by omega)]
theorem cn6_look : clook (cmD.fn cn6) = ⟨0, 1, grs⟩ := by
  obtain ⟨h1, h2, h3⟩ := cn1_sec
  have a0 : ∀ i, i < 64 → cmD.fn cn6 (0 + i) = cmD.fn cn1 (0 + i) := fun i hi => by rw [cn6_fn, if_neg (by omega), cn2_low _ (by omega)]
  have e0 : cmD.fn cn6 0 = 1 := by rw [← h2]; exact a0 0 (by omega)
  have e1 : cmD.fn cn6 64 = 9 := by rw [cn6_fn, if_pos rfl]
  unfold clook
  rw [if_pos (by rw [whl_congr a0]; exact h1), if_neg (fun h => by have := h.2; omega), e0, secB_congr a0 (whl_true h1).2.2, h3]
theorem cn8_look : ∃ b, clook (cmD.fn cn8) = ⟨1, 2147483648, b⟩ := by
  obtain ⟨h1, h2⟩ := cn2_sec
  obtain ⟨k1, k2, k3⟩ := whl_true h1
  have e63 : cmD.fn cn8 63 = 1 := by rw [cn8_fn, if_pos rfl]
  have e64 : cmD.fn cn8 64 = 2147483648 := by rw [cn8_fn, if_neg (by decide), if_pos rfl]
  have e65 : cmD.fn cn8 65 = cmD.fn cn2 65 := by rw [cn8_fn, if_neg (by decide), if_neg (by decide)]
  have e127 : cmD.fn cn8 127 = cmD.fn cn2 127 := by rw [cn8_fn, if_neg (by decide), if_neg (by decide)]
  have q0 : ¬ whl (cmD.fn cn8) 0 = true := fun h => by
    have h5 : cmD.fn cn8 63 = 0 := (whl_true h).1
    rw [e63] at h5; cases h5
  have q1 : whl (cmD.fn cn8) 64 = true := by
    unfold whl
    exact decide_eq_true ⟨e127.trans k1, by rw [e64]; decide, by show cmD.fn cn8 65 ≤ 244; rw [e65]; exact k3⟩
  refine ⟨secB (cmD.fn cn8) 64, ?_⟩
  unfold clook
  rw [if_neg q0, if_pos q1, e64]
theorem cn8_look' : (clook (cmD.fn cn8)).turn = 2147483648 := by obtain ⟨b, h⟩ := cn8_look; rw [h]
end Go.Proofs.Ytiapoalkkhpmlaa

/-
  Lives as an argument; a cell of a call's own: Arm, Put whatever comes, Crash.
-/
namespace Go.Proofs.Ytiapoalkkhpmlaa
open Go.RowKit
structure LifeS where
  l : List (List Int)
  arm : Int
  keeps : List Bool
structure LifeIs (w : World) (B : Nat) (o : LifeS) (AL : Option Addr) (cL : Nat) (AK : Option Addr) (cK : Nat) : Prop where
  bl : BysAt w B AL o.l
  rk : Rd w AK (bools o.keeps)
  bk : o.keeps ≠ [] → ∀ a, AK = some a → a.block < B
  a0 : 0 ≤ o.arm
  a1 : o.arm < 256
  ll : (o.l.length : Int) ≤ 9223372036854775807
  kl : (o.keeps.length : Int) ≤ 9223372036854775807
theorem LifeIs.frm {S : Nat → Prop} {w w' : World} {B : Nat} {o : LifeS} {AL AK : Option Addr} {cL cK : Nat} (h : LifeIs w B o AL cL AK cK) (hf : Frm S w w') (hs : ∀ k, k < B → ¬ S k) : LifeIs w' B o AL cL AK cK :=
  ⟨h.bl.frm hf hs, by
    by_cases e : o.keeps = []
    · rw [e]; exact Rd.nil _ _
    · exact h.rk.frm hf (fun a ha => hs _ (h.bk e a ha)), h.bk, h.a0, h.a1, h.ll, h.kl⟩
structure LivesAt (w : World) (B : Nat) (A : Option Addr) (fs : List LifeS) : Prop where
  at_ : ∀ i (h : i < fs.length), ∃ b x AL cL AK cK, A = some ⟨b, x, none⟩ ∧ b < B ∧ LifeIs w B (fs[i]'h) AL cL AK cK ∧
    w.cell? ⟨b, x + i * 3, none⟩ = some (.slice AL (fs[i]'h).l.length cL) ∧ w.cell? ⟨b, x + i * 3 + 1, none⟩ = some (.int .u8 (fs[i]'h).arm) ∧ w.cell? ⟨b, x + i * 3 + 2, none⟩ = some (.slice AK (fs[i]'h).keeps.length cK)
theorem LivesAt.frm {S : Nat → Prop} {w w' : World} {B : Nat} {A : Option Addr} {fs : List LifeS} (h : LivesAt w B A fs) (hf : Frm S w w') (hs : ∀ k, k < B → ¬ S k) : LivesAt w' B A fs := by
  refine ⟨fun i hi => ?_⟩
  obtain ⟨b, x, AL, cL, AK, cK, rfl, hb, h0, h1, h2, h3⟩ := h.at_ i hi
  have hc : ∀ {n : Nat} {v : Value}, w.cell? ⟨b, n, none⟩ = some v → w'.cell? ⟨b, n, none⟩ = some v := fun {n v} hv => by
    rw [hf.cell (World.block_lt_of_cell? w _ hv) (show ¬ S b from hs b hb)]; exact hv
  exact ⟨b, x, AL, cL, AK, cK, rfl, hb, h0.frm hf hs, hc h1, hc h2, hc h3⟩
section
open Go.ChangeShapes Go.WideShapes Go.ChangeAt Go.Deep
variable {H : Type} {enc : TypeId × Value → H} {W : World}
theorem life_cells : Try.prog.cellsOf 59 = 3 := by kernel_rfl
theorem life_one : ∃ f0 f1 f2, Try.prog.underlying 59 = some (.struct #[f0, f1, f2]) ∧ oneCellFields Try.prog #[f0, f1, f2] = true ∧ f0.type = 22 ∧ f1.type = 5 ∧ f2.type = 57 :=
  ⟨_, _, _, Try.underlying59, by kernel_rfl, by kernel_rfl, by kernel_rfl, by kernel_rfl⟩
def LifeR (W : World) (cs : List Value) (o : LifeS) : Prop := ∃ AL cL AK cK, cs = [.slice AL o.l.length cL, .int .u8 o.arm, .slice AK o.keeps.length cK] ∧ LifeIs W W.heap.size o AL cL AK cK
theorem open_life {fuel : Nat} {cs : List Value} {x : DataW H × List MemPlace} (h : DataW.trod enc Try.prog W 0 (fun _ => true) true fuel 59 cs = some x) : ∃ o, LifeR W cs o := by
  obtain ⟨f0, f1, f2, hu, hone, t0, t1, t2⟩ := life_one
  obtain ⟨v0, v1, v2, n, y0, y1, y2, rfl, h0, h1, h2⟩ := open_threeG hu hone life_cells h
  rw [t0] at h0; rw [t1] at h1; rw [t2] at h2
  obtain ⟨AL, cL, ls, rfl, hbl, hll⟩ := open_bys h0
  obtain ⟨s, rfl, ws⟩ := open_one_int Try.underlying5 h1
  obtain ⟨AK, cK, ks, rfl, rk, lk, km⟩ := open_brow Try.underlying57 Try.underlying4 bool_one h2
  have bs := bounds_u8 ws
  have hc2 := cap_i64 km
  exact ⟨⟨ls, s, ks⟩, AL, cL, AK, cK, rfl, ⟨hbl, rk, fun hne => rk.below (bools_ne hne), by show 0 ≤ s; omega, by show s < _; omega, hll, by show (ks.length : Int) ≤ _; omega⟩⟩
theorem open_lives {A0 : Option Addr} {len0 cap0 : Nat} {d : DataW H} {p : List MemPlace} (h : DataW.Trod enc Try.prog W 0 (fun _ => true) true 52 (.slice A0 len0 cap0) d p) :
    ∃ (A : Option Addr) (c : Nat) (ops : List LifeS), Value.slice A0 len0 cap0 = .slice A ops.length c ∧ LivesAt W W.heap.size A ops ∧ (ops.length : Int) ≤ 9223372036854775807 := by
  obtain ⟨fuel, hf⟩ := h
  obtain ⟨A, c, os, e, hE, hl, hm⟩ := open_list (α := LifeS) ⟨[], 0, []⟩ (LifeR W) Try.underlying52 life_cells (by omega) (fun fuel cs x hx => open_life hx) (fun cs o ⟨_, _, _, _, hv, _⟩ => by rw [hv]; rfl) hf
  have hc := cap_i64 hm
  refine ⟨A, c, os, e, ⟨fun i hi => ?_⟩, by omega⟩
  obtain ⟨b, x, cs, rfl, hb, ⟨AL, cL, AK, cK, rfl, ho⟩, hcell⟩ := hE i hi
  exact ⟨b, x, AL, cL, AK, cK, rfl, hb, ho, hcell 0 _ rfl, hcell 1 _ rfl, hcell 2 _ rfl⟩
end
section
variable {w0 w w' : World} {p q c gd g : Nat} {v vx : Value} {d : DrvS} {s : NorS} {b : List Int}
theorem arms7_n (k : Int) : (s.arms k).n = s.n := by unfold NorS.arms; split <;> rfl
theorem ownc_arm (k : Int) (h : OwnC w0 w p q c gd g v d s) (hk : k ≤ 9223372036854775807) :
    Calls Try.prog 24 #[.pointer (some ⟨p, 0, none⟩), .int .i64 k] w fun e w' => e = .returned (.tuple #[]) ∧ OwnC w0 w' p q c gd g v d (s.arms k) ∧ Frm (Two p q) w w' := by
  refine (arm_is k h.o.n hk).mono ?_
  rintro e w' ⟨rfl, hn, hf⟩
  have hne := h.dr.ne h.o.n
  refine ⟨rfl, ⟨h.o.step hn hf, h.dr.frm hf (fun e => e.elim hne.1 hne.2), ?_, h.g0, h.vn, ⟨h.dk.m, by rw [arms7_n]; exact h.dk.n⟩, h.m⟩, hf⟩
  rw [DrvS.arms_fn]
  exact CelAt.frm h.t hf (h.t.two h.o.n) h.two
/-- Put of bytes that have room, where the power may fail -/
theorem ownc_try (h : OwnC w0 w p q c gd g v d s) (hy : By w vx b) (hxp : b ≠ [] → ∀ k, RowB vx k → ¬ Tri p q g k) :
    Calls Try.prog 11 #[.pointer (some ⟨g, 0, none⟩), vx] w fun e w' => e = .returned (.int .i64 (d.cput s (clook (d.fn s)) b).2) ∧ Own w0 w' p q c (d.cput s (clook (d.fn s)) b).1 ∧ DrvAt w' gd p d ∧
      ((d.cput s (clook (d.fn s)) b).2 = 0 → ∃ v', OwnC w0 w' p q c gd g v' d (d.cput s (clook (d.fn s)) b).1) ∧ Frm (Tri p q g) w w' := by
  refine (cput_is h.t h.dr h.o.n h.dk h.m hy h.two hxp).mono ?_
  rintro e w' ⟨rfl, hN, hF, hOK, -, -⟩
  have hu := hy.u
  have ho : Own w0 w' p q c (d.cput s (clook (d.fn s)) b).1 := ⟨hN, h.o.tri7 hF h.g0, h.o.p0, h.o.q0⟩
  have hd : DrvAt w' gd p d := h.dr.frm hF (fun e => by
    have h1 := h.dr.ne h.o.n
    have h2 := h.t.ned h.dr
    rcases e with e | e | e
    · exact h1.1 e
    · exact h1.2 e
    · exact h2 e)
  refine ⟨rfl, ho, hd, fun hz => ?_, hF⟩
  obtain ⟨v', hC, hv⟩ := hOK hz
  obtain ⟨-, -, hl, -⟩ := DrvS.cput_ok h.o.n.ok h.dk hu hz
  refine ⟨v', ho, hd, ?_, h.g0, fun k hk => ?_, h.dk.n' DrvS.cput_n, h.m⟩
  · rw [hl]; exact hC
  · have := hv k hk
    have := h.o.n.ltp; have := h.o.n.ltq; have := h.o.f.size
    omega
theorem ownc_crash (A : Option Addr) (cp : Nat) (ks : List Bool) (h : Own w0 w p q c s) (hd : DrvAt w gd p d) (hx : Rd w A (bools ks)) (hA : ks ≠ [] → ∀ a, A = some a → a.block < w0.heap.size) (hm : (ks.length : Int) ≤ 9223372036854775807) :
    Calls Try.prog 25 #[.pointer (some ⟨p, 0, none⟩), .slice A ks.length cp] w fun e w' => e = .returned (.tuple #[]) ∧ Own w0 w' p q c (s.crash ks) ∧ DrvAt w' gd p d ∧ Frm (Two p q) w w' := by
  have h1 := h.p0; have h2 := h.q0
  have hne := hd.ne h.n
  refine (crash_is A cp ks h.n hx (fun hne a ha e => ?_) hm).mono ?_
  · have := hA hne a ha
    rcases e with e | e <;> omega
  · rintro e w' ⟨rfl, hn, hf⟩
    exact ⟨rfl, h.step hn hf, hd.frm hf (fun e => e.elim hne.1 hne.2), hf⟩
end
end Go.Proofs.Ytiapoalkkhpmlaa
