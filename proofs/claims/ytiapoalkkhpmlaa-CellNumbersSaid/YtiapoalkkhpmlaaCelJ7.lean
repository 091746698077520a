/-
  Texts of this claim, joined: NorOwnG, Cel3, Cel4, TriF, Cel5, RegT.
-/
import Derived.Deep.AppendLies
import Derived.Deep.DeepCutAuto
import Derived.OrdersHeld
import Derived.Deep.RegionHeld3
import Derived.Test.YtiapoalkkhpmlaaCelJ6
/-
  The flash of a call's own: its contracts at literals.
-/
namespace Go.Proofs.Ytiapoalkkhpmlaa
open Go.RowKit

/-- A flash that was made since the world w0. -/
structure Own (w0 w : World) (p q c : Nat) (s : NorS) : Prop where
  n : NorAt w p q c s
  f : Frm NoB w0 w
  p0 : w0.heap.size ≤ p
  q0 : w0.heap.size ≤ q
section
variable {w0 w w' : World} {p q c : Nat} {s : NorS}
theorem Frm.own (h : Frm NoB w0 w) (hp : w0.heap.size ≤ p) (hq : w0.heap.size ≤ q) (k : Frm (Two p q) w w') : Frm NoB w0 w' :=
  h.then_ k (fun i hi he => by rcases he with he | he <;> omega)
theorem Own.alloc (h : Own w0 w p q c s) (o : Obj) : Own w0 (w.alloc o) p q c s := ⟨h.n.alloc o, h.f.alloc o, h.p0, h.q0⟩
theorem Own.drewN (h : Own w0 w p q c s) (k : Nat) : Own w0 (w.drewN k) p q c s := ⟨h.n.drewN k, h.f.drewN k, h.p0, h.q0⟩
theorem Own.drew (h : Own w0 w p q c s) : Own w0 w.drew p q c s := ⟨h.n.drew, h.f.drew, h.p0, h.q0⟩
theorem Own.frm (h : Own w0 w p q c s) (k : Frm NoB w w') : Own w0 w' p q c s := ⟨h.n.frm k (fun e => e) (fun e => e), h.f.trans k, h.p0, h.q0⟩
theorem Own.step {s' : NorS} (h : Own w0 w p q c s) (hn : NorAt w' p q c s') (k : Frm (Two p q) w w') : Own w0 w' p q c s' := ⟨hn, h.f.own h.p0 h.q0 k, h.p0, h.q0⟩
/-- another flash's doing -/
theorem Own.other {p' q' : Nat} (h : Own w0 w p q c s) (k : Frm (Two p' q') w w') (hp : w0.heap.size ≤ p') (hq : w0.heap.size ≤ q') (h1 : p ≠ p') (h2 : p ≠ q') (h3 : q ≠ p') (h4 : q ≠ q') : Own w0 w' p q c s :=
  ⟨h.n.frm k (fun e => e.elim h1 h2) (fun e => e.elim h3 h4), h.f.own hp hq k, h.p0, h.q0⟩
theorem rd_lit (w : World) (cs : List Value) (t : TypeId) : Rd (w.alloc (.cells cs.toArray t)) (some ⟨w.heap.size, 0, none⟩) cs := fun _ => ⟨w.heap.size, 0, rfl, fun i v hv => by
  rw [Nat.zero_add, (Blk.new w t cs.toArray).cell i]; simpa using hv⟩

/-- words that are written out are programmed -/
theorem own_program (sec k : Int) (xs : List Int) (h : Own w0 w p q c s) (ux : U32 xs) (hm : (xs.length : Int) ≤ 9223372036854775807) (n : Nat) (hn : xs.length = n) (cs : Array Value) (hcs : cs = (ints .u32 xs).toArray) :
    Calls Try.prog 74 #[.pointer (some ⟨p, 0, none⟩), .int .i64 sec, .int .i64 k, .slice (some ⟨w.heap.size, 0, none⟩) n n] (w.alloc (.cells cs 49)) fun e w' => e = .returned (.int .i64 (s.programE sec k xs)) ∧ Own w0 w' p q c (s.program sec k xs) := by
  subst hcs
  have hA := h.alloc (.cells (ints .u32 xs).toArray 49)
  refine (program_at sec k _ n n xs hn hA.n (rd_lit w _ _) (fun _ a ha e => ?_) ux hm).mono ?_
  · injection ha with ha
    subst ha
    have h1 := h.n.ltp; have h2 := h.n.ltq
    rcases e with e | e
    · exact absurd e (by show ¬ w.heap.size = p; omega)
    · exact absurd e (by show ¬ w.heap.size = q; omega)
  · rintro e w' ⟨rfl, hn, hf⟩
    exact ⟨rfl, hA.step hn hf⟩
theorem own_program_nil (sec k : Int) (h : Own w0 w p q c s) :
    Calls Try.prog 74 #[.pointer (some ⟨p, 0, none⟩), .int .i64 sec, .int .i64 k, .slice none 0 0] w fun e w' => e = .returned (.int .i64 (s.programE sec k [])) ∧ Own w0 w' p q c (s.program sec k []) := by
  refine (program_at sec k _ 0 0 [] rfl h.n (Rd.nil _ _) (fun _ a ha => by cases ha) (fun x hx => by cases hx) (by simp)).mono ?_
  rintro e w' ⟨rfl, hn, hf⟩
  exact ⟨rfl, h.step hn hf⟩
theorem own_rewrite (sec k : Int) (xs : List Int) (h : Own w0 w p q c s) (ux : U32 xs) (hm : (xs.length : Int) ≤ 9223372036854775807) (n : Nat) (hn : xs.length = n) (cs : Array Value) (hcs : cs = (ints .u32 xs).toArray) :
    Calls Try.prog 21 #[.pointer (some ⟨p, 0, none⟩), .int .i64 sec, .int .i64 k, .slice (some ⟨w.heap.size, 0, none⟩) n n] (w.alloc (.cells cs 49)) fun e w' => e = .returned (.int .i64 (s.rewriteE sec k xs)) ∧ Own w0 w' p q c (s.rewrite sec k xs) := by
  subst hcs
  have hA := h.alloc (.cells (ints .u32 xs).toArray 49)
  refine (rewrite_at sec k _ n n xs hn hA.n (rd_lit w _ _) ux hm).mono ?_
  rintro e w' ⟨rfl, hn, hf⟩
  exact ⟨rfl, hA.step hn hf⟩
theorem own_rewrite_nil (sec k : Int) (h : Own w0 w p q c s) :
    Calls Try.prog 21 #[.pointer (some ⟨p, 0, none⟩), .int .i64 sec, .int .i64 k, .slice none 0 0] w fun e w' => e = .returned (.int .i64 (s.rewriteE sec k [])) ∧ Own w0 w' p q c (s.rewrite sec k []) := by
  refine (rewrite_at sec k _ 0 0 [] rfl h.n (Rd.nil _ _) (fun x hx => by cases hx) (by simp)).mono ?_
  rintro e w' ⟨rfl, hn, hf⟩
  exact ⟨rfl, h.step hn hf⟩
theorem own_crash (ks : List Bool) (h : Own w0 w p q c s) (hm : (ks.length : Int) ≤ 9223372036854775807) (n : Nat) (hn : ks.length = n) (cs : Array Value) (hcs : cs = (bools ks).toArray) :
    Calls Try.prog 25 #[.pointer (some ⟨p, 0, none⟩), .slice (some ⟨w.heap.size, 0, none⟩) n n] (w.alloc (.cells cs 4)) fun e w' => e = .returned (.tuple #[]) ∧ Own w0 w' p q c (s.crash ks) := by
  subst hcs
  have hA := h.alloc (.cells (bools ks).toArray 4)
  subst hn
  refine (crash_is _ _ ks hA.n (rd_lit w _ _) (fun _ a ha e => ?_) hm).mono ?_
  · injection ha with ha
    subst ha
    have h1 := h.n.ltp; have h2 := h.n.ltq
    rcases e with e | e
    · exact absurd e (by show ¬ w.heap.size = p; omega)
    · exact absurd e (by show ¬ w.heap.size = q; omega)
  · rintro e w' ⟨rfl, hn, hf⟩
    exact ⟨rfl, hA.step hn hf⟩
theorem own_crash_nil (h : Own w0 w p q c s) :
    Calls Try.prog 25 #[.pointer (some ⟨p, 0, none⟩), .slice none 0 0] w fun e w' => e = .returned (.tuple #[]) ∧ Own w0 w' p q c (s.crash []) := by
  refine (crash_is none 0 [] h.n (Rd.nil _ _) (fun _ a ha => by cases ha) (by simp)).mono ?_
  rintro e w' ⟨rfl, hn, hf⟩
  exact ⟨rfl, h.step hn hf⟩
theorem own_erase (sec : Int) (h : Own w0 w p q c s) :
    Calls Try.prog 73 #[.pointer (some ⟨p, 0, none⟩), .int .i64 sec] w fun e w' => e = .returned (.int .i64 (s.eraseE sec)) ∧ Own w0 w' p q c (s.erase sec) := by
  refine (erase_is sec h.n).mono ?_
  rintro e w' ⟨rfl, hn, hf⟩
  exact ⟨rfl, h.step hn hf⟩
theorem own_arm (k : Int) (h : Own w0 w p q c s) (hk : k ≤ 9223372036854775807) :
    Calls Try.prog 24 #[.pointer (some ⟨p, 0, none⟩), .int .i64 k] w fun e w' => e = .returned (.tuple #[]) ∧ Own w0 w' p q c (s.arms k) := by
  refine (arm_is k h.n hk).mono ?_
  rintro e w' ⟨rfl, hn, hf⟩
  exact ⟨rfl, h.step hn hf⟩
theorem own_new (n g : Nat) (h : Frm NoB w0 w) (h1 : 1 ≤ n) (h2 : n ≤ 1024) (hg : g ≤ n) :
    Calls Try.prog 22 #[.int .i64 n, .int .i64 g] w fun e w' => ∃ p q c, e = .returned (.tuple #[.pointer (some ⟨p, 0, none⟩), .int .i64 0]) ∧ Own w0 w' p q c (NorS.new n g) ∧ w.heap.size ≤ p ∧ w.heap.size ≤ q ∧ Frm NoB w w' := by
  refine (new_is n g w h1 h2 hg).mono ?_
  rintro e w' ⟨p, q, c, rfl, hn, hp, hq, hf⟩
  have := h.size
  exact ⟨p, q, c, rfl, ⟨hn, h.trans hf, by omega, by omega⟩, hp, hq, hf⟩
end
end Go.Proofs.Ytiapoalkkhpmlaa

/-
  The cell: the deeds of Put, one behind the other.
-/
namespace Go.Proofs.Ytiapoalkkhpmlaa
open Go.RowKit
namespace DrvS
variable {d : DrvS} {s : NorS} {i : Nat} {l : List Int}
/-- the flash behind j deeds -/
def deedS (d : DrvS) (s : NorS) (i : Nat) (l : List Int) : Nat → NorS
  | 0 => s
  | 1 => d.er s i
  | 2 => d.wr (d.er s i) ((64 * i : Nat) : Int) l
  | _ => d.wr (d.wr (d.er s i) ((64 * i : Nat) : Int) l) ((64 * i + 63 : Nat) : Int) [0]
/-- what deed j tells -/
def deedE (d : DrvS) (s : NorS) (i : Nat) (l : List Int) : Nat → Int
  | 0 => d.erE s i
  | 1 => d.wrE (d.er s i) ((64 * i : Nat) : Int) l
  | _ => d.wrE (d.wr (d.er s i) ((64 * i : Nat) : Int) l) ((64 * i + 63 : Nat) : Int) [0]
theorem deed_all (h : ∀ k, k < 3 → d.deedE s i l k = 0) : d.cputI s i l = (d.deedS s i l 3, 0) := by
  have h0 := h 0 (by omega); have h1 := h 1 (by omega); have h2 := h 2 (by omega)
  unfold deedE at h0 h1 h2
  unfold cputI deedS
  simp only at h0 h1 h2 ⊢
  rw [if_pos h0, if_pos h1, h2]
theorem deed_stop {j : Nat} (hj : j < 3) (h : ∀ k, k < j → d.deedE s i l k = 0) (hn : d.deedE s i l j ≠ 0) : d.cputI s i l = (d.deedS s i l (j + 1), d.deedE s i l j) := by
  rcases (by omega : j = 0 ∨ j = 1 ∨ j = 2) with rfl | rfl | rfl
  · unfold deedE at hn
    unfold cputI deedS deedE
    simp only at hn ⊢
    rw [if_neg hn]
  · have h0 := h 0 (by omega)
    unfold deedE at h0 hn
    unfold cputI deedS deedE
    simp only at h0 hn ⊢
    rw [if_pos h0, if_neg hn]
  · have h0 := h 0 (by omega); have h1 := h 1 (by omega)
    unfold deedE at h0 h1
    unfold cputI deedS deedE
    simp only at h0 h1 ⊢
    rw [if_pos h0, if_pos h1]
theorem deedS_Ok (h : s.Ok) : ∀ j, (d.deedS s i l j).Ok
  | 0 => h
  | 1 => er_Ok h _
  | 2 => wr_Ok (er_Ok h _) _ _
  | _ + 3 => wr_Ok (wr_Ok (er_Ok h _) _ _) _ _
theorem deedS_n : ∀ j, (d.deedS s i l j).n = s.n
  | 0 => rfl
  | 1 => ern _ _ _
  | 2 => (wrn _ _ _ _).trans (ern _ _ _)
  | _ + 3 => (wrn _ _ _ _).trans ((wrn _ _ _ _).trans (ern _ _ _))
end DrvS
/-- what the deeds of Put reach -/
structure PutIn (W : World) (p q g gd H L : Nat) (d : DrvS) (i : Nat) (A : Option Addr) (cp : Nat) (l : List Int) : Prop where
  c2 : Blk W H 25 #[.pointer (some ⟨g, 0, none⟩)]
  c5 : Blk W (H + 1) 3 #[.int .i64 i]
  c6 : Blk W (H + 2) 3 #[.int .i64 (64 * i : Nat)]
  c7 : Blk W L 34 #[.slice A l.length cp]
  c0 : W.cell? ⟨g, 0, none⟩ = some (.pointer (some ⟨gd, 0, none⟩))
  dr : DrvAt W gd p d
  rd : Rd W A (ints .u32 l)
  ra : ∀ x, A = some x → x.block < W.heap.size
  sp : ∀ k, Two p q k → k ≠ H ∧ k ≠ H + 1 ∧ k ≠ H + 2 ∧ k ≠ L ∧ k ≠ g ∧ k ≠ gd ∧ ∀ x, A = some x → k ≠ x.block
theorem PutIn.frm {S : Nat → Prop} {W W' : World} {p q g gd H L : Nat} {d : DrvS} {i : Nat} {A : Option Addr} {cp : Nat} {l : List Int} (h : PutIn W p q g gd H L d i A cp l) (hf : Frm S W W')
    (hs : ∀ k, S k → Two p q k) : PutIn W' p q g gd H L d i A cp l := by
  have no : ∀ k, (k = H ∨ k = H + 1 ∨ k = H + 2 ∨ k = L ∨ k = g ∨ k = gd ∨ ∃ x, A = some x ∧ k = x.block) → ¬ S k := fun k hk hS => by
    obtain ⟨a, b, c, e, f, g, i⟩ := h.sp k (hs k hS)
    rcases hk with hk | hk | hk | hk | hk | hk | ⟨x, hx, hk⟩
    · exact a hk
    · exact b hk
    · exact c hk
    · exact e hk
    · exact f hk
    · exact g hk
    · exact i x hx hk
  exact ⟨h.c2.frm hf (no _ (.inl rfl)), h.c5.frm hf (no _ (.inr (.inl rfl))), h.c6.frm hf (no _ (.inr (.inr (.inl rfl)))), h.c7.frm hf (no _ (.inr (.inr (.inr (.inl rfl))))),
    (hf.cell (p := ⟨g, 0, none⟩) (World.block_lt_of_cell? W _ h.c0) (no _ (.inr (.inr (.inr (.inr (.inl rfl))))))).trans h.c0, h.dr.frm hf (no _ (.inr (.inr (.inr (.inr (.inr (.inl rfl))))))),
    h.rd.frm' hf (fun _ x hx => no _ (.inr (.inr (.inr (.inr (.inr (.inr ⟨x, hx, rfl⟩))))))), fun x hx => by have := h.ra x hx; have := hf.size; omega, h.sp⟩
section
variable {W : World} {p q c g gd H L : Nat} {d : DrvS} {s : NorS} {i : Nat} {A : Option Addr} {cp : Nat} {l : List Int}
/-- what a deed comes to -/
def DeedPost (W : World) (p q c : Nat) (s' : NorS) (E : Int) (e : Ending) (w' : World) : Prop := e = .returned (.int .i64 E) ∧ NorAt w' p q c s' ∧ Frm (Two p q) W w'
theorem PutIn.cells (h : PutIn W p q g gd H L d i A cp l) : W.cell? ⟨H, 0, none⟩ = some (.pointer (some ⟨g, 0, none⟩)) ∧ W.cell? ⟨H + 1, 0, none⟩ = some (.int .i64 i) ∧ W.cell? ⟨H + 2, 0, none⟩ = some (.int .i64 (64 * i : Nat)) ∧ W.cell? ⟨L, 0, none⟩ = some (.slice A l.length cp) ∧ W.cell? ⟨g, 0, none⟩ = some (.pointer (some ⟨gd, 0, none⟩)) :=
  ⟨h.c2.cell 0, h.c5.cell 0, h.c6.cell 0, h.c7.cell 0, h.c0⟩
set_option maxRecDepth 100000 in
theorem put1_is (h : PutIn W p q g gd H L d i A cp l) (hn : NorAt W p q c s) (hd : d.Ok s) :
    Calls Try.prog 40 #[.pointer (some ⟨H, 0, none⟩), .pointer (some ⟨H + 1, 0, none⟩)] W (DeedPost W p q c (d.er s i) (d.erE s i)) := by
  obtain ⟨m2, m5, -, -, m0⟩ := h.cells
  have HP := hide h
  have hb := hn.ok.n2
  have K : Hid (∀ W', Frm NoB W W' → Calls Try.prog 41 #[.pointer (some ⟨gd, 0, none⟩), .int .i64 i] W' (DeedPost W p q c (d.er s i) (d.erE s i))) := fun W' hf => by
    refine (derase_is (i : Int) (h.dr.frm hf (fun e => e)) (hn.frm hf (fun e => e) (fun e => e)) (by have := hd.n; omega) (by omega)).mono ?_
    rintro e w' ⟨rfl, h1, h2⟩
    exact ⟨rfl, h1, (hf.mono (fun _ _ e => e.elim)).trans h2⟩
  clear h hn hd hb
  go_enter Try.func40, Try.ntmps40
  go_wp2_with fail
  go_region_held3 (fun w' => w'.cell? ⟨H, 0, none⟩ = some (.pointer (some ⟨g, 0, none⟩)) ∧ w'.cell? ⟨H + 1, 0, none⟩ = some (.int .i64 i) ∧ w'.cell? ⟨g, 0, none⟩ = some (.pointer (some ⟨gd, 0, none⟩))) (go_keep)
    (first
      | (go_at_call 41; ((with_reducible refine (K.out _ ((Frm.refl NoB _).drew)).mono ?_); rintro e w3 ⟨rfl, h1, h2⟩; obtain ⟨n2, n5, -, -, n0⟩ := (HP.out.frm h2 (fun _ hk => hk)).cells)))
  have H1 := hide h1
  have H2 := hide h2
  clear h1 h2 n2 n5 n0
  go_wp2
  go_ret
  exact ⟨rfl, H1.out, H2.out⟩
set_option maxRecDepth 100000 in
theorem put2_is (h : PutIn W p q g gd H L d i A cp l) (hn : NorAt W p q c s) (hd : d.Ok s) (hu : U32 l) (hcp : l.length ≤ cp) (hll : l.length ≤ 16777216) :
    Calls Try.prog 42 #[.pointer (some ⟨H, 0, none⟩), .pointer (some ⟨H + 2, 0, none⟩), .pointer (some ⟨L, 0, none⟩)] W (DeedPost W p q c (d.wr s ((64 * i : Nat) : Int) l) (d.wrE s ((64 * i : Nat) : Int) l)) := by
  obtain ⟨m2, -, m6, m7, m0⟩ := h.cells
  have HP := hide h
  have K : Hid (∀ W', Frm NoB W W' → Calls Try.prog 43 #[.pointer (some ⟨gd, 0, none⟩), .int .i64 ((64 * i : Nat) : Int), .slice A l.length cp] W' (DeedPost W p q c (d.wr s ((64 * i : Nat) : Int) l) (d.wrE s ((64 * i : Nat) : Int) l))) := fun W' hf => by
    refine (dwrite_at ((64 * i : Nat) : Int) A cp l.length l rfl (h.dr.frm hf (fun e => e)) (hn.frm hf (fun e => e) (fun e => e)) hd (h.rd.frm' hf (fun _ _ _ e => e)) (fun _ x hx => ⟨fun hk => (h.sp x.block hk).2.2.2.2.2.2 x hx rfl, by have := h.ra x hx; have := hf.size; omega⟩) hu hcp (by omega)).mono ?_
    rintro e w' ⟨rfl, h1, h2⟩
    exact ⟨rfl, h1, (hf.mono (fun _ _ e => e.elim)).trans h2⟩
  clear h hn hd hu hcp hll
  generalize l.length = n at K m7
  generalize ((64 * i : Nat) : Int) = z at K m6
  go_enter Try.func42, Try.ntmps42
  go_wp2_with fail
  go_region_held3 (fun w' => w'.cell? ⟨H, 0, none⟩ = some (.pointer (some ⟨g, 0, none⟩)) ∧ w'.cell? ⟨H + 2, 0, none⟩ = some (.int .i64 z) ∧ w'.cell? ⟨L, 0, none⟩ = some (.slice A n cp) ∧ w'.cell? ⟨g, 0, none⟩ = some (.pointer (some ⟨gd, 0, none⟩))) (go_keep)
    (first
      | (go_at_call 43; ((with_reducible refine (K.out _ ((Frm.refl NoB _).drew)).mono ?_); rintro e w3 ⟨rfl, h1, h2⟩; have n2 := (h2.cell (p := ⟨H, 0, none⟩) (World.block_lt_of_cell? W _ m2) (fun hk => (HP.out.sp _ hk).1 rfl)).trans m2; have n6 := (h2.cell (p := ⟨H + 2, 0, none⟩) (World.block_lt_of_cell? W _ m6) (fun hk => (HP.out.sp _ hk).2.2.1 rfl)).trans m6; have n7 := (h2.cell (p := ⟨L, 0, none⟩) (World.block_lt_of_cell? W _ m7) (fun hk => (HP.out.sp _ hk).2.2.2.1 rfl)).trans m7; have n0 := (h2.cell (p := ⟨g, 0, none⟩) (World.block_lt_of_cell? W _ m0) (fun hk => (HP.out.sp _ hk).2.2.2.2.1 rfl)).trans m0)))
  have H1 := hide h1
  have H2 := hide h2
  clear h1 h2 n2 n6 n7 n0
  go_wp2
  go_ret
  exact ⟨rfl, H1.out, H2.out⟩
set_option maxRecDepth 100000 in
theorem put3_is (h : PutIn W p q g gd H L d i A cp l) (hn : NorAt W p q c s) (hd : d.Ok s) (hi : i ≤ 1) :
    Calls Try.prog 44 #[.pointer (some ⟨H, 0, none⟩), .pointer (some ⟨H + 2, 0, none⟩)] W (DeedPost W p q c (d.wr s ((64 * i + 63 : Nat) : Int) [0]) (d.wrE s ((64 * i + 63 : Nat) : Int) [0])) := by
  obtain ⟨m2, -, m6, -, m0⟩ := h.cells
  have HP := hide h
  have wz : IntKind.i64.wrap (((64 * i : Nat) : Int) + 63) = ((64 * i + 63 : Nat) : Int) := by rw [IntWalk.i64_in _ (by omega)]; omega
  have K : Hid (∀ W', W' = (W.alloc (.cells #[.int .u32 0] 49)).drew → Calls Try.prog 43 #[.pointer (some ⟨gd, 0, none⟩), .int .i64 ((64 * i + 63 : Nat) : Int), .slice (some ⟨W.heap.size, 0, none⟩) 1 1] W' (DeedPost W p q c (d.wr s ((64 * i + 63 : Nat) : Int) [0]) (d.wrE s ((64 * i + 63 : Nat) : Int) [0]))) := fun W' hW => by
    subst hW
    have hf : Frm NoB W (W.alloc (.cells #[.int .u32 0] 49)).drew := ((Frm.refl NoB W).alloc _).drew
    refine (dwrite_at ((64 * i + 63 : Nat) : Int) (some ⟨W.heap.size, 0, none⟩) 1 1 [0] rfl (h.dr.frm hf (fun e => e)) (hn.frm hf (fun e => e) (fun e => e)) hd ((show Rd _ _ (ints .u32 [0]) from rd_lit W [.int .u32 0] 49).frm' ((Frm.refl NoB _).drew) (fun _ _ _ e => e)) (fun _ x hx => ?_) (fun x hx => ?_) (by simp) (by simp)).mono ?_
    · injection hx with hx
      subst hx
      have h1 := hn.ltp; have h2 := hn.ltq
      refine ⟨fun hk => ?_, by simp⟩
      rcases hk with hk | hk
      · have hk : W.heap.size = p := hk; omega
      · have hk : W.heap.size = q := hk; omega
    · simp only [List.mem_cons, List.not_mem_nil, or_false] at hx; rw [hx]; omega
    · rintro e w' ⟨rfl, h1, h2⟩
      exact ⟨rfl, h1, (hf.mono (fun _ _ e => e.elim)).trans h2⟩
  clear h hn hd
  generalize ((64 * i + 63 : Nat) : Int) = z3 at K wz
  generalize ((64 * i : Nat) : Int) = z at K m6 wz
  go_enter Try.func44, Try.ntmps44
  go_wp2_with fail
  go_region_held3 (fun w' => w'.cell? ⟨H, 0, none⟩ = some (.pointer (some ⟨g, 0, none⟩)) ∧ w'.cell? ⟨H + 2, 0, none⟩ = some (.int .i64 z) ∧ w'.cell? ⟨g, 0, none⟩ = some (.pointer (some ⟨gd, 0, none⟩))) (go_keep)
    (first
      | (go_at_call 43; ((with_reducible refine (K.out _ rfl).mono ?_); rintro e w3 ⟨rfl, h1, h2⟩; have n2 := (h2.cell (p := ⟨H, 0, none⟩) (World.block_lt_of_cell? W _ m2) (fun hk => (HP.out.sp _ hk).1 rfl)).trans m2; have n6 := (h2.cell (p := ⟨H + 2, 0, none⟩) (World.block_lt_of_cell? W _ m6) (fun hk => (HP.out.sp _ hk).2.2.1 rfl)).trans m6; have n0 := (h2.cell (p := ⟨g, 0, none⟩) (World.block_lt_of_cell? W _ m0) (fun hk => (HP.out.sp _ hk).2.2.2.2.1 rfl)).trans m0)))
  have H1 := hide h1
  have H2 := hide h2
  clear h1 h2 n2 n6 n0
  go_wp2
  go_ret
  exact ⟨rfl, H1.out, H2.out⟩
end
end Go.Proofs.Ytiapoalkkhpmlaa

/-
  The cell: all deeds, up to the first error.
-/
namespace Go.Proofs.Ytiapoalkkhpmlaa
open Go.RowKit
/-- the deeds of Put -/
def deedFns (H L : Nat) : Array Value := #[.func (.func 40) #[] #[.pointer (some ⟨H, 0, none⟩), .pointer (some ⟨H + 1, 0, none⟩)],
  .func (.func 42) #[] #[.pointer (some ⟨H, 0, none⟩), .pointer (some ⟨H + 2, 0, none⟩), .pointer (some ⟨L, 0, none⟩)],
  .func (.func 44) #[] #[.pointer (some ⟨H, 0, none⟩), .pointer (some ⟨H + 2, 0, none⟩)]]
def AllRel (W : World) (p q c : Nat) (d : DrvS) (s : NorS) (i : Nat) (l : List Int) (v : Value) (wr : World) : Prop :=
  ∃ j : Nat, j ≤ 3 ∧ v = .int .i64 j ∧ NorAt wr p q c (d.deedS s i l j) ∧ Frm (Two p q) W wr ∧ ∀ k, k < j → d.deedE s i l k = 0
section
variable {W : World} {p q c g gd H L bs : Nat} {d : DrvS} {s : NorS} {i : Nat} {A : Option Addr} {cp : Nat} {l : List Int}
set_option maxRecDepth 100000 in
set_option maxHeartbeats 1000000 in
theorem all_is (h : PutIn W p q g gd H L d i A cp l) (hn : NorAt W p q c s) (hd : d.Ok s) (hu : U32 l) (hcp : l.length ≤ cp) (hll : l.length ≤ 16777216) (hi : i ≤ 1)
    (hb : Blk W bs 88 (deedFns H L)) (hbs : ¬ Two p q bs) :
    Calls Try.prog 39 #[.slice (some ⟨bs, 0, none⟩) 3 3] W (DeedPost W p q c (d.cputI s i l).1 (d.cputI s i l).2) := by
  have HP := hide h
  have HN := hide hn
  have HB := hide hb
  have HD := hide hd
  have HU := hide hu
  have HBS := hide hbs
  clear h hn hb hd hu hbs
  have HE : Hid (∀ w', NorAt w' p q c (d.deedS s i l 3) → Frm (Two p q) W w' → (∀ k, k < 3 → d.deedE s i l k = 0) → DeedPost W p q c (d.cputI s i l).1 (d.cputI s i l).2 (.returned (.int .i64 0)) w') := fun w' a b cc => by
    rw [DrvS.deed_all cc]; exact ⟨rfl, a, b⟩
  have HS : Hid (∀ (j : Nat) w', j < 3 → NorAt w' p q c (d.deedS s i l (j + 1)) → Frm (Two p q) W w' → (∀ k, k < j → d.deedE s i l k = 0) → d.deedE s i l j ≠ 0 → DeedPost W p q c (d.cputI s i l).1 (d.cputI s i l).2 (.returned (.int .i64 (d.deedE s i l j))) w') := fun j w' hj a b cc hne => by
    rw [DrvS.deed_stop hj cc hne]; exact ⟨rfl, a, b⟩
  generalize DeedPost W p q c (d.cputI s i l).1 (d.cputI s i l).2 = PP at HE HS ⊢
  go_enter Try.func39, Try.ntmps39
  go_wp2
  go_loopw [8] (fun v wr => AllRel W p q c d s i l v wr) (fun v _ => 3 - (intOf v).toNat)
  case atStart => exact ⟨0, by omega, rfl, HN.out, Frm.refl _ _, fun k hk => by omega⟩
  case round =>
    obtain ⟨j, hj, hj0, hN, hF, hz⟩ := hrel
    have hP := HP.out.frm hF (fun _ hk => hk)
    have hB := HB.out.frm hF HBS.out
    have hok : d.Ok (d.deedS s i l j) := HD.out.n' (DrvS.deedS_n j)
    rcases (by omega : j = 0 ∨ j = 1 ∨ j = 2 ∨ j = 3) with rfl | rfl | rfl | rfl
    · have hj0 : _ = Value.int .i64 0 := hj0
      subst hj0
      have b0 : wr.cell? ⟨bs, 0, none⟩ = some (.func (.func 40) #[] #[.pointer (some ⟨H, 0, none⟩), .pointer (some ⟨H + 1, 0, none⟩)]) := hB.cell 0
      have K : Hid (Calls Try.prog 40 _ wr (DeedPost wr p q c (d.deedS s i l (0 + 1)) (d.deedE s i l 0))) := put1_is hP hN hok
      have HF := hide hF
      have HZ := hide hz
      clear hP hB hN hF hz hok
      have HEV := hide (rfl : d.deedE s i l 0 = d.deedE s i l 0)
      obtain ⟨E, hE⟩ : ∃ E, d.deedE s i l 0 = E := ⟨_, rfl⟩
      have HEQ := hide hE
      rw [hE] at K
      clear hE
      by_cases h0 : E = 0
      · subst h0
        go_wp2_with fail
        refine K.out.mono ?_
        rintro e w3 ⟨rfl, h1, h2⟩
        have H1 := hide h1
        have H2 := hide h2
        clear h1 h2 K
        go_wp2
        go_roundw
        case rel => exact ⟨1, by omega, rfl, H1.out, HF.out.trans H2.out, fun k hk => by rcases (by omega : k = 0 ∨ k < 0) with rfl | hk; exact HEQ.out; exact HZ.out k hk⟩
        case measure => simp [intOf]
      · have t1 : (E != 0) = true := by simpa using h0
        have H0 := hide h0
        clear h0
        go_wp2_with fail
        refine K.out.mono ?_
        rintro e w3 ⟨rfl, h1, h2⟩
        have key := HS.out 0 w3 (by omega) h1 (HF.out.trans h2) HZ.out (by rw [HEQ.out]; exact H0.out)
        rw [HEQ.out] at key
        have HK := hide key
        clear h1 h2 K key
        go_wp2
        exact HK.out
    · have hj0 : _ = Value.int .i64 1 := hj0
      subst hj0
      have b0 : wr.cell? ⟨bs, 1, none⟩ = some (.func (.func 42) #[] #[.pointer (some ⟨H, 0, none⟩), .pointer (some ⟨H + 2, 0, none⟩), .pointer (some ⟨L, 0, none⟩)]) := hB.cell 1
      have K : Hid (Calls Try.prog 42 _ wr (DeedPost wr p q c (d.deedS s i l (1 + 1)) (d.deedE s i l 1))) := put2_is hP hN hok HU.out hcp hll
      have HF := hide hF
      have HZ := hide hz
      clear hP hB hN hF hz hok
      have HEV := hide (rfl : d.deedE s i l 1 = d.deedE s i l 1)
      obtain ⟨E, hE⟩ : ∃ E, d.deedE s i l 1 = E := ⟨_, rfl⟩
      have HEQ := hide hE
      rw [hE] at K
      clear hE
      by_cases h0 : E = 0
      · subst h0
        go_wp2_with fail
        refine K.out.mono ?_
        rintro e w3 ⟨rfl, h1, h2⟩
        have H1 := hide h1
        have H2 := hide h2
        clear h1 h2 K
        go_wp2
        go_roundw
        case rel => exact ⟨2, by omega, rfl, H1.out, HF.out.trans H2.out, fun k hk => by rcases (by omega : k = 1 ∨ k < 1) with rfl | hk; exact HEQ.out; exact HZ.out k hk⟩
        case measure => simp [intOf]
      · have t1 : (E != 0) = true := by simpa using h0
        have H0 := hide h0
        clear h0
        go_wp2_with fail
        refine K.out.mono ?_
        rintro e w3 ⟨rfl, h1, h2⟩
        have key := HS.out 1 w3 (by omega) h1 (HF.out.trans h2) HZ.out (by rw [HEQ.out]; exact H0.out)
        rw [HEQ.out] at key
        have HK := hide key
        clear h1 h2 K key
        go_wp2
        exact HK.out
    · have hj0 : _ = Value.int .i64 2 := hj0
      subst hj0
      have b0 : wr.cell? ⟨bs, 2, none⟩ = some (.func (.func 44) #[] #[.pointer (some ⟨H, 0, none⟩), .pointer (some ⟨H + 2, 0, none⟩)]) := hB.cell 2
      have K : Hid (Calls Try.prog 44 _ wr (DeedPost wr p q c (d.deedS s i l (2 + 1)) (d.deedE s i l 2))) := put3_is hP hN hok hi
      have HF := hide hF
      have HZ := hide hz
      clear hP hB hN hF hz hok
      have HEV := hide (rfl : d.deedE s i l 2 = d.deedE s i l 2)
      obtain ⟨E, hE⟩ : ∃ E, d.deedE s i l 2 = E := ⟨_, rfl⟩
      have HEQ := hide hE
      rw [hE] at K
      clear hE
      by_cases h0 : E = 0
      · subst h0
        go_wp2_with fail
        refine K.out.mono ?_
        rintro e w3 ⟨rfl, h1, h2⟩
        have H1 := hide h1
        have H2 := hide h2
        clear h1 h2 K
        go_wp2
        go_roundw
        case rel => exact ⟨3, by omega, rfl, H1.out, HF.out.trans H2.out, fun k hk => by rcases (by omega : k = 2 ∨ k < 2) with rfl | hk; exact HEQ.out; exact HZ.out k hk⟩
        case measure => simp [intOf]
      · have t1 : (E != 0) = true := by simpa using h0
        have H0 := hide h0
        clear h0
        go_wp2_with fail
        refine K.out.mono ?_
        rintro e w3 ⟨rfl, h1, h2⟩
        have key := HS.out 2 w3 (by omega) h1 (HF.out.trans h2) HZ.out (by rw [HEQ.out]; exact H0.out)
        rw [HEQ.out] at key
        have HK := hide key
        clear h1 h2 K key
        go_wp2
        exact HK.out
    · have hj0 : _ = Value.int .i64 3 := hj0
      subst hj0
      have HK := hide (HE.out wr hN hF hz)
      clear hP hB hN hF hz hok
      go_wp2
      exact HK.out
end
end Go.Proofs.Ytiapoalkkhpmlaa

/-
  Three blocks.
-/
namespace Go.Proofs.Ytiapoalkkhpmlaa
/-- Three blocks. -/
def Tri (p q g : Nat) : Nat → Prop := fun k => k = p ∨ k = q ∨ k = g
theorem Tri.of_two {p q g : Nat} {w w' : World} (h : Frm (Two p q) w w') : Frm (Tri p q g) w w' := h.mono (fun k _ e => by rcases e with e | e; exact .inl e; exact .inr (.inl e))
theorem Tri.of_one {p q g : Nat} {w w' : World} (h : Frm (One g) w w') : Frm (Tri p q g) w w' := h.mono (fun _ _ e => .inr (.inr e))
theorem Tri.of_no {p q g : Nat} {w w' : World} (h : Frm NoB w w') : Frm (Tri p q g) w w' := h.mono (fun _ _ e => e.elim)
end Go.Proofs.Ytiapoalkkhpmlaa

/-
  The cell: Put.
-/
namespace Go.Proofs.Ytiapoalkkhpmlaa
open Go.RowKit
set_option maxRecDepth 100000 in
/-- words behind words of one's own -/
theorem step_append_w {w : World} {ops : Array Oper} {o : Oper} {a : Act} {K : Act → World → Prop} {Q : Exit → Act → World → Prop} {E : Prop} (hgd : o.guard = none) (s x : Operand)
    (ho : o.op = .call { callee := .builtin .append, args := #[s, x], argTypes := #[34, 34] })
    (base : Nat) (v : Value) (n c : Nat) (xs : List Value) (ys : List Int) (A : Option Addr) (hs : a.eval s = v) (hx : a.eval x = .slice A ys.length c) (hown : w.ownsRow base 49 1 v n xs) (hr : Rd w A (ints .u32 ys)) (hz : A = none → c = 0)
    (hl : n + ys.length ≤ 16777216) (hbase : base ≤ w.heap.size)
    (h : ∀ A' c' w', w'.ownsRow base 49 1 (.slice A' (n + ys.length) c') (n + ys.length) (xs ++ ints .u32 ys) → w.grownBy w' v.ownBlock → ((Value.slice A' (n + ys.length) c').ownBlock = v.ownBlock ∨ (Value.slice A' (n + ys.length) c').ownBlock = some w.heap.size) → K (a.put o.dst (.slice A' (n + ys.length) c')) w') :
    if Region.wanted o (yielded ops a.tmps) = true then Oper.wp Try.prog o a w K Q else E := by
  have hw : Region.wanted o (yielded ops a.tmps) = true := by simp [Region.wanted, hgd]
  rw [if_pos hw]
  obtain ⟨i0, hi0, hz0, hz1, hz2⟩ := info_parts uint32_info
  cases A with
  | none =>
    obtain rfl := hz rfl
    have e : ys = [] := by
      by_cases e : ys = []
      · exact e
      · obtain ⟨b, o, h1, _⟩ := hr (ints_ne e); cases h1
    subst e
    have hrun := run_append_owned_none (P := Try.prog) (w := w) base 34 o.type 49 i0 1 Try.underlying34 hi0 v n xs hown
    unfold Oper.wp
    simp [execOp, ho, resolve, invoke, builtin, hs, hx, hrun, Result.andThen]
    obtain ⟨A', c', rfl, -⟩ := Rd.of_own hown
    exact h A' c' w (by simpa [ints] using hown) ⟨rfl, rfl, rfl, Nat.le_refl _, fun _ _ _ => rfl⟩ (.inl rfl)
  | some ad =>
    obtain ⟨v', w', hrun, k1, k2, -, k3⟩ := run_append_own_at (P := Try.prog) w base 34 o.type 49 i0 _ 1 4 Try.underlying34 hi0 hz0 hz1 hz2 rfl (by omega) v n xs hown ad ys.length c (ints .u32 ys) (by rw [ints_length, Nat.mul_one])
      (fun j u hu => by
        obtain ⟨b, o1, e, hc⟩ := hr (fun e => by rw [e] at hu; cases hu)
        injection e with e
        subst e
        rw [addr_add]
        exact hc j u hu)
      (fun u hu => by
        unfold ints at hu
        obtain ⟨y, _, rfl⟩ := List.mem_map.1 hu
        rfl) (by simp only [maxLen]; omega) (by omega) hbase
    unfold Oper.wp execOp
    simp only [ho, resolve, invoke, builtin, Sem.run_bind, Sem.run_pure, Result.andThen_ok, List.map_toArray, List.map_cons, List.map_nil, hs, hx, hrun]
    obtain ⟨A', c', rfl, -⟩ := Rd.of_own k1
    exact h A' c' w' k1 k2 k3
/-- what Put tells -/
def CPutPost (w : World) (p q c g gd : Nat) (d : DrvS) (s : NorS) (cs : CelS) (v : Value) (b : List Int) (e : Ending) (w' : World) : Prop :=
  e = .returned (.int .i64 (d.cput s cs b).2) ∧ NorAt w' p q c (d.cput s cs b).1 ∧ Frm (Tri p q g) w w' ∧
  ((d.cput s cs b).2 = 0 → ∃ v', CelAt w' g gd ⟨nextC cs.on, cs.turn + 1, b⟩ v' false ∧ ∀ k, RowB v' k → w.heap.size ≤ k) ∧
  ((d.cput s cs b).2 = 3 ∨ (d.cput s cs b).2 = 5 → CelAt w' g gd cs v false) ∧
  ((d.cput s cs b).2 ≠ 0 → (d.cput s cs b).2 ≠ 3 → (d.cput s cs b).2 ≠ 5 → CelAt w' g gd cs v true)
section
variable {w : World} {p q c g gd : Nat} {d : DrvS} {s : NorS} {cs : CelS} {v vx : Value} {b : List Int} {over : Bool}
theorem cput_no (v vx : Value) (h : NoCel w v) : Calls Try.prog 11 #[v, vx] w fun e w' => e = .returned (.int .i64 1) ∧ Frm NoB w w' := by
  have hf : Frm NoB w (w.alloc (.cells #[v] 25)) := (Frm.refl NoB w).alloc _
  have h2 : NoCel (w.alloc (.cells #[v] 25)) v := by
    rcases h with rfl | ⟨g, rfl, hc⟩
    · exact .inl rfl
    · exact .inr ⟨g, rfl, (hf.cell (World.block_lt_of_cell? w _ hc) (fun e => e)).trans hc⟩
  have K := hide (cnone_no v h2)
  have hvo : v.oneCell' = true ∧ ∃ A, v = .pointer A := by
    rcases h with rfl | ⟨g, rfl, hc⟩
    · exact ⟨rfl, _, rfl⟩
    · exact ⟨rfl, _, rfl⟩
  obtain ⟨-, A, rfl⟩ := hvo
  have HF := hide hf
  clear h h2 hf
  go_enter Try.func11, Try.ntmps11
  go_wp2_with fail
  refine K.out.mono ?_
  rintro e w' ⟨rfl, rfl⟩
  go_wp2
  go_ret
  exact ⟨rfl, HF.out⟩
theorem cput_over (h : CelAt w g gd cs v true) : Calls Try.prog 11 #[.pointer (some ⟨g, 0, none⟩), vx] w fun e w' => e = .returned (.int .i64 60) ∧ Frm NoB w w' := by
  have hf : Frm NoB w (w.alloc (.cells #[.pointer (some ⟨g, 0, none⟩)] 25)) := (Frm.refl NoB w).alloc _
  have h2 := h.frm0 hf
  have K := hide (cnone_is h2)
  have m4 := h.c4
  have hlt := h.lt
  have HF := hide hf
  clear h h2 hf
  go_enter Try.func11, Try.ntmps11
  go_wp2_with fail
  refine K.out.mono ?_
  rintro e w' ⟨rfl, rfl⟩
  go_wp2
  go_ret
  exact ⟨rfl, HF.out⟩
/-- bytes that are too many; no turn is left -/
theorem cput_bad (h : CelAt w g gd cs v false) (hn : NorAt w p q c s) (hy : By w vx b) (hb : 244 < b.length ∨ 2147483648 ≤ cs.turn) (hvp : cs.b ≠ [] → ∀ k, RowB v k → ¬ Two p q k) :
    Calls Try.prog 11 #[.pointer (some ⟨g, 0, none⟩), vx] w (CPutPost w p q c g gd d s cs v b) := by
  have hf : Frm NoB w (w.alloc (.cells #[.pointer (some ⟨g, 0, none⟩)] 25)) := (Frm.refl NoB w).alloc _
  have h2 := h.frm0 hf
  have K := hide (cnone_is h2)
  have m4 := h.c4
  have m2 := h.c2
  have hlt := h.lt
  obtain ⟨A, cp, rfl, -⟩ := hy
  by_cases h1 : 244 < b.length
  · have HP : Hid (CPutPost w p q c g gd d s cs v b (.returned (.int .i64 3)) (w.alloc (.cells #[.pointer (some ⟨g, 0, none⟩)] 25))) := by
      have e : d.cput s cs b = (s, 3) := by unfold DrvS.cput; rw [if_pos h1]
      refine ⟨by rw [e], by rw [e]; exact hn.frm hf (fun e => e) (fun e => e), Tri.of_no hf, ?_, fun _ => h2, ?_⟩
      · rw [e]; intro hx; cases hx
      · rw [e]; intro _ hx; exact absurd rfl hx
    have t1 : decide (244 < b.length) = true := decide_eq_true h1
    have t1' : decide ((244 : Int) < (b.length : Int)) = true := decide_eq_true (by omega)
    clear h h2 hf hn hb h1 hvp
    generalize b.length = n at t1 t1' ⊢
    go_enter Try.func11, Try.ntmps11
    go_wp2_with fail
    refine K.out.mono ?_
    rintro e w' ⟨rfl, rfl⟩
    go_wp2
    go_ret
    exact HP.out
  · have HP : Hid (CPutPost w p q c g gd d s cs v b (.returned (.int .i64 5)) (w.alloc (.cells #[.pointer (some ⟨g, 0, none⟩)] 25))) := by
      have e : d.cput s cs b = (s, 5) := by unfold DrvS.cput; rw [if_neg h1, if_pos (by omega)]
      refine ⟨by rw [e], by rw [e]; exact hn.frm hf (fun e => e) (fun e => e), Tri.of_no hf, ?_, fun _ => h2, ?_⟩
      · rw [e]; intro hx; cases hx
      · rw [e]; intro _ _ hx; exact absurd rfl hx
    have t1 : decide (244 < b.length) = false := decide_eq_false h1
    have t1' : decide ((244 : Int) < (b.length : Int)) = false := decide_eq_false (by omega)
    have t2 : decide (2147483648 ≤ cs.turn) = true := decide_eq_true (by omega)
    clear h h2 hf hn hb h1 hvp
    generalize b.length = n at t1 t1' ⊢
    go_enter Try.func11, Try.ntmps11
    go_wp2_with fail
    refine K.out.mono ?_
    rintro e w' ⟨rfl, rfl⟩
    go_wp2
    go_ret
    exact HP.out
end
end Go.Proofs.Ytiapoalkkhpmlaa

/-
  A region that draws its order, walked in the order of the text: what always holds (S), what holds up to one store (T).
-/
namespace Go.Proofs.Ytiapoalkkhpmlaa
open Go.RowKit
section
variable {P : Program} {ops : Array Oper} {Q : Exit → Act → World → Prop} {md : Region.Mode} {S T : World → Prop} {st : Nat}
/-- whatever order is picked from here on, S holds, and T as long as 'st' has not come up -/
def wpAnyU (P : Program) (md : Region.Mode) (ops : Array Oper) (Q : Exit → Act → World → Prop) (S T : World → Prop) (st : Nat) : Nat → Array Bool → Act → World → Prop
  | 0, listed, a, w => Region.ready md ops listed = [] ∧ Q .normal a w
  | fuel + 1, listed, a, w =>
    (Region.ready md ops listed = [] → Q .normal a w) ∧
    ∀ i ∈ Region.ready md ops listed, wpOp P ops Q i (fun a' w' => (S w' ∧ ((listed.setIfInBounds i true).getD st true = false → T w')) ∧ wpAnyU P md ops Q S T st fuel (listed.setIfInBounds i true) a' w') a w
theorem wpAny_of_until : ∀ (fuel : Nat) (listed : Array Bool) (a : Act) (w : World), wpAnyU P md ops Q S T st fuel listed a w → wpAny P md ops Q fuel listed a w
  | 0, _, _, _, h => h
  | fuel + 1, _, _, _, h => ⟨h.1, fun i hi => wpOp_mono (fun a' w' h' => wpAny_of_until fuel _ a' w' h'.2) (h.2 i hi)⟩
def waitsOn (md : Region.Mode) (ops : Array Oper) (i j : Nat) : Bool := ((ops[i]?).map (·.after.any fun e => e.on == j && Region.binds md e)).getD false
theorem waitsOn_spec {i j : Nat} {o : Oper} (h : waitsOn md ops i j = true) (ho : ops[i]? = some o) : ∃ e ∈ o.after, Region.binds md e = true ∧ e.on = j := by
  unfold waitsOn at h
  rw [ho] at h
  simp only [Option.map_some, Option.getD_some, Array.any_eq_true', Bool.and_eq_true, beq_iff_eq] at h
  obtain ⟨e, he, h1, h2⟩ := h
  exact ⟨e, he, h2, h1⟩
/-- what a read may lean on: S alone, or T too, if the store waits for it -/
def Leans (md : Region.Mode) (ops : Array Oper) (S T : World → Prop) (st i : Nat) (listed : Array Bool) (U : World → Prop) : Prop :=
  U = S ∨ (U = (fun w => S w ∧ T w) ∧ waitsOn md ops st i = true ∧ listed.getD st true = false)
theorem wpAnyU_first {i : Nat} {oi : Oper} {v : Value} {U : World → Prop} (hi : ops[i]? = some oi) (hist : i ≠ st) (hsel : ∀ (j : Nat) (o : Oper) cs b, ops[j]? = some o → o.op ≠ .select cs b)
    (hQ : ∀ c a w, Q (.panic c) (a.put oi.dst v) w → Q (.panic c) a w) :
    ∀ (fuel : Nat) (listed : Array Bool) (a : Act) (w : World),
      (∀ j oj, ops[j]? = some oj → j ≠ i → listed.getD j true = false → (∀ e ∈ oj.after, Region.binds md e = true → e.on ≠ i) → oi.apart ops oj = true) →
      i ∈ Region.ready md ops listed → YieldsIf P ops U oi v a → Leans md ops S T st i listed U → S w → (listed.getD st true = false → T w) →
      wpAnyU P md ops Q S T st fuel (listed.setIfInBounds i true) (a.put oi.dst v) w → wpAnyU P md ops Q S T st (fuel + 1) listed a w := by
  intro fuel
  induction fuel with
  | zero =>
    intro listed a w _ hr hy hL hS hT H
    have hU : U w := by
      rcases hL with rfl | ⟨rfl, -, h⟩
      · exact hS
      · exact ⟨hS, hT h⟩
    refine ⟨fun h => (by rw [h] at hr; cases hr), fun j hj => ?_⟩
    by_cases hji : j = i
    · subst hji
      exact hy.wpOp hi hU ⟨⟨hS, fun h => hT (by rwa [getD_set_ne true hist] at h)⟩, H⟩
    · have := ready_mono hj hji
      rw [H.1] at this
      cases this
  | succ fuel ih =>
    intro listed a w hfree hr hy hL hS hT H
    have hU : U w := by
      rcases hL with rfl | ⟨rfl, -, h⟩
      · exact hS
      · exact ⟨hS, hT h⟩
    refine ⟨fun h => (by rw [h] at hr; cases hr), fun j hj => ?_⟩
    by_cases hji : j = i
    · subst hji
      exact hy.wpOp hi hU ⟨⟨hS, fun h => hT (by rwa [getD_set_ne true hist] at h)⟩, H⟩
    · have h1 := H.2 j (ready_mono hj hji)
      obtain ⟨hjun, oj, hoj, hall⟩ := mem_ready.1 hj
      have hiun : listed.getD i true = false := (mem_ready.1 hr).1
      have hclash : ∀ x, x = i → listed.getD x false = true → False := fun x hx hq => by
        rw [hx] at hq
        rcases Nat.lt_or_ge i listed.size with h' | h'
        · simp [h'] at hiun hq; rw [hiun] at hq; cases hq
        · simp [Array.getElem?_eq_none h'] at hq
      have hnot : ∀ e ∈ oj.after, Region.binds md e = true → e.on ≠ i := fun e he hb heq => hclash _ heq (hall e he hb)
      have h2 := wpOp_putIf hoj (hfree j oj hoj hji hjun hnot) (fun cs b => hsel i oi cs b hi) (fun cs b => hsel j oj cs b hoj) hQ hy h1
      have hfree' : ∀ k ok, ops[k]? = some ok → k ≠ i → (listed.setIfInBounds j true).getD k true = false →
          (∀ e ∈ ok.after, Region.binds md e = true → e.on ≠ i) → oi.apart ops ok = true := fun k ok hk hki hun hno => by
        refine hfree k ok hk hki ?_ hno
        by_cases hjk : j = k
        · subst hjk; exact hjun
        · rw [getD_set_ne true hjk] at hun; exact hun
      have hL' : Leans md ops S T st i (listed.setIfInBounds j true) U := by
        rcases hL with h | ⟨h3, h4, h6⟩
        · exact .inl h
        · refine .inr ⟨h3, h4, ?_⟩
          have hjst : j ≠ st := fun e => by
            subst e
            obtain ⟨e, he, hb, heq⟩ := waitsOn_spec h4 hoj
            exact hnot e he hb heq
          rw [getD_set_ne true hjst]; exact h6
      refine wpOp_mono (fun a' w' h3 => ?_) h2
      have hT' : (listed.setIfInBounds j true).getD st true = false → T w' := fun h => h3.2.1.2 (by rw [Array.setIfInBounds_comm _ _ (Ne.symm hji), getD_set_ne true hist]; exact h)
      refine ⟨⟨h3.2.1.1, hT'⟩, ih (listed.setIfInBounds j true) a' w' hfree' (ready_mono hr (Ne.symm hji)) h3.1 hL' h3.2.1.1 hT' ?_⟩
      rw [Array.setIfInBounds_comm _ _ hji]
      exact h3.2.2
/-- the marks: 0, it reads under S; 1, it reads under S and T; 2, it stands alone -/
def lexU (md : Region.Mode) (ops : Array Oper) (st : Nat) : List Nat → Nat → Array Bool → Bool
  | [], _, listed => (Region.ready md ops listed).isEmpty
  | 0 :: r, k, listed => (Region.ready md ops listed).contains k && Region.free md ops listed k && !(k == st) && lexU md ops st r (k + 1) (listed.setIfInBounds k true)
  | 1 :: r, k, listed => (Region.ready md ops listed).contains k && Region.free md ops listed k && (!(k == st) && waitsOn md ops st k && !(listed.getD st true)) && lexU md ops st r (k + 1) (listed.setIfInBounds k true)
  | _ :: r, k, listed => (Region.ready md ops listed == [k]) && lexU md ops st r (k + 1) (listed.setIfInBounds k true)
/-- the walk in the order of the text; n: how many operations are left up to the store -/
def wpMixU (P : Program) (ops : Array Oper) (Q : Exit → Act → World → Prop) (S T : World → Prop) (st : Nat) : List Oper → List Nat → Nat → Act → World → Prop
  | o :: l, 0 :: r, k, a, w => ∃ v, YieldsIf P ops S o v a ∧ wpMixU P ops Q S T st l r (k + 1) (a.put o.dst v) w
  | o :: l, 1 :: r, k, a, w => ∃ v, YieldsIf P ops (fun w => S w ∧ T w) o v a ∧ wpMixU P ops Q S T st l r (k + 1) (a.put o.dst v) w
  | o :: l, _ :: r, k, a, w => Region.wanted o (yielded ops a.tmps) = true ∧ Oper.wp P o a w (fun a' w' => S w' ∧ (k < st → T w') ∧ wpMixU P ops Q S T st l r (k + 1) a' w') Q
  | [], [], _, a, w => Q .normal a w
  | _, _, _, _, _ => False
theorem wpMixU_take {o : Oper} {l : List Oper} {r : List Nat} {k : Nat} {a : Act} {w : World} (v : Value) (hw : Region.wanted o (yielded ops a.tmps) = true) (hv : ∀ w, S w → (execOp a.eval o).run P w = .ok (.value v) w) (h : wpMixU P ops Q S T st l r (k + 1) (a.put o.dst v) w) :
    wpMixU P ops Q S T st (o :: l) (0 :: r) k a w := by unfold wpMixU; exact ⟨v, .inl ⟨hw, hv⟩, h⟩
theorem wpMixU_take1 {o : Oper} {l : List Oper} {r : List Nat} {k : Nat} {a : Act} {w : World} (v : Value) (hw : Region.wanted o (yielded ops a.tmps) = true) (hv : ∀ w, S w ∧ T w → (execOp a.eval o).run P w = .ok (.value v) w) (h : wpMixU P ops Q S T st l r (k + 1) (a.put o.dst v) w) :
    wpMixU P ops Q S T st (o :: l) (1 :: r) k a w := by unfold wpMixU; exact ⟨v, .inl ⟨hw, hv⟩, h⟩
theorem wpMixU_alone {o : Oper} {l : List Oper} {r : List Nat} {k : Nat} {a : Act} {w : World} (hw : Region.wanted o (yielded ops a.tmps) = true)
    (h : ∀ K : Act → World → Prop, (∀ a w, S w → (k < st → T w) → wpMixU P ops Q S T st l r (k + 1) a w → K a w) → Oper.wp P o a w K Q) : wpMixU P ops Q S T st (o :: l) (2 :: r) k a w := by
  unfold wpMixU; exact ⟨hw, h _ (fun _ _ h1 h2 h3 => ⟨h1, h2, h3⟩)⟩
theorem wpMixU_nil {k : Nat} {a : Act} {w : World} (h : Q .normal a w) : wpMixU P ops Q S T st [] [] k a w := by unfold wpMixU; exact h
theorem getD_set_self {listed : Array Bool} {k : Nat} : (listed.setIfInBounds k true).getD k true = true := by
  rcases Nat.lt_or_ge k listed.size with h' | h'
  · simp [h']
  · simp [h']
theorem wpAnyU_mix (hs : Region.noSelect ops = true) (hQ : ∀ c a d v w, Q (.panic c) (a.put d v) w → Q (.panic c) a w) : ∀ (r : List Nat) (l : List Oper) (k : Nat) (listed : Array Bool) (a : Act) (w : World), (∀ j, l[j]? = ops[k + j]?) →
    lexU md ops st r k listed = true → (listed.getD st true = false → k ≤ st) → S w → (k ≤ st → T w) → wpMixU P ops Q S T st l r k a w → wpAnyU P md ops Q S T st l.length listed a w
  | [], [], k, listed, a, w, _, hB, _, _, _, h => by
    unfold wpMixU at h
    exact ⟨by simpa [lexU] using hB, h⟩
  | [], o :: l, k, listed, a, w, _, _, _, _, _, h => by unfold wpMixU at h; exact h.elim
  | _ :: _, [], k, listed, a, w, _, _, _, _, _, h => by unfold wpMixU at h; exact h.elim
  | 0 :: r, o :: l, k, listed, a, w, hj, hB, hk, hS, hT, h => by
    have h0 : ops[k]? = some o := by simpa using (hj 0).symm
    have hj' : ∀ j, l[j]? = ops[k + 1 + j]? := fun j => by have := hj (j + 1); simpa [Nat.add_assoc, Nat.add_comm 1 j] using this
    simp only [lexU, Bool.and_eq_true, Bool.not_eq_true', beq_eq_false_iff_ne, ne_eq] at hB
    obtain ⟨⟨⟨hr, hf⟩, hne⟩, hB'⟩ := hB
    unfold wpMixU at h
    obtain ⟨v, hy, h⟩ := h
    have hk' : (listed.setIfInBounds k true).getD st true = false → k + 1 ≤ st := fun h => by
      rw [getD_set_ne true hne] at h; have := hk h; omega
    exact wpAnyU_first h0 hne (Region.noSelect_spec hs) (fun c a w => hQ c a _ _ w) l.length listed a w (Region.free_spec h0 hf) (by simpa using hr) hy (.inl rfl) hS (fun h => hT (hk h))
      (wpAnyU_mix hs hQ r l (k + 1) _ _ w hj' hB' hk' hS (fun h => hT (by omega)) h)
  | 1 :: r, o :: l, k, listed, a, w, hj, hB, hk, hS, hT, h => by
    have h0 : ops[k]? = some o := by simpa using (hj 0).symm
    have hj' : ∀ j, l[j]? = ops[k + 1 + j]? := fun j => by have := hj (j + 1); simpa [Nat.add_assoc, Nat.add_comm 1 j] using this
    simp only [lexU, Bool.and_eq_true, Bool.not_eq_true', beq_eq_false_iff_ne, ne_eq] at hB
    obtain ⟨⟨⟨hr, hf⟩, ⟨hne, hw8⟩, hun⟩, hB'⟩ := hB
    unfold wpMixU at h
    obtain ⟨v, hy, h⟩ := h
    have hk' : (listed.setIfInBounds k true).getD st true = false → k + 1 ≤ st := fun h => by
      rw [getD_set_ne true hne] at h; have := hk h; omega
    exact wpAnyU_first h0 hne (Region.noSelect_spec hs) (fun c a w => hQ c a _ _ w) l.length listed a w (Region.free_spec h0 hf) (by simpa using hr) hy (.inr ⟨rfl, hw8, hun⟩) hS (fun h => hT (hk h))
      (wpAnyU_mix hs hQ r l (k + 1) _ _ w hj' hB' hk' hS (fun h => hT (by omega)) h)
  | (m + 2) :: r, o :: l, k, listed, a, w, hj, hB, hk, hS, hT, h => by
    have h0 : ops[k]? = some o := by simpa using (hj 0).symm
    have hj' : ∀ j, l[j]? = ops[k + 1 + j]? := fun j => by have := hj (j + 1); simpa [Nat.add_assoc, Nat.add_comm 1 j] using this
    simp only [lexU, Bool.and_eq_true, beq_iff_eq] at hB
    obtain ⟨hr, hB'⟩ := hB
    refine ⟨fun h1 => (by rw [hr] at h1; cases h1), fun i hi => ?_⟩
    rw [hr] at hi
    obtain rfl : i = k := by simpa using hi
    unfold wpMixU at h
    obtain ⟨hw, h⟩ := h
    unfold wpOp
    rw [h0]
    simp only
    rw [if_pos hw]
    have hk' : (listed.setIfInBounds i true).getD st true = false → i + 1 ≤ st := fun h => by
      by_cases e : i = st
      · subst e; rw [getD_set_self] at h; cases h
      · rw [getD_set_ne true e] at h; have := hk h; omega
    exact .inl (Oper.wp_mono (fun a' w' h' => ⟨⟨h'.1, fun h => h'.2.1 (by have := hk' h; omega)⟩, wpAnyU_mix hs hQ r l (i + 1) _ _ w' hj' hB' hk' h'.1 (fun h => h'.2.1 (by omega)) h'.2.2⟩) h)
/-- A region that draws its order: S holds always, T up to the store 'st'. -/
theorem region_until {id : Nat} {a : Act} {w : World} {l : List Oper} (r : List Nat) (st : Nat) (S T : World → Prop) (hm : P.follows .mixedOrders = true) (hs : Region.noSelect l.toArray = true) (hlt : st < l.length)
    (hB : lexU .any l.toArray st r 0 (Array.replicate l.length false) = true) (hS : S w.drew) (hT : T w.drew)
    (h : wpMixU P l.toArray (NoPanic Q) S T st l r 0 a w.drew) : (Code.region id l.toArray true).wp P Q a w := by
  refine wp_region_noPanic (wp_region_any hm (wpAny_of_until (S := S) (T := T) (st := st) _ _ _ _ ?_))
  have := wpAnyU_mix (md := .any) (Q := NoPanic Q) (S := S) (T := T) (st := st) hs (fun _ _ _ _ _ h => h) r l 0 (Array.replicate l.length false) a w.drew (by simp) (by simpa using hB) (fun _ => Nat.zero_le _) hS (fun _ => hT) h
  simpa using this
end
end Go.Proofs.Ytiapoalkkhpmlaa
