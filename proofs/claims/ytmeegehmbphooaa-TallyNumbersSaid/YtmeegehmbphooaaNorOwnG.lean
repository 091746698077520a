/-
  The flash of a call's own: its contracts at literals.
-/
import Derived.Test.YtmeegehmbphooaaNorGen
namespace Go.Proofs.Ytmeegehmbphooaa
open Go.RowKit

/-- A flash that was made since the world w0. -/
structure Own (w0 w : World) (p q c : Nat) (s : NorS) : Prop where
  n : NorAt w p q c s
  f : Frm NoB w0 w
  p0 : w0.heap.size ≤ p
  q0 : w0.heap.size ≤ q
section
variable {w0 w w' : World} {p q c : Nat} {s : NorS}
theorem Frm.own (h : Frm NoB w0 w) (hp : w0.heap.size ≤ p) (hq : w0.heap.size ≤ q) (k : Frm (Two p q) w w') : Frm NoB w0 w' :=
  h.then_ k (fun i hi he => by rcases he with he | he <;> omega)
theorem Own.alloc (h : Own w0 w p q c s) (o : Obj) : Own w0 (w.alloc o) p q c s := ⟨h.n.alloc o, h.f.alloc o, h.p0, h.q0⟩
theorem Own.drewN (h : Own w0 w p q c s) (k : Nat) : Own w0 (w.drewN k) p q c s := ⟨h.n.drewN k, h.f.drewN k, h.p0, h.q0⟩
theorem Own.drew (h : Own w0 w p q c s) : Own w0 w.drew p q c s := ⟨h.n.drew, h.f.drew, h.p0, h.q0⟩
theorem Own.frm (h : Own w0 w p q c s) (k : Frm NoB w w') : Own w0 w' p q c s := ⟨h.n.frm k (fun e => e) (fun e => e), h.f.trans k, h.p0, h.q0⟩
theorem Own.step {s' : NorS} (h : Own w0 w p q c s) (hn : NorAt w' p q c s') (k : Frm (Two p q) w w') : Own w0 w' p q c s' := ⟨hn, h.f.own h.p0 h.q0 k, h.p0, h.q0⟩
/-- another flash's doing -/
theorem Own.other {p' q' : Nat} (h : Own w0 w p q c s) (k : Frm (Two p' q') w w') (hp : w0.heap.size ≤ p') (hq : w0.heap.size ≤ q') (h1 : p ≠ p') (h2 : p ≠ q') (h3 : q ≠ p') (h4 : q ≠ q') : Own w0 w' p q c s :=
  ⟨h.n.frm k (fun e => e.elim h1 h2) (fun e => e.elim h3 h4), h.f.own hp hq k, h.p0, h.q0⟩
theorem rd_lit (w : World) (cs : List Value) (t : TypeId) : Rd (w.alloc (.cells cs.toArray t)) (some ⟨w.heap.size, 0, none⟩) cs := fun _ => ⟨w.heap.size, 0, rfl, fun i v hv => by
  rw [Nat.zero_add, (Blk.new w t cs.toArray).cell i]; simpa using hv⟩

/-- words that are written out are programmed -/
theorem own_program (sec k : Int) (xs : List Int) (h : Own w0 w p q c s) (ux : U32 xs) (hm : (xs.length : Int) ≤ 9223372036854775807) (n : Nat) (hn : xs.length = n) (cs : Array Value) (hcs : cs = (ints .u32 xs).toArray) :
    Calls Try.prog 49 #[.pointer (some ⟨p, 0, none⟩), .int .i64 sec, .int .i64 k, .slice (some ⟨w.heap.size, 0, none⟩) n n] (w.alloc (.cells cs 37)) fun e w' => e = .returned (.int .i64 (s.programE sec k xs)) ∧ Own w0 w' p q c (s.program sec k xs) := by
  subst hcs
  have hA := h.alloc (.cells (ints .u32 xs).toArray 37)
  refine (program_at sec k _ n n xs hn hA.n (rd_lit w _ _) (fun _ a ha e => ?_) ux hm).mono ?_
  · injection ha with ha
    subst ha
    have h1 := h.n.ltp; have h2 := h.n.ltq
    rcases e with e | e
    · exact absurd e (by show ¬ w.heap.size = p; omega)
    · exact absurd e (by show ¬ w.heap.size = q; omega)
  · rintro e w' ⟨rfl, hn, hf⟩
    exact ⟨rfl, hA.step hn hf⟩
theorem own_program_nil (sec k : Int) (h : Own w0 w p q c s) :
    Calls Try.prog 49 #[.pointer (some ⟨p, 0, none⟩), .int .i64 sec, .int .i64 k, .slice none 0 0] w fun e w' => e = .returned (.int .i64 (s.programE sec k [])) ∧ Own w0 w' p q c (s.program sec k []) := by
  refine (program_at sec k _ 0 0 [] rfl h.n (Rd.nil _ _) (fun _ a ha => by cases ha) (fun x hx => by cases hx) (by simp)).mono ?_
  rintro e w' ⟨rfl, hn, hf⟩
  exact ⟨rfl, h.step hn hf⟩
theorem own_rewrite (sec k : Int) (xs : List Int) (h : Own w0 w p q c s) (ux : U32 xs) (hm : (xs.length : Int) ≤ 9223372036854775807) (n : Nat) (hn : xs.length = n) (cs : Array Value) (hcs : cs = (ints .u32 xs).toArray) :
    Calls Try.prog 25 #[.pointer (some ⟨p, 0, none⟩), .int .i64 sec, .int .i64 k, .slice (some ⟨w.heap.size, 0, none⟩) n n] (w.alloc (.cells cs 37)) fun e w' => e = .returned (.int .i64 (s.rewriteE sec k xs)) ∧ Own w0 w' p q c (s.rewrite sec k xs) := by
  subst hcs
  have hA := h.alloc (.cells (ints .u32 xs).toArray 37)
  refine (rewrite_at sec k _ n n xs hn hA.n (rd_lit w _ _) ux hm).mono ?_
  rintro e w' ⟨rfl, hn, hf⟩
  exact ⟨rfl, hA.step hn hf⟩
theorem own_rewrite_nil (sec k : Int) (h : Own w0 w p q c s) :
    Calls Try.prog 25 #[.pointer (some ⟨p, 0, none⟩), .int .i64 sec, .int .i64 k, .slice none 0 0] w fun e w' => e = .returned (.int .i64 (s.rewriteE sec k [])) ∧ Own w0 w' p q c (s.rewrite sec k []) := by
  refine (rewrite_at sec k _ 0 0 [] rfl h.n (Rd.nil _ _) (fun x hx => by cases hx) (by simp)).mono ?_
  rintro e w' ⟨rfl, hn, hf⟩
  exact ⟨rfl, h.step hn hf⟩
theorem own_crash (ks : List Bool) (h : Own w0 w p q c s) (hm : (ks.length : Int) ≤ 9223372036854775807) (n : Nat) (hn : ks.length = n) (cs : Array Value) (hcs : cs = (bools ks).toArray) :
    Calls Try.prog 20 #[.pointer (some ⟨p, 0, none⟩), .slice (some ⟨w.heap.size, 0, none⟩) n n] (w.alloc (.cells cs 4)) fun e w' => e = .returned (.tuple #[]) ∧ Own w0 w' p q c (s.crash ks) := by
  subst hcs
  have hA := h.alloc (.cells (bools ks).toArray 4)
  subst hn
  refine (crash_is _ _ ks hA.n (rd_lit w _ _) (fun _ a ha e => ?_) hm).mono ?_
  · injection ha with ha
    subst ha
    have h1 := h.n.ltp; have h2 := h.n.ltq
    rcases e with e | e
    · exact absurd e (by show ¬ w.heap.size = p; omega)
    · exact absurd e (by show ¬ w.heap.size = q; omega)
  · rintro e w' ⟨rfl, hn, hf⟩
    exact ⟨rfl, hA.step hn hf⟩
theorem own_crash_nil (h : Own w0 w p q c s) :
    Calls Try.prog 20 #[.pointer (some ⟨p, 0, none⟩), .slice none 0 0] w fun e w' => e = .returned (.tuple #[]) ∧ Own w0 w' p q c (s.crash []) := by
  refine (crash_is none 0 [] h.n (Rd.nil _ _) (fun _ a ha => by cases ha) (by simp)).mono ?_
  rintro e w' ⟨rfl, hn, hf⟩
  exact ⟨rfl, h.step hn hf⟩
theorem own_erase (sec : Int) (h : Own w0 w p q c s) :
    Calls Try.prog 75 #[.pointer (some ⟨p, 0, none⟩), .int .i64 sec] w fun e w' => e = .returned (.int .i64 (s.eraseE sec)) ∧ Own w0 w' p q c (s.erase sec) := by
  refine (erase_is sec h.n).mono ?_
  rintro e w' ⟨rfl, hn, hf⟩
  exact ⟨rfl, h.step hn hf⟩
theorem own_arm (k : Int) (h : Own w0 w p q c s) (hk : k ≤ 9223372036854775807) :
    Calls Try.prog 19 #[.pointer (some ⟨p, 0, none⟩), .int .i64 k] w fun e w' => e = .returned (.tuple #[]) ∧ Own w0 w' p q c (s.arms k) := by
  refine (arm_is k h.n hk).mono ?_
  rintro e w' ⟨rfl, hn, hf⟩
  exact ⟨rfl, h.step hn hf⟩
theorem own_new (n g : Nat) (h : Frm NoB w0 w) (h1 : 1 ≤ n) (h2 : n ≤ 1024) (hg : g ≤ n) :
    Calls Try.prog 16 #[.int .i64 n, .int .i64 g] w fun e w' => ∃ p q c, e = .returned (.tuple #[.pointer (some ⟨p, 0, none⟩), .int .i64 0]) ∧ Own w0 w' p q c (NorS.new n g) ∧ w.heap.size ≤ p ∧ w.heap.size ≤ q ∧ Frm NoB w w' := by
  refine (new_is n g w h1 h2 hg).mono ?_
  rintro e w' ⟨p, q, c, rfl, hn, hp, hq, hf⟩
  have := h.size
  exact ⟨p, q, c, rfl, ⟨hn, h.trans hf, by omega, by omega⟩, hp, hq, hf⟩
end
end Go.Proofs.Ytmeegehmbphooaa
