/-
  Plain: what a flash does, over lists of numbers.
-/
import Derived.Test.YtmeegehmbphooaaKit
namespace Go.Proofs.Ytmeegehmbphooaa

/-- bits of both -/
def wand (a b : Int) : Int := ((a.toNat &&& b.toNat : Nat) : Int)
theorem wand_lo (a b : Int) : 0 ≤ wand a b := by unfold wand; omega
theorem wand_le (a b : Int) (ha : 0 ≤ a) : wand a b ≤ a := by
  have := Nat.and_le_left (n := a.toNat) (m := b.toNat)
  unfold wand; omega
theorem wand_u32 {a b : Int} (ha : 0 ≤ a ∧ a < 4294967296) : 0 ≤ wand a b ∧ wand a b < 4294967296 :=
  ⟨wand_lo _ _, by have := wand_le a b ha.1; omega⟩
theorem wand_idem (a b : Int) : wand (wand a b) b = wand a b := by
  unfold wand; simp [Nat.and_assoc]
theorem wand_right (a b c : Int) : wand (wand a b) c = wand (wand a c) b := by
  unfold wand; simp only [Int.toNat_natCast]; rw [Nat.and_assoc, Nat.and_comm b.toNat, ← Nat.and_assoc]

/-- A flash. -/
structure NorS where
  n : Nat
  l : List Int
  guard : Int
  arm : Int
  down : Bool
  half : Int

namespace NorS
structure Ok (s : NorS) : Prop where
  len : s.l.length = 64 * s.n
  n1 : 1 ≤ s.n
  n2 : s.n ≤ 1024
  g0 : 0 ≤ s.guard
  g1 : s.guard ≤ s.n
  a0 : -1 ≤ s.arm
  a1 : s.arm ≤ 9223372036854775807
  h0 : -1 ≤ s.half
  h1 : s.half < s.n
  u : U32 s.l

def there (s : NorS) (sec k m : Int) : Bool := decide (0 ≤ sec) && decide (sec < s.n) && decide (0 ≤ k) && decide (m ≤ 64) && decide (k ≤ 64 - m)
def up (s : NorS) (sec k m : Int) : Int := if s.down = true then 40 else if s.there sec k m = true then 0 else 2
def step (s : NorS) : NorS := if s.arm = 0 then { s with down := true, arm := -1 } else { s with arm := max (s.arm - 1) (-1) }
def steps (s : NorS) : Bool := !(s.arm == 0)
/-- the place of a word -/
def at_ (sec k : Int) : Nat := sec.toNat * 64 + k.toNat
/-- a word -/
def wd (s : NorS) (i : Nat) : Int := s.l.getD i 0
def read (s : NorS) (sec k : Int) : Int := if s.up sec k 1 = 0 then s.wd (at_ sec k) else 0
def put (s : NorS) (i : Nat) (x : Int) : NorS := { s with l := s.l.set i x }
def prog : NorS → Nat → List Int → NorS
  | s, _, [] => s
  | s, i, x :: r => if s.steps = true then prog (s.step.put i (wand (s.wd i) x)) (i + 1) r else s.step
def progs : NorS → List Int → Bool
  | _, [] => true
  | s, _ :: r => if s.steps = true then progs s.step r else false
def program (s : NorS) (sec k : Int) (xs : List Int) : NorS := if s.up sec k xs.length = 0 then s.prog (at_ sec k) xs else s
def programE (s : NorS) (sec k : Int) (xs : List Int) : Int := if s.up sec k xs.length = 0 then (if s.progs xs = true then 0 else 40) else s.up sec k xs.length
/-- the words from i on are those -/
def lay : List Int → Nat → List Int → List Int
  | l, _, [] => l
  | l, i, x :: r => lay (l.set i x) (i + 1) r
def erase (s : NorS) (sec : Int) : NorS :=
  if s.up sec 0 0 = 0 then (if s.steps = true then { s.step with l := lay s.l (at_ sec 0) (List.replicate 64 4294967295) } else { s.step with half := sec }) else s
def eraseE (s : NorS) (sec : Int) : Int := if s.up sec 0 0 = 0 then (if s.steps = true then 0 else 40) else s.up sec 0 0
def rewriteE (s : NorS) (sec k : Int) (xs : List Int) : Int := if s.there sec k xs.length = true then (if sec < s.guard then 41 else 0) else 2
def rewrite (s : NorS) (sec k : Int) (xs : List Int) : NorS := if s.rewriteE sec k xs = 0 then { s with l := lay s.l (at_ sec k) xs } else s
def arms (s : NorS) (k : Int) : NorS := if s.down = true then s else { s with arm := max k 0 }
/-- of a half-erased sector that begins at base: word i, and on -/
def burn (ks : List Bool) (base : Nat) : Nat → Nat → List Int → List Int
  | 0, _, l => l
  | m + 1, i, l => burn ks base m (i + 1) (if ks.getD i false = true then l.set (base + i) 4294967295 else l)
def crash (s : NorS) (ks : List Bool) : NorS :=
  { s with l := if 0 ≤ s.half then burn ks (at_ s.half 0) 64 0 s.l else s.l, down := false, arm := -1, half := -1 }
def new (n : Nat) (g : Int) : NorS := { n, l := List.replicate (64 * n) 4294967295, guard := g, arm := -1, down := false, half := -1 }

theorem lay_length (xs : List Int) : ∀ (l : List Int) (i : Nat), (lay l i xs).length = l.length := by
  induction xs with
  | nil => intro l i; rfl
  | cons x r ih => intro l i; simp [lay, ih]
theorem lay_u32 (xs : List Int) (hx : U32 xs) : ∀ (l : List Int) (i : Nat), U32 l → U32 (lay l i xs) := by
  induction xs with
  | nil => intro l i h; exact h
  | cons x r ih => intro l i h; exact ih (fun y hy => hx y (List.mem_cons_of_mem _ hy)) _ _ (h.set i (hx x List.mem_cons_self))
theorem Ok.step {s : NorS} (h : s.Ok) : s.step.Ok := by
  have := h.a0; have := h.a1
  unfold NorS.step
  split
  · exact ⟨h.len, h.n1, h.n2, h.g0, h.g1, by simp, by simp, h.h0, h.h1, h.u⟩
  · exact ⟨h.len, h.n1, h.n2, h.g0, h.g1, by show -1 ≤ max _ _; omega, by show max _ _ ≤ _; omega, h.h0, h.h1, h.u⟩
theorem Ok.put {s : NorS} (h : s.Ok) (i : Nat) {x : Int} (hx : 0 ≤ x ∧ x < 4294967296) : (s.put i x).Ok :=
  ⟨by simpa [NorS.put] using h.len, h.n1, h.n2, h.g0, h.g1, h.a0, h.a1, h.h0, h.h1, h.u.set i hx⟩
theorem Ok.wd {s : NorS} (h : s.Ok) (i : Nat) : 0 ≤ s.wd i ∧ s.wd i < 4294967296 := h.u.get i
theorem up_zero {s : NorS} {sec k m : Int} (h : s.up sec k m = 0) : s.down = false ∧ 0 ≤ sec ∧ sec < s.n ∧ 0 ≤ k ∧ k ≤ 64 - m := by
  unfold up at h
  split at h
  · cases h
  · split at h
    · rename_i h1 h2
      unfold there at h2
      simp only [Bool.and_eq_true, decide_eq_true_eq] at h2
      exact ⟨by simpa using h1, h2.1.1.1.1, h2.1.1.1.2, h2.1.1.2, h2.2⟩
    · cases h
theorem step_put (s : NorS) (i : Nat) (x : Int) : (s.put i x).step = s.step.put i x := by
  unfold step put; split <;> rfl
theorem progs_put (xs : List Int) : ∀ (s : NorS) (i : Nat) (x : Int), (s.put i x).progs xs = s.progs xs := by
  induction xs with
  | nil => intro s i x; rfl
  | cons y r ih =>
    intro s i x
    show (if (s.put i x).steps = true then _ else _) = if s.steps = true then _ else _
    rw [step_put, ih, show (s.put i x).steps = s.steps from rfl]
theorem step_l (s : NorS) : s.step.l = s.l := by unfold step; split <;> rfl
theorem step_n (s : NorS) : s.step.n = s.n := by unfold step; split <;> rfl

end NorS
end Go.Proofs.Ytmeegehmbphooaa
