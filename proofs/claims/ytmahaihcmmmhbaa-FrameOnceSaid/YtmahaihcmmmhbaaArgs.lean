/-
  Arguments: rows of words and of truths.
-/
import Derived.Test.YtmahaihcmmmhbaaGen
namespace Go.Proofs.Ytmahaihcmmmhbaa
open Go.RowKit
/-- An argument of words. -/
structure RowArg (w : World) (B : Nat) (A : Option Addr) (c : Nat) (xs : List Int) : Prop where
  r : Rd w A (ints .u32 xs)
  b : xs ≠ [] → ∀ a, A = some a → a.block < B
  u : U32 xs
  l : xs.length ≤ c
  m : (c : Int) ≤ 9223372036854775807
theorem RowArg.len {w : World} {B : Nat} {A : Option Addr} {c : Nat} {xs : List Int} (h : RowArg w B A c xs) : (xs.length : Int) ≤ 9223372036854775807 := by have := h.l; have := h.m; omega
theorem RowArg.frm {S : Nat → Prop} {w w' : World} {B : Nat} {A : Option Addr} {c : Nat} {xs : List Int} (h : RowArg w B A c xs) (hf : Frm S w w') (hs : ∀ k, k < B → ¬ S k) : RowArg w' B A c xs :=
  ⟨by
    by_cases e : xs = []
    · rw [e]; exact Rd.nil _ _
    · exact h.r.frm hf (fun a ha => hs _ (h.b e a ha)), h.b, h.u, h.l, h.m⟩
theorem RowArg.take {w : World} {B : Nat} {A : Option Addr} {c : Nat} {xs : List Int} (h : RowArg w B A c xs) (n : Nat) : RowArg w B A c (xs.take n) :=
  ⟨by rw [ints_take]; exact h.r.take n, fun hne => h.b (fun e => hne (by rw [e]; simp)), h.u.take n, by have := h.l; rw [List.length_take]; omega, h.m⟩
/-- A row of words, in a block that Q tells of. -/
structure RowOut (w : World) (Q : Nat → Prop) (A : Option Addr) (c : Nat) (xs : List Int) : Prop where
  r : Rd w A (ints .u32 xs)
  b : xs ≠ [] → ∀ a, A = some a → Q a.block
  u : U32 xs
  l : xs.length ≤ c
  m : (c : Int) ≤ 9223372036854775807
theorem RowOut.len {w : World} {Q : Nat → Prop} {A : Option Addr} {c : Nat} {xs : List Int} (h : RowOut w Q A c xs) : (xs.length : Int) ≤ 9223372036854775807 := by have := h.l; have := h.m; omega
theorem RowOut.frm {S Q : Nat → Prop} {w w' : World} {A : Option Addr} {c : Nat} {xs : List Int} (h : RowOut w Q A c xs) (hf : Frm S w w') (hs : ∀ k, Q k → ¬ S k) : RowOut w' Q A c xs :=
  ⟨by
    by_cases e : xs = []
    · rw [e]; exact Rd.nil _ _
    · exact h.r.frm hf (fun a ha => hs _ (h.b e a ha)), h.b, h.u, h.l, h.m⟩
theorem RowArg.out {w : World} {B : Nat} {A : Option Addr} {c : Nat} {xs : List Int} (h : RowArg w B A c xs) : RowOut w (fun k => k < B) A c xs := ⟨h.r, h.b, h.u, h.l, h.m⟩
structure BoolArg (w : World) (B : Nat) (A : Option Addr) (ks : List Bool) : Prop where
  r : Rd w A (bools ks)
  b : ks ≠ [] → ∀ a, A = some a → a.block < B
  m : (ks.length : Int) ≤ 9223372036854775807
theorem BoolArg.frm {S : Nat → Prop} {w w' : World} {B : Nat} {A : Option Addr} {ks : List Bool} (h : BoolArg w B A ks) (hf : Frm S w w') (hs : ∀ k, k < B → ¬ S k) : BoolArg w' B A ks :=
  ⟨by
    by_cases e : ks = []
    · rw [e]; exact Rd.nil _ _
    · exact h.r.frm hf (fun a ha => hs _ (h.b e a ha)), h.b, h.m⟩
end Go.Proofs.Ytmahaihcmmmhbaa
