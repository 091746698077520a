/-
  Plain: a block's words and rounds, as the code reckons them.
-/
import Derived.Test.YtmahaihcmmmhbaaSh6
namespace Go.Proofs.Ytmahaihcmmmhbaa
open Go.RowKit
theorem shrP_u (x a b : Int) (c : Nat) : 0 ≤ shrP x a b c ∧ shrP x a b c < 4294967296 := by
  unfold shrP
  have h1 := bits_lo_u32 .xor (bits .xor .u32 (rotP x (rotS (-a))) (rotP x (rotS (-b)))) (x / 2 ^ c)
  have h2 := bits_hi_u32 .xor (bits .xor .u32 (rotP x (rotS (-a))) (rotP x (rotS (-b)))) (x / 2 ^ c)
  omega
theorem rorP_u (x a b c : Int) : 0 ≤ rorP x a b c ∧ rorP x a b c < 4294967296 := by
  unfold rorP
  have h1 := bits_lo_u32 .xor (bits .xor .u32 (rotP x (rotS (-a))) (rotP x (rotS (-b)))) (rotP x (rotS (-c)))
  have h2 := bits_hi_u32 .xor (bits .xor .u32 (rotP x (rotS (-a))) (rotP x (rotS (-b)))) (rotP x (rotS (-c)))
  omega
theorem bits_u32 (o : BinOp) (x y : Int) : 0 ≤ bits o .u32 x y ∧ bits o .u32 x y < 4294967296 := by
  have h1 := bits_lo_u32 o x y
  have h2 := bits_hi_u32 o x y
  omega
theorem wrap_u32 (x : Int) : 0 ≤ IntKind.u32.wrap x ∧ IntKind.u32.wrap x < 4294967296 := by
  rw [IntKind.wrap_u32]; omega
/-- a byte into its word -/
def wSet (W : List Int) (i : Nat) (c : Int) : List Int := W.set (i / 4) (bits .or .u32 (W.getD (i / 4) 0 * 256 % 4294967296) c)
/-- behind i bytes -/
def wLay (B : List Int) : Nat → List Int
  | 0 => List.replicate 64 0
  | i + 1 => wSet (wLay B i) i (B.getD i 0)
/-- the word at i, out of those ahead of it -/
def wNew (W : List Int) (i : Nat) : Int := IntKind.u32.wrap (IntKind.u32.wrap (IntKind.u32.wrap (shrP (W.getD (i - 2) 0) 17 19 10 + W.getD (i - 7) 0) + shrP (W.getD (i - 15) 0) 7 18 3) + W.getD (i - 16) 0)
def wExt (W : List Int) : Nat → List Int
  | 0 => W
  | j + 1 => (wExt W j).set (16 + j) (wNew (wExt W j) (16 + j))
def wAll (B : List Int) : List Int := wExt (wLay B 64) 48
/-- a round: eight words -/
def rndX (v : List Int) (k w : Int) : Int := (v.getD 7 0 + rorP (v.getD 4 0) 6 11 25 + bits .xor .u32 (bits .and .u32 (v.getD 4 0) (v.getD 5 0)) (bits .and .u32 (bits .xor .u32 IntKind.u32.max (v.getD 4 0)) (v.getD 6 0)) + k + w) % 4294967296
def rndY (v : List Int) : Int := (rorP (v.getD 0 0) 2 13 22 + bits .xor .u32 (bits .xor .u32 (bits .and .u32 (v.getD 0 0) (v.getD 1 0)) (bits .and .u32 (v.getD 0 0) (v.getD 2 0))) (bits .and .u32 (v.getD 1 0) (v.getD 2 0))) % 4294967296
def rnd (v : List Int) (k w : Int) : List Int := [(rndX v k w + rndY v) % 4294967296, v.getD 0 0, v.getD 1 0, v.getD 2 0, (v.getD 3 0 + rndX v k w) % 4294967296, v.getD 4 0, v.getD 5 0, v.getD 6 0]
def rnds (T W S : List Int) : Nat → List Int
  | 0 => S
  | i + 1 => rnd (rnds T W S i) (T.getD (8 + i) 0) (W.getD i 0)
/-- the sum with what was there -/
def addP (S v : List Int) : Nat → List Int
  | 0 => v
  | i + 1 => (addP S v i).set i (((addP S v i).getD i 0 + S.getD i 0) % 4294967296)
def blockP (T S B : List Int) : List Int := addP S (rnds T (wAll B) S 64) 8
theorem wSet_length (W : List Int) (i : Nat) (c : Int) : (wSet W i c).length = W.length := by unfold wSet; rw [List.length_set]
theorem wLay_length (B : List Int) : ∀ i, (wLay B i).length = 64
  | 0 => List.length_replicate
  | i + 1 => by rw [wLay, wSet_length, wLay_length B i]
theorem wLay_u (B : List Int) : ∀ i, U32 (wLay B i)
  | 0 => by
    rw [wLay]
    intro x hx
    have := (List.mem_replicate.1 hx).2
    omega
  | i + 1 => by
    rw [wLay]
    exact (wLay_u B i).set _ (bits_u32 _ _ _)
theorem wExt_length (W : List Int) : ∀ j, (wExt W j).length = W.length
  | 0 => rfl
  | j + 1 => by rw [wExt, List.length_set, wExt_length W j]
theorem wExt_u {W : List Int} (h : U32 W) : ∀ j, U32 (wExt W j)
  | 0 => h
  | j + 1 => (wExt_u h j).set _ (wrap_u32 _)
theorem wAll_length (B : List Int) : (wAll B).length = 64 := by unfold wAll; rw [wExt_length, wLay_length]
theorem wAll_u (B : List Int) : U32 (wAll B) := wExt_u (wLay_u B 64) 48
theorem rnd_length (v : List Int) (k w : Int) : (rnd v k w).length = 8 := rfl
theorem rnd_u {v : List Int} (h : U32 v) (k w : Int) : U32 (rnd v k w) := fun x hx => by
  unfold rnd at hx
  simp only [List.mem_cons, List.not_mem_nil, or_false] at hx
  rcases hx with rfl | rfl | rfl | rfl | rfl | rfl | rfl | rfl
  · omega
  · exact h.get 0
  · exact h.get 1
  · exact h.get 2
  · omega
  · exact h.get 4
  · exact h.get 5
  · exact h.get 6
theorem rnds_length (T W : List Int) {S : List Int} (h : S.length = 8) : ∀ i, (rnds T W S i).length = 8
  | 0 => h
  | _ + 1 => rfl
theorem rnds_u (T W : List Int) {S : List Int} (h : U32 S) : ∀ i, U32 (rnds T W S i)
  | 0 => h
  | i + 1 => rnd_u (rnds_u T W h i) _ _
theorem addP_length (S v : List Int) : ∀ i, (addP S v i).length = v.length
  | 0 => rfl
  | i + 1 => by rw [addP, List.length_set, addP_length S v i]
theorem addP_u (S : List Int) {v : List Int} (h : U32 v) : ∀ i, U32 (addP S v i)
  | 0 => h
  | i + 1 => (addP_u S h i).set _ (by omega)
theorem blockP_length (T B : List Int) {S : List Int} (h : S.length = 8) : (blockP T S B).length = 8 := by unfold blockP; rw [addP_length, rnds_length _ _ h]
theorem blockP_u (T B : List Int) {S : List Int} (h : U32 S) : U32 (blockP T S B) := addP_u S (rnds_u T _ h 64) 8
end Go.Proofs.Ytmahaihcmmmhbaa
