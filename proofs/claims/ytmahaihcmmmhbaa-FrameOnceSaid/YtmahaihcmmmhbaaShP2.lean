/-
  Plain: digests of bytes.
-/
import Derived.Test.YtmahaihcmmmhbaaShP
import Derived.Test.YtmahaihcmmmhbaaSh8
namespace Go.Proofs.Ytmahaihcmmmhbaa
/-- the state behind k blocks of bytes -/
def bks (T S xs : List Int) : Nat → List Int
  | 0 => S
  | k + 1 => blockP T (bks T S xs k) ((xs.drop (64 * k)).take 64)
/-- behind all whole blocks -/
def bkA (T S xs : List Int) : List Int := bks T S xs (xs.length / 64)
/-- what is left -/
def bkR (xs : List Int) : List Int := xs.drop (64 * (xs.length / 64))
theorem bks_length (T xs : List Int) {S : List Int} (h : S.length = 8) : ∀ k, (bks T S xs k).length = 8
  | 0 => h
  | k + 1 => blockP_length T _ (bks_length T xs h k)
theorem bks_u (T xs : List Int) {S : List Int} (h : U32 S) : ∀ k, U32 (bks T S xs k)
  | 0 => h
  | k + 1 => blockP_u T _ (bks_u T xs h k)
/-- a hasher: state, what is left, how many -/
structure HashS where
  s : List Int
  r : List Int
  n : Nat
structure HashS.Ok (h : HashS) : Prop where
  len : h.s.length = 8
  u : U32 h.s
  ru : U8 h.r
  rl : h.r.length = h.n % 64
  m : h.n ≤ 72057594037927936
def HashS.write (T : List Int) (h : HashS) (xs : List Int) : HashS := ⟨bkA T h.s (h.r ++ xs), bkR (h.r ++ xs), h.n + xs.length⟩
theorem bkR_length (xs : List Int) : (bkR xs).length = xs.length % 64 := by unfold bkR; rw [List.length_drop]; omega
theorem HashS.Ok.write {T : List Int} {h : HashS} (k : h.Ok) {xs : List Int} (hu : U8 xs) (hm : h.n + xs.length ≤ 72057594037927936) : (h.write T xs).Ok :=
  ⟨bks_length T _ k.len _, bks_u T _ k.u _, (k.ru.append hu).drop _, by show (bkR _).length = _; rw [bkR_length, List.length_append, k.rl]; show _ = (h.n + xs.length) % 64; omega, hm⟩
/-- the bytes of eight words -/
def dgB (s : List Int) (i : Nat) : Int := s.getD (i / 4) 0 / 2 ^ (24 - i % 4 * 8) % 256
def dgT (s : List Int) : Nat → List Int
  | 0 => List.replicate 32 0
  | i + 1 => (dgT s i).set i (dgB s i)
def HashS.sum (T : List Int) (h : HashS) : List Int := dgT (bkA T h.s (h.r ++ padL h.n)) 32
theorem dgT_length (s : List Int) : ∀ i, (dgT s i).length = 32
  | 0 => List.length_replicate
  | i + 1 => by rw [dgT, List.length_set, dgT_length s i]
theorem dgB_u (s : List Int) (i : Nat) : 0 ≤ dgB s i ∧ dgB s i < 256 := by unfold dgB; omega
theorem U8.set {xs : List Int} (h : U8 xs) (i : Nat) {x : Int} (hx : 0 ≤ x ∧ x < 256) : U8 (xs.set i x) := fun y hy => by
  rcases List.mem_or_eq_of_mem_set hy with hy | rfl
  · exact h y hy
  · exact hx
theorem dgT_u (s : List Int) : ∀ i, U8 (dgT s i)
  | 0 => by
    rw [dgT]
    intro x hx
    have := (List.mem_replicate.1 hx).2
    omega
  | i + 1 => by
    rw [dgT]
    exact (dgT_u s i).set _ (dgB_u s i)
theorem HashS.sum_length (T : List Int) (h : HashS) : (h.sum T).length = 32 := dgT_length _ _
theorem HashS.sum_u (T : List Int) (h : HashS) : U8 (h.sum T) := dgT_u _ _
def hash0 (T : List Int) : HashS := ⟨T.take 8, [], 0⟩
theorem hash0_ok {T : List Int} (hl : T.length = 72) (hu : U32 T) : (hash0 T).Ok := ⟨by show (T.take 8).length = 8; rw [List.length_take]; omega, hu.take 8, U8.nil, rfl, Nat.zero_le _⟩
def shaOf (T xs : List Int) : List Int := ((hash0 T).write T xs).sum T
end Go.Proofs.Ytmahaihcmmmhbaa
