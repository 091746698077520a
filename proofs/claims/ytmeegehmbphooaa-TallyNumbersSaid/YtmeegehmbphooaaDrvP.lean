/-
  Plain: what a drive does, over a flash.
-/
import Derived.Test.YtmeegehmbphooaaSeqP
import Derived.Test.YtmeegehmbphooaaPieceP
namespace Go.Proofs.Ytmeegehmbphooaa
/-- A drive: its first sector, how many. -/
structure DrvS where
  first : Nat
  many : Nat
namespace DrvS
structure Ok (d : DrvS) (s : NorS) : Prop where
  m : 1 ≤ d.many
  n : d.first + d.many ≤ s.n
/-- the place of its first word -/
def base (d : DrvS) : Nat := d.first * 64
def rdE (d : DrvS) (s : NorS) (a m : Int) : Int := if 0 ≤ a ∧ 0 ≤ m ∧ a ≤ d.many * 64 ∧ m ≤ d.many * 64 - a then (if s.down = true then 40 else 0) else 2
def words (d : DrvS) (s : NorS) (a m : Nat) : List Int := (s.l.drop (d.base + a)).take m
def rd (d : DrvS) (s : NorS) (a m : Int) : List Int := if d.rdE s a m = 0 then d.words s a.toNat m.toNat else []
/-- would a bit have to be set? -/
def sets (d : DrvS) (s : NorS) (a : Nat) (l : List Int) : Bool := (List.range l.length).any fun i => !(wand (l.getD i 0) (s.wd (d.base + a + i)) == l.getD i 0)
def wrE (d : DrvS) (s : NorS) (a : Int) (l : List Int) : Int :=
  if d.rdE s a l.length = 0 then (if d.sets s a.toNat l = true then 50 else if s.progs l = true then 0 else 40) else d.rdE s a l.length
def wr (d : DrvS) (s : NorS) (a : Int) (l : List Int) : NorS :=
  if d.rdE s a l.length = 0 then (if d.sets s a.toNat l = true then s else s.prog (d.base + a.toNat) l) else s
def erE (d : DrvS) (s : NorS) (sec : Int) : Int := if 0 ≤ sec ∧ sec < d.many then s.eraseE (d.first + sec) else 2
def er (d : DrvS) (s : NorS) (sec : Int) : NorS := if 0 ≤ sec ∧ sec < d.many then s.erase (d.first + sec) else s
def blank (d : DrvS) (s : NorS) (a m : Int) : Bool := decide (d.rdE s a m = 0) && (d.rd s a m).all (fun x => x == 4294967295)

theorem rdE_zero {d : DrvS} {s : NorS} {a m : Int} (h : d.rdE s a m = 0) : s.down = false ∧ 0 ≤ a ∧ 0 ≤ m ∧ a ≤ d.many * 64 ∧ m ≤ d.many * 64 - a := by
  unfold rdE at h
  split at h
  · split at h
    · cases h
    · exact ⟨by rename_i h2; simpa using h2, by assumption⟩
  · cases h
theorem rdE_ok {d : DrvS} {s : NorS} {a m : Int} (hd : s.down = false) (h : 0 ≤ a ∧ 0 ≤ m ∧ a ≤ d.many * 64 ∧ m ≤ d.many * 64 - a) : d.rdE s a m = 0 := by
  unfold rdE; rw [if_pos h, if_neg (by rw [hd]; simp)]
theorem words_length {d : DrvS} {s : NorS} (hs : s.Ok) (hd : d.Ok s) {a m : Nat} (h : a + m ≤ d.many * 64) : (d.words s a m).length = m := by
  have := hs.len; have := hd.n
  unfold words base
  simp
  have : (d.first + d.many) * 64 ≤ s.n * 64 := Nat.mul_le_mul_right _ hd.n
  omega
theorem words_get {d : DrvS} {s : NorS} {a m i : Nat} (h : i < m) : (d.words s a m).getD i 0 = s.wd (d.base + a + i) := by
  unfold words NorS.wd
  simp only [List.getD_eq_getElem?_getD]
  rw [List.getElem?_take_of_lt h, List.getElem?_drop]
theorem words_u32 {d : DrvS} {s : NorS} (hs : s.Ok) (a m : Nat) : U32 (d.words s a m) := (hs.u.drop _).take _
/-- what was written is read -/
theorem readback {d : DrvS} {s : NorS} (hs : s.Ok) (hd : d.Ok s) {a : Nat} {l : List Int} (hl : a + l.length ≤ d.many * 64) (hset : d.sets s a l = false) (hp : s.progs l = true) :
    d.words (s.prog (d.base + a) l) a l.length = l := by
  have hlen := hs.len
  have h1 : (d.first + d.many) * 64 ≤ s.n * 64 := Nat.mul_le_mul_right _ hd.n
  have hb : d.base = d.first * 64 := rfl
  have hd' : d.Ok (s.prog (d.base + a) l) := ⟨hd.m, by rw [(NorS.prog_same l s _).1]; exact hd.n⟩
  apply NorS.ext_getD
  · exact words_length (NorS.Ok.prog' l s _ hs) hd' hl
  · intro i hi
    rw [words_length (NorS.Ok.prog' l s _ hs) hd' hl] at hi
    rw [words_get hi]
    unfold NorS.wd
    rw [NorS.prog_l l s _ hs.a0, (NorS.progs_iff l s hs.a0).1 hp, List.take_length, NorS.andL_get _ _ _ _ (by omega), if_pos (by omega)]
    have h2 : (List.range l.length).any (fun i => !(wand (l.getD i 0) (s.wd (d.base + a + i)) == l.getD i 0)) = false := hset
    rw [List.any_eq_false] at h2
    have h3 := h2 i (List.mem_range.2 hi)
    simp only [Bool.not_eq_true', Bool.not_eq_false, beq_iff_eq] at h3
    rw [show d.base + a + i - (d.base + a) = i from by omega]
    have h4 : wand (l.getD i 0) (s.wd (d.base + a + i)) = l.getD i 0 := by simpa using h3
    unfold NorS.wd at h4
    unfold wand at h4 ⊢
    rw [Nat.and_comm]; exact h4
end DrvS
end Go.Proofs.Ytmeegehmbphooaa
