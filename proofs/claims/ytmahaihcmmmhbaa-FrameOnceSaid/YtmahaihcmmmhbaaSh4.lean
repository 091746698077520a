/-
  sha: primes, Table.
-/
import Derived.Test.YtmahaihcmmmhbaaSh3
import Derived.Deep.DeepCutAuto
namespace Go.Proofs.Ytmahaihcmmmhbaa
open Go.RowKit
theorem primesTo_mono : ∀ d k, (primesTo k).length ≤ (primesTo (k + d)).length
  | 0, _ => Nat.le_refl _
  | d + 1, k => by
    have h := primesTo_mono d k
    show _ ≤ (primesTo ((k + d) + 1)).length
    rw [primesTo]
    split
    · exact h
    · rw [List.length_append]; omega
structure PrAt (w : World) (bf : Nat) (k n : Nat) (A : Option Addr) (c bp : Nat) (p : Int) (wr : World) : Prop where
  row : wr.ownsRow w.heap.size 23 1 (.slice A n c) n (ints .u64 (primesTo k))
  f : Blk wr bf 78 #[.func (.func 36) #[] #[]]
  p : Blk wr bp 23 #[.int .u64 p]
  ne : bp ≠ bf
  nf : (Value.slice A n c).ownBlock ≠ some bf
  np : (Value.slice A n c).ownBlock ≠ some bp
  b1 : w.heap.size ≤ bp
  b2 : w.heap.size ≤ bf
  fr : Frm NoB w wr
def PrRel (w : World) (bf : Nat) (x3 x5 : Value) (wr : World) : Prop :=
  ∃ (k n : Nat) (A : Option Addr) (c bp : Nat), k ≤ 310 ∧ (primesTo k).length = n ∧ x3 = .slice A n c ∧ x5 = .pointer (some ⟨bp, 0, none⟩) ∧ PrAt w bf k n A c bp ((k : Int) + 2) wr
def pOf (x : Value) (w : World) : Nat := match x with
  | .pointer (some a) => (match w.cell? a with
    | some (.int _ p) => p.toNat
    | _ => 0)
  | _ => 0
theorem pOf_is {w : World} {a : Addr} {k : IntKind} {p : Int} (h : w.cell? a = some (.int k p)) : pOf (.pointer (some a)) w = p.toNat := by
  unfold pOf; simp [h]
def PrPost (w : World) (e : Ending) (w' : World) : Prop := ∃ A c l, e = .returned (.slice A 64 c) ∧ l.length = 64 ∧ Rd w' A (ints .u64 l) ∧ (∀ a, A = some a → w.heap.size ≤ a.block) ∧ Frm NoB w w'
theorem PrAt.next {w W : World} {bf k n : Nat} {A : Option Addr} {c : Nat} (row : W.ownsRow w.heap.size 23 1 (.slice A n c) n (ints .u64 (primesTo k))) (f : Blk W bf 78 #[.func (.func 36) #[] #[]])
    (nf : (Value.slice A n c).ownBlock ≠ some bf) (b2 : w.heap.size ≤ bf) (fr : Frm NoB w W) (x : Int) : PrAt w bf k n A c W.heap.size x (W.alloc (.cells #[.int .u64 x] 23)) :=
  ⟨World.ownsRow.alloc row _, f.alloc _, Blk.new _ _ _, Nat.ne_of_gt f.lt, nf, fun e => by have := (row.lt _ e).2; omega, fr.size, b2, fr.alloc _⟩
theorem run_store_fn (w : World) (a : Addr) (m : Mode) (fn : Fn) (x y : Array Value) : (store a (.func fn x y) m).run Try.prog w = stored Try.prog w a (.func fn x y) m := run_store Try.prog w a _ m rfl
attribute [local go_sem] run_store_fn
set_option maxRecDepth 100000 in
set_option maxHeartbeats 4000000 in
theorem primes_is (w : World) : Calls Try.prog 23 #[.int .i64 64] w (PrPost w) := by
  go_enter Try.func23, Try.ntmps23
  go_wp2_with fail
  go_loopw [3, 5] (fun x3 x5 wr => PrRel w w.heap.size x3 x5 wr) (fun _ x5 wr => 400 - pOf x5 wr)
  case atStart =>
    refine ⟨0, 0, none, 0, w.heap.size + 1, by omega, rfl, rfl, rfl, ?_⟩
    have h := PrAt.next (w := w) (W := w.alloc (.cells #[.func (.func 36) #[] #[]] 78)) (bf := w.heap.size) (k := 0) (n := 0) (A := none) (c := 0) (World.ownsRow_nil _ _ _ _) (Blk.new _ _ _) (by simp [Value.ownBlock]) (Nat.le_refl _) ((Frm.refl NoB w).alloc _) 2
    simpa using h
  case round =>
    obtain ⟨k, n, A, c, bp, hk, hn, rfl, rfl, hP⟩ := hrel
    obtain ⟨wo, rfl⟩ : ∃ wo : World, wo = wr := ⟨_, rfl⟩
    have HP := hide hP
    have HN := hide hn
    have hnk : n ≤ k := by rw [← hn]; exact primesTo_len k
    have cp : wo.cell? ⟨bp, 0, none⟩ = some (.int .u64 ((k : Int) + 2)) := hP.p.cell 0
    have fp : wo.frozen? ⟨bp, 0, none⟩ = false := hP.p.frozen 0
    have cf : wo.cell? ⟨w.heap.size, 0, none⟩ = some (.func (.func 36) #[] #[]) := hP.f.cell 0
    have n0 : (0 : Int) ≤ (n : Int) := by omega
    have hps : Hid (pOf (.pointer (some ⟨bp, 0, none⟩)) wo = k + 2) := by show _ = _; rw [pOf_is cp]; omega
    clear hP hn
    by_cases hlt : n < 64
    · have hk2 : k < 310 := by
        rcases Nat.lt_or_ge k 310 with h | h
        · exact h
        · obtain rfl : k = 310 := by omega
          have := HN.out; rw [primes_all] at this; omega
      have n1 : (n : Int) < 64 := by omega
      have hbd := hide (primesTo_in k)
      obtain ⟨A', c', e', hrd, -⟩ := Rd.of_own HP.out.row
      injection e' with e1 e2 e3
      subst e1 e3
      have KC := hide (contains64_is (primesTo k) ((k : Int) + 2) A c n w.heap.size bp wo hrd HN.out (by omega) (fun x hx => by have := hbd.out x hx; omega) (by omega) (by omega) cf cp)
      have hw3 : IntKind.u64.wrap ((k : Int) + 2 + 1) = (k : Int) + 3 := by rw [IntWalk.u64_in _ (by omega)]; omega
      obtain ⟨B, hB⟩ : ∃ B, hits (primesTo k) ((k : Int) + 2) = B := ⟨_, rfl⟩
      rw [hB] at KC
      have HB := hide hB
      clear hrd hB
      cases B
      · have hS : Hid (primesTo (k + 1) = primesTo k ++ [(k : Int) + 2]) := by show _ = _; rw [primesTo, if_neg (by rw [HB.out]; simp)]
        go_wp2_with fail
        refine KC.out.mono ?_
        rintro e w' ⟨rfl, rfl⟩
        have hr1 := hide (World.ownsRow.alloc HP.out.row (.cells #[.int .u64 ((k : Int) + 2)] 23))
        have hp1 := hide (HP.out.p.alloc (.cells #[.int .u64 ((k : Int) + 2)] 23))
        have hl1 : Hid (Blk (wo.alloc (.cells #[.int .u64 ((k : Int) + 2)] 23)) wo.heap.size 23 #[.int .u64 ((k : Int) + 2)]) := Blk.new wo _ _
        have hs1 : Hid (w.heap.size ≤ (wo.alloc (.cells #[.int .u64 ((k : Int) + 2)] 23)).heap.size) := by have := HP.out.fr.size; show _ ≤ _; simp; omega
        have hnp := hide HP.out.np
        have hn2 : n ≤ 16777216 := by omega
        go_wp2_with (at_builtin; refine append_u64 rfl (.tmp 16) (.tmp 18) rfl w.heap.size n wo.heap.size (.slice A n c) (primesTo k) ((k : Int) + 2) rfl rfl hr1.out hl1.out hn2 hs1.out ?_; intro g cap w2 hrow hgrow hg; have hb2 := (hgrow.block _ hp1.out.lt (fun e => hnp.out e.symm)).trans hp1.out; have cp2 := Blk.cell hb2 0)
        go_roundw
        case rel =>
          refine ⟨k + 1, n + 1, some ⟨g, 0, none⟩, cap, w2.heap.size, by omega, by rw [hS.out, List.length_append, HN.out]; rfl, rfl, rfl, ?_⟩
          have hf1 : Blk w2 w.heap.size 78 #[.func (.func 36) #[] #[]] := (hgrow.block _ (HP.out.f.alloc (.cells #[.int .u64 ((k : Int) + 2)] 23)).lt (fun e => HP.out.nf e.symm)).trans (HP.out.f.alloc _)
          have hfr : Frm NoB w w2 := (HP.out.fr.alloc _).grown hgrow (fun gb hgb hlt => by
            have := (HP.out.row.lt gb hgb).1
            omega)
          have h := PrAt.next (k := k + 1) (by rw [hS.out]; exact hrow) hf1 (fun e => by
            have e : some g = some w.heap.size := e
            injection e with e
            rcases hg with hg | hg
            · exact HP.out.nf (by rw [hg, e])
            · have := HP.out.f.lt
              rw [World.size_alloc] at hg
              omega) (Nat.le_refl _) hfr ((k : Int) + 3)
          have e3 : (((k + 1 : Nat) : Int) + 2) = (k : Int) + 3 := by omega
          rw [e3]
          exact h
        case measure =>
          rw [hps.out, pOf_is ((Blk.new w2 23 #[.int .u64 ((k : Int) + 3)]).cell 0)]
          omega
      · go_wp2_with fail
        refine KC.out.mono ?_
        rintro e w' ⟨rfl, rfl⟩
        go_wp2
        go_roundw
        case rel =>
          have hS : primesTo (k + 1) = primesTo k := by rw [primesTo, if_pos HB.out]
          refine ⟨k + 1, n, A, c, wo.heap.size, by omega, by rw [hS]; exact HN.out, rfl, rfl, ?_⟩
          have h := PrAt.next (k := k + 1) (by rw [hS]; exact HP.out.row) HP.out.f HP.out.nf HP.out.b2 HP.out.fr ((k : Int) + 3)
          have e3 : (((k + 1 : Nat) : Int) + 2) = (k : Int) + 3 := by omega
          rw [e3]
          exact h
        case measure =>
          rw [hps.out, pOf_is ((Blk.new wo 23 #[.int .u64 ((k : Int) + 3)]).cell 0)]
          omega
    · have hn64 : n = 64 := by
        have h1 := HN.out
        have h2 := primesTo_mono (310 - k) k
        rw [show k + (310 - k) = 310 from by omega, primes_all] at h2
        omega
      subst hn64
      obtain ⟨A', c', e', hrd, hlo, -⟩ := Rd.of_own HP.out.row
      injection e' with e1 e2 e3
      subst e1 e3
      have HRD := hide hrd
      have hin := hide hlo
      clear hrd hlo
      go_wp2
      go_ret
      exact ⟨A, c, primesTo k, rfl, HN.out, HRD.out, fun a ha => (hin.out a ha).1, HP.out.fr⟩
end Go.Proofs.Ytmahaihcmmmhbaa
