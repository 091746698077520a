/-
  frame.uints.
-/
import Derived.Test.YtmahaihcmmmhbaaByt2u
namespace Go.Proofs.Ytmahaihcmmmhbaa
open Go.RowKit
def uvs (ns : List Nat) : List Int := ns.flatMap uv
theorem uvs_take {ns : List Nat} {j : Nat} (h : j < ns.length) : uvs (ns.take (j + 1)) = uvs (ns.take j) ++ uv (ns.getD j 0) := by
  unfold uvs
  rw [List.take_succ_eq_append_getElem h, List.flatMap_append, List.getD_eq_getElem?_getD, List.getElem?_eq_getElem h]
  simp
theorem uvs_len : ∀ ns : List Nat, (uvs ns).length ≤ 10 * ns.length
  | [] => Nat.le_refl _
  | n :: r => by
    have := uvs_len r
    have h1 := uv_length n
    have h2 := dg_le n
    unfold uvs at this ⊢
    rw [List.flatMap_cons, List.length_append, List.length_cons]
    omega
def nats (ns : List Nat) : List Int := ns.map fun n : Nat => (n : Int)
theorem nats_get {ns : List Nat} {j : Nat} (h : j < ns.length) : (nats ns).getD j 0 = (ns.getD j 0 : Int) := by
  unfold nats
  rw [List.getD_eq_getElem?_getD, List.getElem?_map, List.getD_eq_getElem?_getD, List.getElem?_eq_getElem h]
  rfl
theorem nats_length (ns : List Nat) : (nats ns).length = ns.length := by simp [nats]
def UsRel (w : World) (ns : List Nat) (x3 x8 : Value) (wr : World) : Prop := ∃ j : Nat, j ≤ ns.length ∧ x8 = .int .i64 j ∧ Ob wr w.heap.size x3 (uvs (ns.take j)) ∧ Frm NoB w wr
def UsPost (w : World) (ns : List Nat) (e : Ending) (w' : World) : Prop := ∃ v', e = .returned v' ∧ Ob w' w.heap.size v' (uvs ns) ∧ Frm NoB w w'
set_option maxRecDepth 100000 in
set_option maxHeartbeats 1000000 in
theorem uints_is (w : World) (A : Option Addr) (cp n : Nat) (ns : List Nat) (hn : ns.length = n) (hr : Rd w A (ints .i64 (nats ns))) (hb : ∀ x ∈ ns, x < 9223372036854775808) (hl : n ≤ 100) :
    Calls Try.prog 41 #[.slice A n cp] w (UsPost w ns) := by
  subst hn
  have HR := hide hr
  have HB := hide hb
  have hl' : (ns.length : Int) ≤ 100 := by omega
  clear hr hb
  go_enter Try.func41, Try.ntmps41
  go_wp2_with fail
  go_loopw [3, 8] (fun x3 x8 wr => UsRel w ns x3 x8 wr) (fun _ i _ => ns.length - (intOf i).toNat)
  case atStart => exact ⟨0, by omega, rfl, Ob.nil _ _, Frm.refl _ _⟩
  case round =>
    obtain ⟨j, hj, rfl, hO, hF⟩ := hrel
    have HO := hide hO
    have HF := hide hF
    clear hO hF
    by_cases hlt : j < ns.length
    · obtain ⟨b, o, rfl, hc⟩ := HR.out (ints_ne (by intro e; have := nats_length ns; rw [e] at this; simp at this; omega))
      have h1 := hc j _ (ints_get (by rw [nats_length]; exact hlt))
      rw [nats_get hlt] at h1
      have h2 : wr.cell? ⟨b, o + j, none⟩ = some (.int .i64 (ns.getD j 0 : Nat)) := by
        rw [HF.out.cell (p := ⟨b, o + j, none⟩) (World.block_lt_of_cell? w _ h1) (fun e => e)]; exact h1
      have hx : ns.getD j 0 < 9223372036854775808 := HB.out _ (by rw [List.getD_eq_getElem?_getD, List.getElem?_eq_getElem hlt]; exact List.getElem_mem hlt)
      have HS := hide (uvs_take hlt)
      have i0 : (0 : Int) ≤ (j : Int) := by omega
      have i1 : (j : Int) < (ns.length : Int) := by omega
      clear hc h1
      generalize ns.getD j 0 = x at *
      have hw : IntKind.u64.wrap (x : Int) = (x : Int) := IntWalk.u64_in _ (by omega)
      have hlen : (uvs (ns.take j)).length ≤ 16777000 := by
        have := uvs_len (ns.take j)
        rw [List.length_take] at this
        omega
      have KU := hide (buint_is x (by omega) HO.out hlen HF.out.size)
      go_wp2_with fail
      refine KU.out.mono ?_
      rintro e w2 ⟨v', rfl, hG⟩
      have HG := hide hG
      clear hG KU
      go_wp2
      go_roundw
      case rel =>
        refine ⟨j + 1, by omega, by go_num, by rw [HS.out]; exact HG.out.o, HF.out.then_ HG.out.f (fun i hi e => ?_)⟩
        rcases HO.out.form with h | ⟨g, n, c, h, -⟩
        · rw [h] at e; cases e
        · have := (HO.out.1.lt g (by rw [h]; rfl)).1
          rw [h] at e
          have e : some g = some i := e
          injection e with e
          omega
      case measure => simp [intOf]; omega
    · obtain rfl : j = ns.length := by omega
      go_wp2
      go_ret
      have h1 := HO.out
      rw [List.take_length] at h1
      exact ⟨_, rfl, h1, HF.out⟩
end Go.Proofs.Ytmahaihcmmmhbaa
