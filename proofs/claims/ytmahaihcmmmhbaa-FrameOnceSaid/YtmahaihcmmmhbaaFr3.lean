/-
  frame.Right.
-/
import Derived.Test.YtmahaihcmmmhbaaByt2u
namespace Go.Proofs.Ytmahaihcmmmhbaa
open Go.RowKit
def frameV (kind session seq : Int) (body : Value) : Value := .agg #[.int .u8 kind, .int .i64 session, .int .i64 seq, body]
def rightF (kind session seq : Int) (n : Nat) : Bool := decide (1 ≤ kind) && (decide (kind ≤ 100) && (decide (0 ≤ session) && (decide (session ≤ 1073741824) && (decide (1 ≤ seq) && (decide (seq ≤ 1099511627776) && decide ((n : Int) ≤ 600))))))
set_option maxRecDepth 100000 in
set_option maxHeartbeats 1000000 in
theorem fright_true (w : World) (kind session seq : Int) (A : Option Addr) (n c : Nat) (h : rightF kind session seq n = true) :
    Calls Try.prog 20 #[.agg #[.int .u8 kind, .int .i64 session, .int .i64 seq, .slice A n c]] w fun e w' => e = .returned (.bool true) ∧ Frm NoB w w' := by
  unfold rightF at h
  simp only [Bool.and_eq_true] at h
  obtain ⟨e1, e2, e3, e4, e5, e6, e7⟩ := h
  have g7 : n ≤ 600 := by have := of_decide_eq_true e7; omega
  go_enter Try.func20, Try.ntmps20
  go_wp2
  go_ret
  exact ⟨rfl, (Frm.refl NoB w).alloc _⟩
end Go.Proofs.Ytmahaihcmmmhbaa
