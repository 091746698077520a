/-
  The bytes' statements: read.
-/
import Derived.Test.YtdhcgghdimkdbaaBl3
import Derived.BigQuiet
namespace Go.Proofs.Ytdhcgghdimkdbaa
open Go.RowKit
section
variable {w : World}
set_option maxHeartbeats 2000000 in
theorem pread_is (p : PcS) (hp : p.Ok) {X r : List Int} {a : Nat} {vb v : Value} (hX : By w vb X) (hl : X.length ≤ 16777216) (ha : a ≤ X.length) (hd : X.drop a = p.wrt ++ r) (hv : By w v p.b) :
    Calls Try.prog 33 #[vb, .int .i64 a, .agg #[.int .u8 p.kind, .int .u64 p.n, v]] w fun e w' => e = .returned (.tuple #[.int .i64 ((a + p.wrt.length : Nat) : Int), .bool true]) ∧ Frm NoB w w' := by
  obtain ⟨kind, n, pb⟩ := p
  obtain ⟨p0, p1, p2, p3, p4⟩ := hp
  simp only at p0 p1 p2 p3 p4 hv ⊢
  have HX := hide hX
  have HV := hide hv
  obtain ⟨A0, c0, rfl, -⟩ := hX
  obtain ⟨A1, c1, rfl, -⟩ := hv
  have hf : Frm NoB w (w.alloc (.cells #[.int .u8 kind, .int .u64 n, .slice A1 pb.length c1] 54)) := (Frm.refl NoB w).alloc _
  have HF := hide hf
  have HBK : Hid (Blk (w.alloc (.cells #[.int .u8 kind, .int .u64 n, .slice A1 pb.length c1] 54)) w.heap.size 54 #[.int .u8 kind, .int .u64 n, .slice A1 pb.length c1]) := Blk.new _ _ _
  clear hf
  by_cases e1 : kind = 1
  · subst e1
    have hw : PcS.wrt ⟨1, n, pb⟩ = wb ((n : Int) % 4294967296) := by unfold PcS.wrt; rw [if_pos rfl]
    rw [hw] at hd ⊢
    obtain ⟨r1, r2, r3⟩ := reads_word (by omega) ha hd
    have GW := getWord_is (HX.out.frm0 HF.out) (a : Int) hl
    rw [r1, r2, r3] at GW
    have HGW := hide GW
    have hlen := wb_length ((n : Int) % 4294967296)
    clear GW r1 r2 r3 hd hw
    go_enter Try.func33, Try.ntmps33
    go_wp2_with fail
    refine HGW.out.mono ?_
    rintro e w1 ⟨rfl, k, rfl⟩
    have HB1 := hide (Blk.drewN HBK.out k)
    have HF1 := hide (HF.out.drewN k)
    generalize (w.alloc (.cells #[.int .u8 1, .int .u64 n, .slice A1 pb.length c1] 54)).drewN k = w1 at *
    have k1 := HB1.out.cell 1
    clear HGW HF HBK
    go_wp2_with fail
    go_quiet (fail)
    go_wp2
    go_ret2
    refine ⟨?_, HF1.out.drewN _⟩
    rw [hlen]; rfl
  by_cases e2 : kind = 2
  · subst e2
    have hw : PcS.wrt ⟨2, n, pb⟩ = uv pb.length ++ pb := by unfold PcS.wrt; rw [if_neg (show ¬ (2 : Int) = 1 by decide), if_pos rfl]
    rw [hw] at hd ⊢
    obtain ⟨r1, r2, r3⟩ := reads_blob (by omega) ha hd (pb.length : Int) (Int.le_refl _)
    have GB := getBlob_is (HX.out.frm0 HF.out) (a : Int) (pb.length : Int) hl (by omega)
    unfold GbPost at GB
    rw [r1, r2, r3] at GB
    have HGB := hide GB
    clear GB r1 r2 r3 hd hw
    go_enter Try.func33, Try.ntmps33
    go_wp2_with fail
    refine HGB.out.mono ?_
    rintro e w1 ⟨v1, rfl, hG⟩
    have HB1 := hide (Blk.frm HBK.out hG.new (fun e => e))
    have HF1 := hide (HF.out.trans hG.new)
    have HV1 := hide hG.o.by_
    have k2 := HB1.out.cell 2
    clear hG HGB HF HBK
    go_wp2_with fail
    refine (sameBytes_is HV1.out (HV.out.frm0 HF1.out)).mono ?_
    rw [decide_eq_true rfl]
    rintro e w2 ⟨rfl, k, rfl⟩
    go_wp2
    go_ret2
    exact ⟨by rw [List.length_append, Int.natCast_add, Int.natCast_add]; rfl, HF1.out.drewN k⟩
  have b1 : (kind == 1) = false := by rw [beq_eq_false_iff_ne]; exact e1
  have b2 : (kind == 2) = false := by rw [beq_eq_false_iff_ne]; exact e2
  have hw : PcS.wrt ⟨kind, n, pb⟩ = uv n := by unfold PcS.wrt; rw [if_neg e1, if_neg e2]
  rw [hw] at hd ⊢
  obtain ⟨r1, r2, r3⟩ := reads_uint p2 ha hd
  have GU := getUint_is (HX.out.frm0 HF.out) (a : Int) hl
  unfold GuPost at GU
  rw [r1, r2, r3] at GU
  have HGU := hide GU
  clear GU r1 r2 r3 hd hw
  go_enter Try.func33, Try.ntmps33
  go_wp2_with fail
  refine HGU.out.mono ?_
  rintro e w1 ⟨rfl, rfl⟩
  have k1 := HBK.out.cell 1
  clear HGU
  go_wp2_with fail
  go_quiet (fail)
  go_wp2
  go_ret2
  exact ⟨rfl, HF.out.drewN _⟩
end
end Go.Proofs.Ytdhcgghdimkdbaa
