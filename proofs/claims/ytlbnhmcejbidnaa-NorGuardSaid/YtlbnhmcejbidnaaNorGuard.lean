/-
  Another hand changes external words alone: the walk.
-/
import Derived.Test.YtlbnhmcejbidnaaNorGuardP
import Derived.Test.YtlbnhmcejbidnaaNorAwake
import Derived.Deep.DeepCutAuto
namespace Go.Proofs.Ytlbnhmcejbidnaa
open Go.RowKit
section
variable {w0 w : World} {p q c : Nat} {s : NorS} {B : Nat} {o : OpS} {AL AK : Option Addr} {cL cK : Nat}
theorem own_does (h : Own w0 w p q c s) (ho : OpIs w B o AL cL AK cK) (hB : B ≤ w0.heap.size) :
    Calls Try.prog 10 #[.pointer (some ⟨p, 0, none⟩), opVal o AL cL AK cK] w fun e w' => e = .returned (.int .i64 (s.doesE o)) ∧ Own w0 w' p q c (s.does o) ∧ Frm (Two p q) w w' := by
  have h1 := h.p0; have h2 := h.q0
  refine (does_is h.n ho (by omega) (by omega)).mono ?_
  rintro e w' ⟨rfl, hn, hf⟩
  exact ⟨rfl, h.step hn hf, hf⟩
theorem quiet_of {P : Program} {f : FuncId} {args : Array Value} {w : World} {n : Nat} {v : Value} (h : ∀ n, Calls P f args (w.drewN n) fun e w' => e = .returned v ∧ w.drewN n = w') : Calls P f args (w.drewN n) fun e w'' => e = .returned v ∧ ∃ m, w'' = w.drewN m :=
  (h n).mono fun _ _ ⟨he, hm⟩ => ⟨he, n, hm.symm⟩
/-- an op that was copied into block g -/
def opCells (o : OpS) (AL : Option Addr) (cL : Nat) (AK : Option Addr) (cK : Nat) : Array Value := #[.int .i64 o.kind, .int .i64 o.sector, .int .i64 o.at_, .slice AL o.l.length cL, .slice AK o.keeps.length cK]
/-- two flashes, apart -/
structure Apart (p q p' q' : Nat) : Prop where
  h1 : p ≠ p'
  h2 : p ≠ q'
  h3 : q ≠ p'
  h4 : q ≠ q'
theorem Apart.symm {p q p' q' : Nat} (h : Apart p q p' q') : Apart p' q' p q := ⟨h.h1.symm, h.h3.symm, h.h2.symm, h.h4.symm⟩
theorem Own.beside {w w' : World} {p' q' c' : Nat} {s' : NorS} (h : Own w0 w p q c s) (k : Frm (Two p' q') w w') (h' : Own w0 w p' q' c' s') (ha : Apart p q p' q') : Own w0 w' p q c s :=
  h.other k h'.p0 h'.q0 ha.h1 ha.h2 ha.h3 ha.h4
structure GuardInv (w0 wr : World) (p q c p' q' c' : Nat) (sa sb : NorS) : Prop where
  a : Own w0 wr p q c sa
  b : Own w0 wr p' q' c' sb
  s : NorS.Sim sa sb
def GuardRel (w : World) (ops : List OpS) (p q c p' q' c' : Nat) (i : Value) (wr : World) : Prop := ∃ (j : Nat) (a b : NorS), j ≤ ops.length ∧ j ≤ 40 ∧ i = .int .i64 j ∧ GuardInv w wr p q c p' q' c' a b
def GuardRel2 (w : World) (p q c p' q' c' : Nat) (a b : NorS) (g : Nat) (cs : Array Value) (o : OpS) (AL : Option Addr) (cL : Nat) (AK : Option Addr) (cK : Nat) (i : Value) (wr : World) : Prop := ∃ (j : Nat), j ≤ 2 ∧ i = .int .i64 j ∧ GuardInv w wr p q c p' q' c' a b ∧ Blk wr g 30 cs ∧ OpIs wr w.heap.size o AL cL AK cK
def GuardRel3 (w : World) (p q c p' q' c' : Nat) (a b : NorS) (g : Nat) (cs : Array Value) (o : OpS) (AL : Option Addr) (cL : Nat) (AK : Option Addr) (cK : Nat) (i : Value) (wr : World) : Prop := ∃ (j : Nat), j ≤ o.l.length ∧ i = .int .i64 j ∧ GuardInv w wr p q c p' q' c' a b ∧ Blk wr g 30 cs ∧ OpIs wr w.heap.size o AL cL AK cK

set_option maxRecDepth 100000 in
set_option maxHeartbeats 8000000 in
theorem norGuard_is (w : World) (A : Option Addr) (cp : Nat) (ops : List OpS) (h : OpsAt w w.heap.size A ops) (hm : (ops.length : Int) ≤ 9223372036854775807) :
    Calls Try.prog 3 #[.slice A ops.length cp] w fun e w' => e = .returned (.bool true) ∧ Frm NoB w w' := by
  have HO0 := hide h
  clear h
  go_enter Try.func3, Try.ntmps3
  go_wp2_with fail
  refine (own_new 4 2 (Frm.refl NoB w) (by omega) (by omega) (by omega)).mono ?_
  rintro e w1 ⟨p, q, c, rfl, hN, hp, hq, hF⟩
  have HN := hide hN
  have HFa := hide hF
  clear hN hF
  go_wp2_with fail
  refine (own_new 4 2 (Hid.out HN).f (by omega) (by omega) (by omega)).mono ?_
  rintro e w2 ⟨p', q', c', rfl, hN', hp', hq', hF⟩
  have HAp : Hid (Apart p q p' q') := by
    have := (Hid.out HN).n.ltp; have := (Hid.out HN).n.ltq
    exact ⟨by omega, by omega, by omega, by omega⟩
  have HN1 := hide ((Hid.out HN).frm hF)
  have HN2 := hide hN'
  clear hN' hF hp hq hp' hq'
  go_wp2_with fail
  go_loopw [7] (fun i wr => GuardRel w ops p q c p' q' c' i wr) (fun i _ => ops.length - (intOf i).toNat)
  case atStart => exact ⟨0, _, _, by omega, by omega, rfl, ⟨HN1.out, HN2.out, NorS.sim_new⟩⟩
  case round =>
    obtain ⟨j, a, b, hj, hj40, rfl, ⟨hA, hB, hS⟩⟩ := hrel
    obtain ⟨wo, rfl⟩ : ∃ wo : World, wo = wr := ⟨_, rfl⟩
    have HA := hide hA
    have HB := hide hB
    have HS := hide hS
    clear hA hB hS
    by_cases hlt : j < ops.length
    · by_cases hlt4 : j < 40
      · obtain ⟨bb, xx, AL, cL, AK, cK, rfl, hbb, h0, h1, h2, h3, h4, h5⟩ := (HO0.out.frm (Hid.out HA).f (fun _ _ e => e)).at_ j hlt
        generalize ops[j] = o at h0 h1 h2 h3 h4 h5
        have H0 := hide h0
        clear h0
        by_cases hk : o.kind = 7
        · by_cases hx : a.doesE o = 0
          · by_cases hd : (NorS.does a o).down = true
            · have hS : NorS.Sim (NorS.does a o) b := (NorS.Sim.hand HS.out o hk).1
              have hdd : (NorS.does a o).down = b.down := hS.down
              have HSim := hide hS
              have hsec : 2 ≤ o.sector := (NorS.Sim.hand HS.out o hk).2 hx
              have hsec1 : decide (o.sector < 2) = false := by simp; omega
              have k1 : (o.kind != 7) = false := by simp; exact hk
              have k2 : (o.kind == 7) = true := by simp; exact hk
              have x1 : (a.doesE o == 0) = true := by simp; exact hx
              have d1 : (NorS.does a o).down = true := hd
              have d2 : b.down = true := by rw [← hdd]; exact d1
              have D1 : Hid ((NorS.does a o).down = true) := d1
              have hdd' := hide hdd
              clear hS hdd hd
              clear hk hx
              go_wp2_with fail
              refine (own_does ((Hid.out HA).alloc _) (H0.out.frm ((Frm.refl NoB wo).alloc _) (fun _ _ e => e)) (Nat.le_refl _)).mono ?_
              rintro e w1 ⟨rfl, hA1, hF1⟩
              have hg1 : Blk w1 wo.heap.size 30 (opCells o AL cL AK cK) := (Blk.new wo 30 (opCells o AL cL AK cK)).frm hF1 (fun e => by
                have := (Hid.out HA).n.ltp; have := (Hid.out HA).n.ltq
                rcases e with e | e <;> omega)
              have hO1 : OpIs w1 w.heap.size o AL cL AK cK := (H0.out.frm ((Frm.refl NoB wo).alloc _) (fun _ _ e => e)).frm hF1 (below_two (Hid.out HA).p0 (Hid.out HA).q0)
              have hB1 : Own w w1 p' q' c' b := ((Hid.out HB).alloc (.cells (opCells o AL cL AK cK) 30)).beside hF1 ((Hid.out HA).alloc _) HAp.out.symm
              have m0w1 : w1.cell? ⟨wo.heap.size, 0, none⟩ = some (.int .i64 o.kind) := hg1.cell 0
              have m1w1 : w1.cell? ⟨wo.heap.size, 1, none⟩ = some (.int .i64 o.sector) := hg1.cell 1
              have m2w1 : w1.cell? ⟨wo.heap.size, 2, none⟩ = some (.int .i64 o.at_) := hg1.cell 2
              have m3w1 : w1.cell? ⟨wo.heap.size, 3, none⟩ = some (.slice AL o.l.length cL) := hg1.cell 3
              have m4w1 : w1.cell? ⟨wo.heap.size, 4, none⟩ = some (.slice AK o.keeps.length cK) := hg1.cell 4
              have HG1 := hide hg1
              have HO1 := hide hO1
              have HA1 := hide hA1
              have HB1 := hide hB1
              have HX := hide hF1
              clear hg1 hO1 hA1 hB1 hF1
              have HG := HG1
              have HO := HO1
              have HI : Hid (GuardInv w w1 p q c p' q' c' (NorS.does a o) b) := ⟨HA1.out, HB1.out, HSim.out⟩
              go_wp2_with fail
              refine (down_is (Hid.out HI).a.n).mono ?_
              rintro e w' ⟨rfl, rfl⟩
              go_wp2_with fail
              refine (down_is (Hid.out HI).b.n).mono ?_
              rintro e w' ⟨rfl, rfl⟩
              go_wp2_with fail
              refine (down_is (Hid.out HI).a.n).mono ?_
              rintro e w' ⟨rfl, rfl⟩
              go_wp2
              go_roundw
              case rel => exact ⟨j + 1, _, _, by omega, by omega, by go_num, HI.out⟩
              case measure => simp [intOf]; omega
            · have hS : NorS.Sim (NorS.does a o) b := (NorS.Sim.hand HS.out o hk).1
              have hdd : (NorS.does a o).down = b.down := hS.down
              have HSim := hide hS
              have hsec : 2 ≤ o.sector := (NorS.Sim.hand HS.out o hk).2 hx
              have hsec1 : decide (o.sector < 2) = false := by simp; omega
              have k1 : (o.kind != 7) = false := by simp; exact hk
              have k2 : (o.kind == 7) = true := by simp; exact hk
              have x1 : (a.doesE o == 0) = true := by simp; exact hx
              have d1 : (NorS.does a o).down = false := by simpa using hd
              have hrd := hide (NorS.hand_reads (Hid.out HA).n.ok o hk hx d1)
              have d2 : b.down = false := by rw [← hdd]; exact d1
              have D1 : Hid ((NorS.does a o).down = false) := d1
              have hdd' := hide hdd
              clear hS hdd hd
              clear hk hx
              go_wp2_with fail
              refine (own_does ((Hid.out HA).alloc _) (H0.out.frm ((Frm.refl NoB wo).alloc _) (fun _ _ e => e)) (Nat.le_refl _)).mono ?_
              rintro e w1 ⟨rfl, hA1, hF1⟩
              have hg1 : Blk w1 wo.heap.size 30 (opCells o AL cL AK cK) := (Blk.new wo 30 (opCells o AL cL AK cK)).frm hF1 (fun e => by
                have := (Hid.out HA).n.ltp; have := (Hid.out HA).n.ltq
                rcases e with e | e <;> omega)
              have hO1 : OpIs w1 w.heap.size o AL cL AK cK := (H0.out.frm ((Frm.refl NoB wo).alloc _) (fun _ _ e => e)).frm hF1 (below_two (Hid.out HA).p0 (Hid.out HA).q0)
              have hB1 : Own w w1 p' q' c' b := ((Hid.out HB).alloc (.cells (opCells o AL cL AK cK) 30)).beside hF1 ((Hid.out HA).alloc _) HAp.out.symm
              have m0w1 : w1.cell? ⟨wo.heap.size, 0, none⟩ = some (.int .i64 o.kind) := hg1.cell 0
              have m1w1 : w1.cell? ⟨wo.heap.size, 1, none⟩ = some (.int .i64 o.sector) := hg1.cell 1
              have m2w1 : w1.cell? ⟨wo.heap.size, 2, none⟩ = some (.int .i64 o.at_) := hg1.cell 2
              have m3w1 : w1.cell? ⟨wo.heap.size, 3, none⟩ = some (.slice AL o.l.length cL) := hg1.cell 3
              have m4w1 : w1.cell? ⟨wo.heap.size, 4, none⟩ = some (.slice AK o.keeps.length cK) := hg1.cell 4
              have HG1 := hide hg1
              have HO1 := hide hO1
              have HA1 := hide hA1
              have HB1 := hide hB1
              have HX := hide hF1
              clear hg1 hO1 hA1 hB1 hF1
              have HG := HG1
              have HO := HO1
              have HI : Hid (GuardInv w w1 p q c p' q' c' (NorS.does a o) b) := ⟨HA1.out, HB1.out, HSim.out⟩
              go_wp2_with fail
              refine (down_is (Hid.out HI).a.n).mono ?_
              rintro e w' ⟨rfl, rfl⟩
              go_wp2_with fail
              refine (down_is (Hid.out HI).b.n).mono ?_
              rintro e w' ⟨rfl, rfl⟩
              go_wp2_with fail
              refine (down_is (Hid.out HI).a.n).mono ?_
              rintro e w' ⟨rfl, rfl⟩
              go_wp2_with fail
              go_loopw [10] (fun i wv => GuardRel2 w p q c p' q' c' (NorS.does a o) b wo.heap.size (opCells o AL cL AK cK) o AL cL AK cK i wv) (fun i _ => 2 - (intOf i).toNat)
              case atStart => exact ⟨0, by omega, rfl, HI.out, HG.out, HO.out⟩
              case round =>
                obtain ⟨t, ht2, rfl, hI2, hG2, hO2⟩ := hrel
                obtain ⟨wv, rfl⟩ : ∃ wv : World, wv = wr := ⟨_, rfl⟩
                clear m0w1 m1w1 m2w1 m3w1 m4w1
                have HI2 := hide hI2
                have HG2 := hide hG2
                have HO2 := hide hO2
                clear hI2 hG2 hO2
                by_cases hlt2 : t < 2
                · have hsm : same ((NorS.does a o).sector t) (b.sector t) = true := same_iff.2 (NorS.Sim.sector HSim.out (by omega))
                  have hll := hide (show (((NorS.does a o).sector t).length : Int) ≤ 9223372036854775807 by
                    unfold NorS.sector; split
                    · rw [List.length_take]; omega
                    · simp)
                  go_wp2_with fail
                  refine (sector_is _ (Hid.out HI2).a.n).mono ?_
                  rintro e w3 ⟨A1, c1, rfl, h1, hA1, hF3⟩
                  have HI3 : Hid (GuardInv w w3 p q c p' q' c' (NorS.does a o) b) := ⟨(Hid.out HI2).a.frm hF3, (Hid.out HI2).b.frm hF3, HSim.out⟩
                  go_wp2_with fail
                  refine (sector_is _ (Hid.out HI3).b.n).mono ?_
                  rintro e w4 ⟨A2, c2, rfl, h2, hA2, hF4⟩
                  have HI4 : Hid (GuardInv w w4 p q c p' q' c' (NorS.does a o) b) := ⟨(Hid.out HI3).a.frm hF4, (Hid.out HI3).b.frm hF4, HSim.out⟩
                  have h1' := h1.frm hF4 (fun _ _ e => e)
                  go_wp2_with fail
                  refine (sameWords_is _ _ _ _ _ _ _ h1' h2 hll.out).mono ?_
                  rintro e w5 ⟨rfl, m, rfl⟩
                  have HG4 := hide (((Hid.out HG2).frm hF3 (fun e => e)).frm hF4 (fun e => e))
                  have HO4 := hide (((HO2.out.frm hF3 (fun _ _ e => e)).frm hF4 (fun _ _ e => e)).frm ((Frm.refl NoB w4).drewN m) (fun _ _ e => e))
                  clear h1 h2 h1' hF3 hF4 hA1 hA2 hll
                  go_wp2
                  go_roundw
                  case rel => exact ⟨t + 1, by omega, by go_num, ⟨(Hid.out HI4).a.drewN m, (Hid.out HI4).b.drewN m, HSim.out⟩, (Hid.out HG4).drewN m, HO4.out⟩
                  case measure => simp [intOf]; omega
                · obtain rfl : t = 2 := by omega
                  have m0wv : wv.cell? ⟨wo.heap.size, 0, none⟩ = some (.int .i64 o.kind) := (Hid.out HG2).cell 0
                  have m1wv : wv.cell? ⟨wo.heap.size, 1, none⟩ = some (.int .i64 o.sector) := (Hid.out HG2).cell 1
                  have m2wv : wv.cell? ⟨wo.heap.size, 2, none⟩ = some (.int .i64 o.at_) := (Hid.out HG2).cell 2
                  have m3wv : wv.cell? ⟨wo.heap.size, 3, none⟩ = some (.slice AL o.l.length cL) := (Hid.out HG2).cell 3
                  have m4wv : wv.cell? ⟨wo.heap.size, 4, none⟩ = some (.slice AK o.keeps.length cK) := (Hid.out HG2).cell 4
                  go_wp2_with fail
                  go_loopw [11] (fun i wu => GuardRel3 w p q c p' q' c' (NorS.does a o) b wo.heap.size (opCells o AL cL AK cK) o AL cL AK cK i wu) (fun i _ => o.l.length - (intOf i).toNat)
                  case atStart => exact ⟨0, by omega, rfl, HI2.out, HG2.out, HO2.out⟩
                  case round =>
                    obtain ⟨u, hu2, rfl, hI3, hG3, hO3⟩ := hrel
                    obtain ⟨wu, rfl⟩ : ∃ wu : World, wu = wr := ⟨_, rfl⟩
                    clear m0wv m1wv m2wv m3wv m4wv
                    have HI3 := hide hI3
                    have HG3 := hide hG3
                    have HO3 := hide hO3
                    clear hI3 hG3 hO3
                    have m0wu : wu.cell? ⟨wo.heap.size, 0, none⟩ = some (.int .i64 o.kind) := (Hid.out HG3).cell 0
                    have m1wu : wu.cell? ⟨wo.heap.size, 1, none⟩ = some (.int .i64 o.sector) := (Hid.out HG3).cell 1
                    have m2wu : wu.cell? ⟨wo.heap.size, 2, none⟩ = some (.int .i64 o.at_) := (Hid.out HG3).cell 2
                    have m3wu : wu.cell? ⟨wo.heap.size, 3, none⟩ = some (.slice AL o.l.length cL) := (Hid.out HG3).cell 3
                    have m4wu : wu.cell? ⟨wo.heap.size, 4, none⟩ = some (.slice AK o.keeps.length cK) := (Hid.out HG3).cell 4
                    obtain ⟨r1, r2, r3, r4⟩ := hrd.out
                    have R4 := hide r4
                    clear r4
                    by_cases hlu : u < o.l.length
                    · obtain ⟨bl, ol, rfl, hcl⟩ := HO3.out.rl (ints_ne (by intro e; rw [e] at hlu; simp at hlu))
                      have hcu := hcl u _ (ints_get hlu)
                      have hrr := fun n => own_reads o.sector (o.at_ + u) (o.l.getD u 0) true ((Hid.out HI3).a.drewN n) (R4.out u hlu)
                      have HRR := hide hrr
                      clear hcl hrr
                      generalize o.l.getD u 0 = xx at hcu HRR
                      have hw : IntKind.i64.wrap (o.at_ + (u : Int)) = o.at_ + u := IntWalk.i64_in _ (by omega)
                      have i0 : (0 : Int) ≤ (u : Int) := by omega
                      have i1 : (u : Int) < (o.l.length : Int) := by omega
                      go_wp2_with fail
                      go_quiet ((go_at_call 14; exact quiet_of HRR.out))
                      go_wp2
                      go_roundw
                      case rel => exact ⟨u + 1, by omega, by go_num, ⟨(Hid.out HI3).a.drewN _, (Hid.out HI3).b.drewN _, HSim.out⟩, (Hid.out HG3).drewN _, HO3.out.frm ((Frm.refl NoB wu).drewN _) (fun _ _ e => e)⟩
                      case measure => simp [intOf]; omega
                    · obtain rfl : u = o.l.length := by omega
                      go_wp2
                      go_roundw
                      case rel => exact ⟨j + 1, _, _, by omega, by omega, by go_num, HI3.out⟩
                      case measure => simp [intOf]; omega
          · by_cases hd : (NorS.does a o).down = true
            · have hS : NorS.Sim (NorS.does a o) b := (NorS.Sim.hand HS.out o hk).1
              have hdd : (NorS.does a o).down = b.down := hS.down
              have HSim := hide hS
              have k1 : (o.kind != 7) = false := by simp; exact hk
              have k2 : (o.kind == 7) = true := by simp; exact hk
              have x1 : (a.doesE o == 0) = false := by simpa using hx
              have d1 : (NorS.does a o).down = true := hd
              have d2 : b.down = true := by rw [← hdd]; exact d1
              have D1 : Hid ((NorS.does a o).down = true) := d1
              have hdd' := hide hdd
              clear hS hdd hd
              clear hk hx
              go_wp2_with fail
              refine (own_does ((Hid.out HA).alloc _) (H0.out.frm ((Frm.refl NoB wo).alloc _) (fun _ _ e => e)) (Nat.le_refl _)).mono ?_
              rintro e w1 ⟨rfl, hA1, hF1⟩
              have hg1 : Blk w1 wo.heap.size 30 (opCells o AL cL AK cK) := (Blk.new wo 30 (opCells o AL cL AK cK)).frm hF1 (fun e => by
                have := (Hid.out HA).n.ltp; have := (Hid.out HA).n.ltq
                rcases e with e | e <;> omega)
              have hO1 : OpIs w1 w.heap.size o AL cL AK cK := (H0.out.frm ((Frm.refl NoB wo).alloc _) (fun _ _ e => e)).frm hF1 (below_two (Hid.out HA).p0 (Hid.out HA).q0)
              have hB1 : Own w w1 p' q' c' b := ((Hid.out HB).alloc (.cells (opCells o AL cL AK cK) 30)).beside hF1 ((Hid.out HA).alloc _) HAp.out.symm
              have m0w1 : w1.cell? ⟨wo.heap.size, 0, none⟩ = some (.int .i64 o.kind) := hg1.cell 0
              have m1w1 : w1.cell? ⟨wo.heap.size, 1, none⟩ = some (.int .i64 o.sector) := hg1.cell 1
              have m2w1 : w1.cell? ⟨wo.heap.size, 2, none⟩ = some (.int .i64 o.at_) := hg1.cell 2
              have m3w1 : w1.cell? ⟨wo.heap.size, 3, none⟩ = some (.slice AL o.l.length cL) := hg1.cell 3
              have m4w1 : w1.cell? ⟨wo.heap.size, 4, none⟩ = some (.slice AK o.keeps.length cK) := hg1.cell 4
              have HG1 := hide hg1
              have HO1 := hide hO1
              have HA1 := hide hA1
              have HB1 := hide hB1
              have HX := hide hF1
              clear hg1 hO1 hA1 hB1 hF1
              have HG := HG1
              have HO := HO1
              have HI : Hid (GuardInv w w1 p q c p' q' c' (NorS.does a o) b) := ⟨HA1.out, HB1.out, HSim.out⟩
              go_wp2_with fail
              refine (down_is (Hid.out HI).a.n).mono ?_
              rintro e w' ⟨rfl, rfl⟩
              go_wp2_with fail
              refine (down_is (Hid.out HI).b.n).mono ?_
              rintro e w' ⟨rfl, rfl⟩
              go_wp2_with fail
              refine (down_is (Hid.out HI).a.n).mono ?_
              rintro e w' ⟨rfl, rfl⟩
              go_wp2
              go_roundw
              case rel => exact ⟨j + 1, _, _, by omega, by omega, by go_num, HI.out⟩
              case measure => simp [intOf]; omega
            · have hS : NorS.Sim (NorS.does a o) b := (NorS.Sim.hand HS.out o hk).1
              have hdd : (NorS.does a o).down = b.down := hS.down
              have HSim := hide hS
              have k1 : (o.kind != 7) = false := by simp; exact hk
              have k2 : (o.kind == 7) = true := by simp; exact hk
              have x1 : (a.doesE o == 0) = false := by simpa using hx
              have d1 : (NorS.does a o).down = false := by simpa using hd
              have d2 : b.down = false := by rw [← hdd]; exact d1
              have D1 : Hid ((NorS.does a o).down = false) := d1
              have hdd' := hide hdd
              clear hS hdd hd
              clear hk hx
              go_wp2_with fail
              refine (own_does ((Hid.out HA).alloc _) (H0.out.frm ((Frm.refl NoB wo).alloc _) (fun _ _ e => e)) (Nat.le_refl _)).mono ?_
              rintro e w1 ⟨rfl, hA1, hF1⟩
              have hg1 : Blk w1 wo.heap.size 30 (opCells o AL cL AK cK) := (Blk.new wo 30 (opCells o AL cL AK cK)).frm hF1 (fun e => by
                have := (Hid.out HA).n.ltp; have := (Hid.out HA).n.ltq
                rcases e with e | e <;> omega)
              have hO1 : OpIs w1 w.heap.size o AL cL AK cK := (H0.out.frm ((Frm.refl NoB wo).alloc _) (fun _ _ e => e)).frm hF1 (below_two (Hid.out HA).p0 (Hid.out HA).q0)
              have hB1 : Own w w1 p' q' c' b := ((Hid.out HB).alloc (.cells (opCells o AL cL AK cK) 30)).beside hF1 ((Hid.out HA).alloc _) HAp.out.symm
              have m0w1 : w1.cell? ⟨wo.heap.size, 0, none⟩ = some (.int .i64 o.kind) := hg1.cell 0
              have m1w1 : w1.cell? ⟨wo.heap.size, 1, none⟩ = some (.int .i64 o.sector) := hg1.cell 1
              have m2w1 : w1.cell? ⟨wo.heap.size, 2, none⟩ = some (.int .i64 o.at_) := hg1.cell 2
              have m3w1 : w1.cell? ⟨wo.heap.size, 3, none⟩ = some (.slice AL o.l.length cL) := hg1.cell 3
              have m4w1 : w1.cell? ⟨wo.heap.size, 4, none⟩ = some (.slice AK o.keeps.length cK) := hg1.cell 4
              have HG1 := hide hg1
              have HO1 := hide hO1
              have HA1 := hide hA1
              have HB1 := hide hB1
              have HX := hide hF1
              clear hg1 hO1 hA1 hB1 hF1
              have HG := HG1
              have HO := HO1
              have HI : Hid (GuardInv w w1 p q c p' q' c' (NorS.does a o) b) := ⟨HA1.out, HB1.out, HSim.out⟩
              go_wp2_with fail
              refine (down_is (Hid.out HI).a.n).mono ?_
              rintro e w' ⟨rfl, rfl⟩
              go_wp2_with fail
              refine (down_is (Hid.out HI).b.n).mono ?_
              rintro e w' ⟨rfl, rfl⟩
              go_wp2_with fail
              refine (down_is (Hid.out HI).a.n).mono ?_
              rintro e w' ⟨rfl, rfl⟩
              go_wp2_with fail
              go_loopw [10] (fun i wv => GuardRel2 w p q c p' q' c' (NorS.does a o) b wo.heap.size (opCells o AL cL AK cK) o AL cL AK cK i wv) (fun i _ => 2 - (intOf i).toNat)
              case atStart => exact ⟨0, by omega, rfl, HI.out, HG.out, HO.out⟩
              case round =>
                obtain ⟨t, ht2, rfl, hI2, hG2, hO2⟩ := hrel
                obtain ⟨wv, rfl⟩ : ∃ wv : World, wv = wr := ⟨_, rfl⟩
                clear m0w1 m1w1 m2w1 m3w1 m4w1
                have HI2 := hide hI2
                have HG2 := hide hG2
                have HO2 := hide hO2
                clear hI2 hG2 hO2
                by_cases hlt2 : t < 2
                · have hsm : same ((NorS.does a o).sector t) (b.sector t) = true := same_iff.2 (NorS.Sim.sector HSim.out (by omega))
                  have hll := hide (show (((NorS.does a o).sector t).length : Int) ≤ 9223372036854775807 by
                    unfold NorS.sector; split
                    · rw [List.length_take]; omega
                    · simp)
                  go_wp2_with fail
                  refine (sector_is _ (Hid.out HI2).a.n).mono ?_
                  rintro e w3 ⟨A1, c1, rfl, h1, hA1, hF3⟩
                  have HI3 : Hid (GuardInv w w3 p q c p' q' c' (NorS.does a o) b) := ⟨(Hid.out HI2).a.frm hF3, (Hid.out HI2).b.frm hF3, HSim.out⟩
                  go_wp2_with fail
                  refine (sector_is _ (Hid.out HI3).b.n).mono ?_
                  rintro e w4 ⟨A2, c2, rfl, h2, hA2, hF4⟩
                  have HI4 : Hid (GuardInv w w4 p q c p' q' c' (NorS.does a o) b) := ⟨(Hid.out HI3).a.frm hF4, (Hid.out HI3).b.frm hF4, HSim.out⟩
                  have h1' := h1.frm hF4 (fun _ _ e => e)
                  go_wp2_with fail
                  refine (sameWords_is _ _ _ _ _ _ _ h1' h2 hll.out).mono ?_
                  rintro e w5 ⟨rfl, m, rfl⟩
                  have HG4 := hide (((Hid.out HG2).frm hF3 (fun e => e)).frm hF4 (fun e => e))
                  have HO4 := hide (((HO2.out.frm hF3 (fun _ _ e => e)).frm hF4 (fun _ _ e => e)).frm ((Frm.refl NoB w4).drewN m) (fun _ _ e => e))
                  clear h1 h2 h1' hF3 hF4 hA1 hA2 hll
                  go_wp2
                  go_roundw
                  case rel => exact ⟨t + 1, by omega, by go_num, ⟨(Hid.out HI4).a.drewN m, (Hid.out HI4).b.drewN m, HSim.out⟩, (Hid.out HG4).drewN m, HO4.out⟩
                  case measure => simp [intOf]; omega
                · obtain rfl : t = 2 := by omega
                  have m0wv : wv.cell? ⟨wo.heap.size, 0, none⟩ = some (.int .i64 o.kind) := (Hid.out HG2).cell 0
                  have m1wv : wv.cell? ⟨wo.heap.size, 1, none⟩ = some (.int .i64 o.sector) := (Hid.out HG2).cell 1
                  have m2wv : wv.cell? ⟨wo.heap.size, 2, none⟩ = some (.int .i64 o.at_) := (Hid.out HG2).cell 2
                  have m3wv : wv.cell? ⟨wo.heap.size, 3, none⟩ = some (.slice AL o.l.length cL) := (Hid.out HG2).cell 3
                  have m4wv : wv.cell? ⟨wo.heap.size, 4, none⟩ = some (.slice AK o.keeps.length cK) := (Hid.out HG2).cell 4
                  go_wp2_with fail
                  refine wp_loop_once ?_
                  by_cases hl0 : 0 < o.l.length
                  all_goals
                    go_wp2
                    go_roundw
                    case rel => exact ⟨j + 1, _, _, by omega, by omega, by go_num, HI2.out⟩
                    case measure => simp [intOf]; omega
        · by_cases hd : (NorS.does a o).down = true
          · have hS : NorS.Sim (NorS.does a o) (NorS.does b o) := NorS.Sim.same HS.out o hk
            have hdd : (NorS.does a o).down = (NorS.does b o).down := hS.down
            have HSim := hide hS
            have k1 : (o.kind != 7) = true := by simpa using hk
            have k2 : (o.kind == 7) = false := by simpa using hk
            have d1 : (NorS.does a o).down = true := hd
            have d2 : (NorS.does b o).down = true := by rw [← hdd]; exact d1
            have D1 : Hid ((NorS.does a o).down = true) := d1
            have hdd' := hide hdd
            clear hS hdd hd
            clear hk
            go_wp2_with fail
            refine (own_does ((Hid.out HA).alloc _) (H0.out.frm ((Frm.refl NoB wo).alloc _) (fun _ _ e => e)) (Nat.le_refl _)).mono ?_
            rintro e w1 ⟨rfl, hA1, hF1⟩
            have hg1 : Blk w1 wo.heap.size 30 (opCells o AL cL AK cK) := (Blk.new wo 30 (opCells o AL cL AK cK)).frm hF1 (fun e => by
              have := (Hid.out HA).n.ltp; have := (Hid.out HA).n.ltq
              rcases e with e | e <;> omega)
            have hO1 : OpIs w1 w.heap.size o AL cL AK cK := (H0.out.frm ((Frm.refl NoB wo).alloc _) (fun _ _ e => e)).frm hF1 (below_two (Hid.out HA).p0 (Hid.out HA).q0)
            have hB1 : Own w w1 p' q' c' b := ((Hid.out HB).alloc (.cells (opCells o AL cL AK cK) 30)).beside hF1 ((Hid.out HA).alloc _) HAp.out.symm
            have m0w1 : w1.cell? ⟨wo.heap.size, 0, none⟩ = some (.int .i64 o.kind) := hg1.cell 0
            have m1w1 : w1.cell? ⟨wo.heap.size, 1, none⟩ = some (.int .i64 o.sector) := hg1.cell 1
            have m2w1 : w1.cell? ⟨wo.heap.size, 2, none⟩ = some (.int .i64 o.at_) := hg1.cell 2
            have m3w1 : w1.cell? ⟨wo.heap.size, 3, none⟩ = some (.slice AL o.l.length cL) := hg1.cell 3
            have m4w1 : w1.cell? ⟨wo.heap.size, 4, none⟩ = some (.slice AK o.keeps.length cK) := hg1.cell 4
            have HG1 := hide hg1
            have HO1 := hide hO1
            have HA1 := hide hA1
            have HB1 := hide hB1
            have HX := hide hF1
            clear hg1 hO1 hA1 hB1 hF1
            go_wp2_with fail
            refine (own_does HB1.out HO1.out (Nat.le_refl _)).mono ?_
            rintro e w2 ⟨rfl, hB2, hF2⟩
            have hsz : wo.heap.size < w1.heap.size := (Hid.out HG1).lt
            have hgw : ∀ k, k = p' ∨ k = q' → k < wo.heap.size := fun k hk => by
              have := (Hid.out HB).n.ltp; have := (Hid.out HB).n.ltq
              omega
            have hg2 : Blk w2 wo.heap.size 30 (opCells o AL cL AK cK) := (Hid.out HG1).frm hF2 (fun e => by have := hgw _ e; omega)
            have hO2 : OpIs w2 w.heap.size o AL cL AK cK := HO1.out.frm hF2 (below_two (Hid.out HB).p0 (Hid.out HB).q0)
            have hA2 : Own w w2 p q c (NorS.does a o) := (Hid.out HA1).beside hF2 HB1.out HAp.out
            clear m0w1 m1w1 m2w1 m3w1 m4w1 hgw
            have m0w2 : w2.cell? ⟨wo.heap.size, 0, none⟩ = some (.int .i64 o.kind) := hg2.cell 0
            have m1w2 : w2.cell? ⟨wo.heap.size, 1, none⟩ = some (.int .i64 o.sector) := hg2.cell 1
            have m2w2 : w2.cell? ⟨wo.heap.size, 2, none⟩ = some (.int .i64 o.at_) := hg2.cell 2
            have m3w2 : w2.cell? ⟨wo.heap.size, 3, none⟩ = some (.slice AL o.l.length cL) := hg2.cell 3
            have m4w2 : w2.cell? ⟨wo.heap.size, 4, none⟩ = some (.slice AK o.keeps.length cK) := hg2.cell 4
            have HG := hide hg2
            have HO := hide hO2
            have HI : Hid (GuardInv w w2 p q c p' q' c' (NorS.does a o) (NorS.does b o)) := ⟨hA2, hB2, HSim.out⟩
            clear hg2 hO2 hA2 hB2 hF2
            go_wp2_with fail
            refine (down_is (Hid.out HI).a.n).mono ?_
            rintro e w' ⟨rfl, rfl⟩
            go_wp2_with fail
            refine (down_is (Hid.out HI).b.n).mono ?_
            rintro e w' ⟨rfl, rfl⟩
            go_wp2_with fail
            refine (down_is (Hid.out HI).a.n).mono ?_
            rintro e w' ⟨rfl, rfl⟩
            go_wp2
            go_roundw
            case rel => exact ⟨j + 1, _, _, by omega, by omega, by go_num, HI.out⟩
            case measure => simp [intOf]; omega
          · have hS : NorS.Sim (NorS.does a o) (NorS.does b o) := NorS.Sim.same HS.out o hk
            have hdd : (NorS.does a o).down = (NorS.does b o).down := hS.down
            have HSim := hide hS
            have k1 : (o.kind != 7) = true := by simpa using hk
            have k2 : (o.kind == 7) = false := by simpa using hk
            have d1 : (NorS.does a o).down = false := by simpa using hd
            have d2 : (NorS.does b o).down = false := by rw [← hdd]; exact d1
            have D1 : Hid ((NorS.does a o).down = false) := d1
            have hdd' := hide hdd
            clear hS hdd hd
            clear hk
            go_wp2_with fail
            refine (own_does ((Hid.out HA).alloc _) (H0.out.frm ((Frm.refl NoB wo).alloc _) (fun _ _ e => e)) (Nat.le_refl _)).mono ?_
            rintro e w1 ⟨rfl, hA1, hF1⟩
            have hg1 : Blk w1 wo.heap.size 30 (opCells o AL cL AK cK) := (Blk.new wo 30 (opCells o AL cL AK cK)).frm hF1 (fun e => by
              have := (Hid.out HA).n.ltp; have := (Hid.out HA).n.ltq
              rcases e with e | e <;> omega)
            have hO1 : OpIs w1 w.heap.size o AL cL AK cK := (H0.out.frm ((Frm.refl NoB wo).alloc _) (fun _ _ e => e)).frm hF1 (below_two (Hid.out HA).p0 (Hid.out HA).q0)
            have hB1 : Own w w1 p' q' c' b := ((Hid.out HB).alloc (.cells (opCells o AL cL AK cK) 30)).beside hF1 ((Hid.out HA).alloc _) HAp.out.symm
            have m0w1 : w1.cell? ⟨wo.heap.size, 0, none⟩ = some (.int .i64 o.kind) := hg1.cell 0
            have m1w1 : w1.cell? ⟨wo.heap.size, 1, none⟩ = some (.int .i64 o.sector) := hg1.cell 1
            have m2w1 : w1.cell? ⟨wo.heap.size, 2, none⟩ = some (.int .i64 o.at_) := hg1.cell 2
            have m3w1 : w1.cell? ⟨wo.heap.size, 3, none⟩ = some (.slice AL o.l.length cL) := hg1.cell 3
            have m4w1 : w1.cell? ⟨wo.heap.size, 4, none⟩ = some (.slice AK o.keeps.length cK) := hg1.cell 4
            have HG1 := hide hg1
            have HO1 := hide hO1
            have HA1 := hide hA1
            have HB1 := hide hB1
            have HX := hide hF1
            clear hg1 hO1 hA1 hB1 hF1
            go_wp2_with fail
            refine (own_does HB1.out HO1.out (Nat.le_refl _)).mono ?_
            rintro e w2 ⟨rfl, hB2, hF2⟩
            have hsz : wo.heap.size < w1.heap.size := (Hid.out HG1).lt
            have hgw : ∀ k, k = p' ∨ k = q' → k < wo.heap.size := fun k hk => by
              have := (Hid.out HB).n.ltp; have := (Hid.out HB).n.ltq
              omega
            have hg2 : Blk w2 wo.heap.size 30 (opCells o AL cL AK cK) := (Hid.out HG1).frm hF2 (fun e => by have := hgw _ e; omega)
            have hO2 : OpIs w2 w.heap.size o AL cL AK cK := HO1.out.frm hF2 (below_two (Hid.out HB).p0 (Hid.out HB).q0)
            have hA2 : Own w w2 p q c (NorS.does a o) := (Hid.out HA1).beside hF2 HB1.out HAp.out
            clear m0w1 m1w1 m2w1 m3w1 m4w1 hgw
            have m0w2 : w2.cell? ⟨wo.heap.size, 0, none⟩ = some (.int .i64 o.kind) := hg2.cell 0
            have m1w2 : w2.cell? ⟨wo.heap.size, 1, none⟩ = some (.int .i64 o.sector) := hg2.cell 1
            have m2w2 : w2.cell? ⟨wo.heap.size, 2, none⟩ = some (.int .i64 o.at_) := hg2.cell 2
            have m3w2 : w2.cell? ⟨wo.heap.size, 3, none⟩ = some (.slice AL o.l.length cL) := hg2.cell 3
            have m4w2 : w2.cell? ⟨wo.heap.size, 4, none⟩ = some (.slice AK o.keeps.length cK) := hg2.cell 4
            have HG := hide hg2
            have HO := hide hO2
            have HI : Hid (GuardInv w w2 p q c p' q' c' (NorS.does a o) (NorS.does b o)) := ⟨hA2, hB2, HSim.out⟩
            clear hg2 hO2 hA2 hB2 hF2
            go_wp2_with fail
            refine (down_is (Hid.out HI).a.n).mono ?_
            rintro e w' ⟨rfl, rfl⟩
            go_wp2_with fail
            refine (down_is (Hid.out HI).b.n).mono ?_
            rintro e w' ⟨rfl, rfl⟩
            go_wp2_with fail
            refine (down_is (Hid.out HI).a.n).mono ?_
            rintro e w' ⟨rfl, rfl⟩
            go_wp2_with fail
            go_loopw [10] (fun i wv => GuardRel2 w p q c p' q' c' (NorS.does a o) (NorS.does b o) wo.heap.size (opCells o AL cL AK cK) o AL cL AK cK i wv) (fun i _ => 2 - (intOf i).toNat)
            case atStart => exact ⟨0, by omega, rfl, HI.out, HG.out, HO.out⟩
            case round =>
              obtain ⟨t, ht2, rfl, hI2, hG2, hO2⟩ := hrel
              obtain ⟨wv, rfl⟩ : ∃ wv : World, wv = wr := ⟨_, rfl⟩
              clear m0w2 m1w2 m2w2 m3w2 m4w2
              have HI2 := hide hI2
              have HG2 := hide hG2
              have HO2 := hide hO2
              clear hI2 hG2 hO2
              by_cases hlt2 : t < 2
              · have hsm : same ((NorS.does a o).sector t) ((NorS.does b o).sector t) = true := same_iff.2 (NorS.Sim.sector HSim.out (by omega))
                have hll := hide (show (((NorS.does a o).sector t).length : Int) ≤ 9223372036854775807 by
                  unfold NorS.sector; split
                  · rw [List.length_take]; omega
                  · simp)
                go_wp2_with fail
                refine (sector_is _ (Hid.out HI2).a.n).mono ?_
                rintro e w3 ⟨A1, c1, rfl, h1, hA1, hF3⟩
                have HI3 : Hid (GuardInv w w3 p q c p' q' c' (NorS.does a o) (NorS.does b o)) := ⟨(Hid.out HI2).a.frm hF3, (Hid.out HI2).b.frm hF3, HSim.out⟩
                go_wp2_with fail
                refine (sector_is _ (Hid.out HI3).b.n).mono ?_
                rintro e w4 ⟨A2, c2, rfl, h2, hA2, hF4⟩
                have HI4 : Hid (GuardInv w w4 p q c p' q' c' (NorS.does a o) (NorS.does b o)) := ⟨(Hid.out HI3).a.frm hF4, (Hid.out HI3).b.frm hF4, HSim.out⟩
                have h1' := h1.frm hF4 (fun _ _ e => e)
                go_wp2_with fail
                refine (sameWords_is _ _ _ _ _ _ _ h1' h2 hll.out).mono ?_
                rintro e w5 ⟨rfl, m, rfl⟩
                have HG4 := hide (((Hid.out HG2).frm hF3 (fun e => e)).frm hF4 (fun e => e))
                have HO4 := hide (((HO2.out.frm hF3 (fun _ _ e => e)).frm hF4 (fun _ _ e => e)).frm ((Frm.refl NoB w4).drewN m) (fun _ _ e => e))
                clear h1 h2 h1' hF3 hF4 hA1 hA2 hll
                go_wp2
                go_roundw
                case rel => exact ⟨t + 1, by omega, by go_num, ⟨(Hid.out HI4).a.drewN m, (Hid.out HI4).b.drewN m, HSim.out⟩, (Hid.out HG4).drewN m, HO4.out⟩
                case measure => simp [intOf]; omega
              · obtain rfl : t = 2 := by omega
                have m0wv : wv.cell? ⟨wo.heap.size, 0, none⟩ = some (.int .i64 o.kind) := (Hid.out HG2).cell 0
                have m1wv : wv.cell? ⟨wo.heap.size, 1, none⟩ = some (.int .i64 o.sector) := (Hid.out HG2).cell 1
                have m2wv : wv.cell? ⟨wo.heap.size, 2, none⟩ = some (.int .i64 o.at_) := (Hid.out HG2).cell 2
                have m3wv : wv.cell? ⟨wo.heap.size, 3, none⟩ = some (.slice AL o.l.length cL) := (Hid.out HG2).cell 3
                have m4wv : wv.cell? ⟨wo.heap.size, 4, none⟩ = some (.slice AK o.keeps.length cK) := (Hid.out HG2).cell 4
                go_wp2_with fail
                refine wp_loop_once ?_
                by_cases hl0 : 0 < o.l.length
                all_goals
                  go_wp2
                  go_roundw
                  case rel => exact ⟨j + 1, _, _, by omega, by omega, by go_num, HI2.out⟩
                  case measure => simp [intOf]; omega
      · obtain rfl : j = 40 := by omega
        go_wp2_with fail
        refine (awake_is _).mono ?_
        rintro e w5 ⟨rfl, hF5⟩
        go_wp2
        go_ret
        exact ⟨rfl, (Hid.out HA).f.trans hF5⟩
    · obtain rfl : j = ops.length := by omega
      go_wp2_with fail
      refine (awake_is _).mono ?_
      rintro e w5 ⟨rfl, hF5⟩
      go_wp2
      go_ret
      exact ⟨rfl, (Hid.out HA).f.trans hF5⟩
end
end Go.Proofs.Ytlbnhmcejbidnaa

