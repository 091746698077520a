/-
  The flash's numbers: the walk.
-/
import Derived.Test.YtlbnhmcejbidnaaNorUp
import Derived.Test.YtlbnhmcejbidnaaNorAwake
import Derived.Test.YtlbnhmcejbidnaaNorApart
import Derived.Test.YtlbnhmcejbidnaaNorOwn
namespace Go.Proofs.Ytlbnhmcejbidnaa
open Go.RowKit
theorem ints_toArray {k : IntKind} {xs : List Int} {i : Nat} : (ints k xs).toArray[i]? = (ints k xs)[i]? := by simp
def zc : Array Value := (ints .u32 (List.replicate 65 0)).toArray
/-- a flash, and a list of zeros beside it -/
structure Num (w0 w : World) (p q c : Nat) (s : NorS) (g : Nat) : Prop where
  o : Own w0 w p q c s
  b : Blk w g 36 zc
  h : ¬ Two p q g
theorem rd_blk {w : World} {g : Nat} {t : TypeId} {vs : List Value} (h : Blk w g t vs.toArray) : Rd w (some ⟨g, 0, none⟩) vs := fun _ => ⟨g, 0, rfl, fun i v hv => by
  rw [Nat.zero_add, h.cell i]; simpa using hv⟩
section
variable {w0 w : World} {p q c g : Nat} {s : NorS}
theorem Num.rd65 (h : Num w0 w p q c s g) : Rd w (some ⟨g, 0, none⟩) (ints .u32 (List.replicate 65 0)) := rd_blk h.b
theorem Num.rd64 (h : Num w0 w p q c s g) : Rd w (some ⟨g, 0, none⟩) (ints .u32 (List.replicate 64 0)) := by
  have := h.rd65.take 64
  rw [← ints_take] at this
  exact this
theorem u32_zeros {n : Nat} : U32 (List.replicate n 0) := fun x hx => by
  have := List.eq_of_mem_replicate hx; omega
theorem Num.step {w' : World} {s' : NorS} (h : Num w0 w p q c s g) (hn : NorAt w' p q c s') (hf : Frm (Two p q) w w') : Num w0 w' p q c s' g := ⟨h.o.step hn hf, h.b.frm hf h.h, h.h⟩
theorem Num.alloc (h : Num w0 w p q c s g) (o : Obj) : Num w0 (w.alloc o) p q c s g := ⟨h.o.alloc o, h.b.alloc o, h.h⟩
theorem Num.program (sec k : Int) (A : Option Addr) (cp n : Nat) (xs : List Int) (hn : xs.length = n) (h : Num w0 w p q c s g) (hx : Rd w A (ints .u32 xs)) (hA : ∀ a, A = some a → ¬ Two p q a.block) (ux : U32 xs) (hm : (xs.length : Int) ≤ 9223372036854775807) :
    Calls Try.prog 20 #[.pointer (some ⟨p, 0, none⟩), .int .i64 sec, .int .i64 k, .slice A n cp] w fun e w' => e = .returned (.int .i64 (s.programE sec k xs)) ∧ Num w0 w' p q c (s.program sec k xs) g := by
  refine (program_at sec k A cp n xs hn h.o.n hx (fun _ => hA) ux hm).mono ?_
  rintro e w' ⟨rfl, hn, hf⟩
  exact ⟨rfl, h.step hn hf⟩
theorem Num.rewrite (sec k : Int) (A : Option Addr) (cp n : Nat) (xs : List Int) (hn : xs.length = n) (h : Num w0 w p q c s g) (hx : Rd w A (ints .u32 xs)) (_hA : ∀ a, A = some a → ¬ Two p q a.block) (ux : U32 xs) (hm : (xs.length : Int) ≤ 9223372036854775807) :
    Calls Try.prog 26 #[.pointer (some ⟨p, 0, none⟩), .int .i64 sec, .int .i64 k, .slice A n cp] w fun e w' => e = .returned (.int .i64 (s.rewriteE sec k xs)) ∧ Num w0 w' p q c (s.rewrite sec k xs) g := by
  refine (rewrite_at sec k A cp n xs hn h.o.n hx ux hm).mono ?_
  rintro e w' ⟨rfl, hn, hf⟩
  exact ⟨rfl, h.step hn hf⟩
theorem Own.new_not (h : Own w0 w p q c s) : ¬ Two p q w.heap.size := fun e => by
  have := h.n.ltp; have := h.n.ltq
  rcases e with e | e <;> omega
theorem Num.programL (sec k : Int) (xs : List Int) (h : Num w0 w p q c s g) (ux : U32 xs) (hm : (xs.length : Int) ≤ 9223372036854775807) (n : Nat) (hn : xs.length = n) (cs : Array Value) (hcs : cs = (ints .u32 xs).toArray) :
    Calls Try.prog 20 #[.pointer (some ⟨p, 0, none⟩), .int .i64 sec, .int .i64 k, .slice (some ⟨w.heap.size, 0, none⟩) n n] (w.alloc (.cells cs 36)) fun e w' => e = .returned (.int .i64 (s.programE sec k xs)) ∧ Num w0 w' p q c (s.program sec k xs) g := by
  subst hcs
  exact Num.program sec k _ n n xs hn (h.alloc _) (rd_lit w _ _) (fun a ha => by injection ha with ha; subst ha; exact h.o.new_not) ux hm
theorem Num.rewriteL (sec k : Int) (xs : List Int) (h : Num w0 w p q c s g) (ux : U32 xs) (hm : (xs.length : Int) ≤ 9223372036854775807) (n : Nat) (hn : xs.length = n) (cs : Array Value) (hcs : cs = (ints .u32 xs).toArray) :
    Calls Try.prog 26 #[.pointer (some ⟨p, 0, none⟩), .int .i64 sec, .int .i64 k, .slice (some ⟨w.heap.size, 0, none⟩) n n] (w.alloc (.cells cs 36)) fun e w' => e = .returned (.int .i64 (s.rewriteE sec k xs)) ∧ Num w0 w' p q c (s.rewrite sec k xs) g := by
  subst hcs
  exact Num.rewrite sec k _ n n xs hn (h.alloc _) (rd_lit w _ _) (fun a ha => by injection ha with ha; subst ha; exact h.o.new_not) ux hm
theorem Num.erase (sec : Int) (h : Num w0 w p q c s g) :
    Calls Try.prog 22 #[.pointer (some ⟨p, 0, none⟩), .int .i64 sec] w fun e w' => e = .returned (.int .i64 (s.eraseE sec)) ∧ Num w0 w' p q c (s.erase sec) g := by
  refine (erase_is sec h.o.n).mono ?_
  rintro e w' ⟨rfl, hn, hf⟩
  exact ⟨rfl, h.step hn hf⟩
/-- the list that is handed in is the caller's still -/
theorem own_rewrite_keep (sec k x : Int) (h : Own w0 w p q c s) (hx : 0 ≤ x ∧ x < 4294967296) :
    Calls Try.prog 26 #[.pointer (some ⟨p, 0, none⟩), .int .i64 sec, .int .i64 k, .slice (some ⟨w.heap.size, 0, none⟩) 1 1] (w.alloc (.cells #[.int .u32 x] 36)) fun e w' => e = .returned (.int .i64 (s.rewriteE sec k [x])) ∧ Own w0 w' p q c (s.rewrite sec k [x]) ∧ Blk w' w.heap.size 36 #[.int .u32 x] ∧ w.heap.size ≠ p ∧ w.heap.size ≠ q := by
  have := h.n.ltp; have := h.n.ltq
  refine (rewrite_at sec k _ 1 1 [x] rfl (h.alloc (.cells #[.int .u32 x] 36)).n (rd_lit w [.int .u32 x] _) (by intro y hy; simp at hy; subst hy; exact hx) (by simp)).mono ?_
  rintro e w' ⟨rfl, hn, hf⟩
  exact ⟨rfl, (h.alloc _).step hn hf, (Blk.new w _ _).frm hf h.new_not, by omega, by omega⟩
theorem Own.wrote (h : Own w0 w p q c s) (b i : Nat) (v : Value) (hp : b ≠ p) (hq : b ≠ q) (hb : w0.heap.size ≤ b) : Own w0 (w.setCell ⟨b, i, none⟩ v) p q c s := by
  have hf : Frm (One b) w (w.setCell ⟨b, i, none⟩ v) := (Frm.refl (One b) w).set1 i v
  exact ⟨h.n.frm hf (fun e => hp e.symm) (fun e => hq e.symm), h.f.then_ hf (fun j hj e => by have : j = b := e; omega), h.p0, h.q0⟩
end
def gr0 : NorS := NorS.new 1024 1024
def gr2 : NorS := gr0.program 1023 63 [0]
theorem gr1_e : gr0.rewriteE 1023 0 [] = 41 := by
  unfold NorS.rewriteE NorS.there gr0 NorS.new
  simp
theorem gr1_is : gr0.rewrite 1023 0 [] = gr0 := by
  unfold NorS.rewrite
  rw [gr1_e]
  rfl
theorem gr0_up : gr0.up 1023 63 (([0] : List Int).length : Int) = 0 := by
  unfold NorS.up NorS.there gr0 NorS.new
  simp
theorem gr0_up1 : gr0.up 1023 63 1 = 0 := gr0_up
theorem mid_up (s : NorS) (l : List Int) (a b c : Int) : (s.mid l).up a b c = s.up a b c := rfl
theorem gr2_e : gr0.programE 1023 63 [0] = 0 := ((NorS.crash_up (NorS.new 1024 1024) []).program gr0_up).2
theorem gr2_r : decide (gr2.up 1023 63 1 = 0 ∧ gr2.read 1023 63 = 0) = true := by
  have h : gr2 = gr0.mid (NorS.andL gr0.l (NorS.at_ 1023 63) [0]) := ((⟨rfl, rfl, rfl⟩ : gr0.Up).program gr0_up).1
  have hu : gr2.up 1023 63 1 = 0 := by rw [h, mid_up]; exact gr0_up1
  refine decide_eq_true ⟨hu, ?_⟩
  unfold NorS.read
  rw [if_pos hu, h]
  show (gr0.l.set (NorS.at_ 1023 63) (wand (gr0.l.getD (NorS.at_ 1023 63) 0) 0)).getD (NorS.at_ 1023 63) 0 = 0
  rw [NorS.getD_set _ _ _ _ (by unfold gr0 NorS.new; rw [List.length_replicate]; decide), if_pos rfl]
  simp [wand]
def nu0 : NorS := NorS.new 2 1
def nu1 : NorS := nu0.program 2 0 []
theorem nu1_e : nu0.programE 2 0 [] = 2 := by kernel_rfl
def nu2 : NorS := nu1.program (-1) 0 []
theorem nu2_e : nu1.programE (-1) 0 [] = 2 := by kernel_rfl
def nu3 : NorS := nu2.program 0 (-1) []
theorem nu3_e : nu2.programE 0 (-1) [] = 2 := by kernel_rfl
def nu4 : NorS := nu3.program 0 64 []
theorem nu4_e : nu3.programE 0 64 [] = 0 := by kernel_rfl
def nu5 : NorS := nu4.program 0 65 []
theorem nu5_e : nu4.programE 0 65 [] = 2 := by kernel_rfl
def nu6 : NorS := nu5.program 0 64 [1]
theorem nu6_e : nu5.programE 0 64 [1] = 2 := by kernel_rfl
def nu7 : NorS := nu6.program 0 0 (List.replicate 65 0)
theorem nu7_e : nu6.programE 0 0 (List.replicate 65 0) = 2 := by kernel_rfl
def nu8 : NorS := nu7.program 0 0 (List.replicate 64 0)
theorem nu8_e : nu7.programE 0 0 (List.replicate 64 0) = 0 := by kernel_rfl
def nu9 : NorS := nu8.erase 2
theorem nu9_e : nu8.eraseE 2 = 2 := by kernel_rfl
def nu10 : NorS := nu9.rewrite 1 64 [1]
theorem nu10_e : nu9.rewriteE 1 64 [1] = 2 := by kernel_rfl
def nu11 : NorS := nu10.rewrite 1 4611686018427387904 [1]
theorem nu11_e : nu10.rewriteE 1 4611686018427387904 [1] = 2 := by kernel_rfl
def nu12 : NorS := nu11.rewrite 2 0 []
theorem nu12_e : nu11.rewriteE 2 0 [] = 2 := by kernel_rfl
theorem nu_f1 : nu12.up 0 64 1 = 2 := by kernel_rfl
theorem nu_f2 : nu12.up 2 0 1 = 2 := by kernel_rfl
def nu13 : NorS := nu12.rewrite 1 3 [5]
theorem nu13_e : nu12.rewriteE 1 3 [5] = 0 := by kernel_rfl
def nu14 : NorS := nu13.arms (-9)
def nu15 : NorS := nu14.program 1 0 [1]
theorem nu15_e : nu14.programE 1 0 [1] = 40 := by kernel_rfl
theorem nu_f3 : nu15.up 1 3 1 = 40 := by kernel_rfl
def nu16 : NorS := nu15.arms 7
def nu17 : NorS := nu16.erase 0
theorem nu17_e : nu16.eraseE 0 = 40 := by kernel_rfl
def nu18 : NorS := nu17.program 9 9 []
theorem nu18_e : nu17.programE 9 9 [] = 40 := by kernel_rfl
def nu19 : NorS := nu18.rewrite 1 4 [8]
theorem nu19_e : nu18.rewriteE 1 4 [8] = 0 := by kernel_rfl
def nu20 : NorS := nu19.crash [true]
theorem nu_f4 : decide (nu20.up 1 3 1 = 0 ∧ nu20.read 1 3 = 5) = true := by kernel_rfl
theorem nu_f5 : decide (nu20.up 1 4 1 = 0 ∧ nu20.read 1 4 = 8) = true := by kernel_rfl
theorem nu_f6 : decide (nu20.up 1 0 1 = 0 ∧ nu20.read 1 0 = 4294967295) = true := by kernel_rfl
theorem nu_f7 : decide (nu20.up 0 0 1 = 0 ∧ nu20.read 0 0 = 0) = true := by kernel_rfl
def nu21 : NorS := nu20.erase 0
theorem nu21_e : nu20.eraseE 0 = 0 := by kernel_rfl
def NumRel (w : World) (g : Nat) (i : Value) (wr : World) : Prop := ∃ j : Nat, j ≤ 5 ∧ i = .int .i64 j ∧ Frm NoB w wr ∧ Blk wr g 51 #[.int .i64 0, .int .i64 0, .int .i64 (-1), .int .i64 0, .int .i64 1025, .int .i64 0, .int .i64 4, .int .i64 (-1), .int .i64 4, .int .i64 5]

set_option maxRecDepth 100000 in
set_option maxHeartbeats 8000000 in
theorem norNumbers_is (w : World) : Calls Try.prog 7 #[] w fun e w' => e = .returned (.bool true) ∧ Frm NoB w w' := by
  have hmk : ∀ v, Sem.run Try.prog (Instr.makeSlice 27 (.int .i64 65) (.int .i64 65)) v = .ok (.slice (some ⟨v.heap.size, 0, none⟩) 65 65) (v.alloc (.cells zc 36)) := fun _ => by kernel_rfl
  go_enter Try.func7, Try.ntmps7
  go_wp2_with fail
  have HG0 := hide (Blk.new w 51 #[.int .i64 0, .int .i64 0, .int .i64 (-1), .int .i64 0, .int .i64 1025, .int .i64 0, .int .i64 4, .int .i64 (-1), .int .i64 4, .int .i64 5])
  go_loopw [30] (fun i wr => NumRel w w.heap.size i wr) (fun i _ => 5 - (intOf i).toNat)
  case atStart => exact ⟨0, by omega, rfl, (Frm.refl NoB w).alloc _, HG0.out⟩
  case round =>
    obtain ⟨j, hj, rfl, hF, hB⟩ := hrel
    have HF := hide hF
    have HB := hide hB
    have hlt := hB.lt
    clear hF HG0
    obtain ⟨wo, rfl⟩ : ∃ wo : World, wo = wr := ⟨_, rfl⟩
    generalize hg : w.heap.size = g at *
    have c0 : wo.cell? ⟨g, 0, none⟩ = some (.int .i64 0) := hB.cell 0
    have c1 : wo.cell? ⟨g, 1, none⟩ = some (.int .i64 0) := hB.cell 1
    have c2 : wo.cell? ⟨g, 2, none⟩ = some (.int .i64 (-1)) := hB.cell 2
    have c3 : wo.cell? ⟨g, 3, none⟩ = some (.int .i64 0) := hB.cell 3
    have c4 : wo.cell? ⟨g, 4, none⟩ = some (.int .i64 1025) := hB.cell 4
    have c5 : wo.cell? ⟨g, 5, none⟩ = some (.int .i64 0) := hB.cell 5
    have c6 : wo.cell? ⟨g, 6, none⟩ = some (.int .i64 4) := hB.cell 6
    have c7 : wo.cell? ⟨g, 7, none⟩ = some (.int .i64 (-1)) := hB.cell 7
    have c8 : wo.cell? ⟨g, 8, none⟩ = some (.int .i64 4) := hB.cell 8
    have c9 : wo.cell? ⟨g, 9, none⟩ = some (.int .i64 5) := hB.cell 9
    clear hB
    rcases (by omega : j = 0 ∨ j = 1 ∨ j = 2 ∨ j = 3 ∨ j = 4 ∨ j = 5) with rfl | rfl | rfl | rfl | rfl | rfl
    · go_wp2_with fail
      refine (new_bad _ _ _ (by omega)).mono ?_
      rintro e w1 ⟨rfl, rfl⟩
      go_wp2
      go_roundw
      case rel => exact ⟨1, by omega, by go_num, HF.out.alloc _, (Hid.out HB).alloc _⟩
      case measure => simp [intOf]
    · go_wp2_with fail
      refine (new_bad _ _ _ (by omega)).mono ?_
      rintro e w1 ⟨rfl, rfl⟩
      go_wp2
      go_roundw
      case rel => exact ⟨2, by omega, by go_num, HF.out.alloc _, (Hid.out HB).alloc _⟩
      case measure => simp [intOf]
    · go_wp2_with fail
      refine (new_bad _ _ _ (by omega)).mono ?_
      rintro e w1 ⟨rfl, rfl⟩
      go_wp2
      go_roundw
      case rel => exact ⟨3, by omega, by go_num, HF.out.alloc _, (Hid.out HB).alloc _⟩
      case measure => simp [intOf]
    · go_wp2_with fail
      refine (new_bad _ _ _ (by omega)).mono ?_
      rintro e w1 ⟨rfl, rfl⟩
      go_wp2
      go_roundw
      case rel => exact ⟨4, by omega, by go_num, HF.out.alloc _, (Hid.out HB).alloc _⟩
      case measure => simp [intOf]
    · go_wp2_with fail
      refine (new_bad _ _ _ (by omega)).mono ?_
      rintro e w1 ⟨rfl, rfl⟩
      go_wp2
      go_roundw
      case rel => exact ⟨5, by omega, by go_num, HF.out.alloc _, (Hid.out HB).alloc _⟩
      case measure => simp [intOf]
    · clear c0 c1 c2 c3 c4 c5 c6 c7 c8 c9 HB hlt hg hj
      go_wp2_with fail
      refine (own_new 1024 1024 HF.out (by omega) (by omega) (by omega)).mono ?_
      rintro e w1 ⟨pg, qg, cg, rfl, hN, -, -, -⟩
      have HR0 : Hid (Own w w1 pg qg cg gr0) := hN
      clear hN
      go_wp2_with fail
      refine (own_new 2 1 HR0.out.f (by omega) (by omega) (by omega)).mono ?_
      rintro e w2 ⟨p, q, c, rfl, hN, hp, hq, hF⟩
      have HAp : Hid (Apart pg qg p q) := by
        have := HR0.out.n.ltp; have := HR0.out.n.ltq
        exact ⟨by omega, by omega, by omega, by omega⟩
      have HR1 : Hid (Own w w2 pg qg cg gr0) := HR0.out.frm hF
      have HM0 : Hid (Own w w2 p q c nu0) := hN
      clear hN hF hp hq HR0
      go_wp2_with fail
      refine (sectors_is HR1.out.n).mono ?_
      rintro e w' ⟨he, rfl⟩
      rw [show ((gr0.n : Nat) : Int) = 1024 from rfl] at he
      subst he
      go_wp2_with fail
      refine (guard_is HR1.out.n).mono ?_
      rintro e w' ⟨he, rfl⟩
      rw [show gr0.guard = 1024 from rfl] at he
      subst he
      go_wp2_with fail
      refine (rewrite_at 1023 0 none 0 0 [] rfl HR1.out.n (Rd.nil _ _) (by intro x hx; cases hx) (by simp)).mono ?_
      rintro e w3 ⟨he, hn, hf⟩
      rw [gr1_e] at he
      rw [gr1_is] at hn
      subst he
      have HR2 : Hid (Own w w3 pg qg cg gr0) := HR1.out.step hn hf
      have HM1 : Hid (Own w w3 p q c nu0) := HM0.out.beside hf HR1.out HAp.out.symm
      clear hn hf HR1 HM0
      go_wp2_with fail
      refine (program_at 1023 63 _ 1 1 [0] rfl (HR2.out.alloc (.cells #[.int .u32 0] 36)).n (rd_lit w3 [.int .u32 0] _) (fun _ a ha => by injection ha with ha; subst ha; exact HR2.out.new_not) (by intro x hx; simp at hx; omega) (by simp)).mono ?_
      rintro e w4 ⟨he, hn, hf⟩
      rw [gr2_e] at he
      subst he
      have HR3 : Hid (Own w w4 pg qg cg gr2) := (HR2.out.alloc _).step hn hf
      have HM2 : Hid (Own w w4 p q c nu0) := (HM1.out.alloc _).beside hf (HR2.out.alloc _) HAp.out.symm
      clear hn hf HR2 HM1
      go_wp2_with fail
      refine (own_reads 1023 63 0 _ HR3.out gr2_r).mono ?_
      rintro e w' ⟨rfl, rfl⟩
      have HN0 : Hid (Num w (w4.alloc (.cells zc 36)) p q c nu0 w4.heap.size) := ⟨HM2.out.alloc _, Blk.new _ _ _, HM2.out.new_not⟩
      have HGB : Hid (w.heap.size ≤ w4.heap.size) := HM2.out.f.size
      clear HR3 HM2 HAp HF
      go_wp2_with fail
      generalize w4.alloc (.cells zc 36) = w10 at *
      generalize w4.heap.size = g at *
      refine (Num.program 2 0 none 0 0 [] rfl HN0.out (Rd.nil _ _) (fun a ha => by cases ha) (by intro x hx; cases hx) (by simp)).mono ?_
      rintro e w11 ⟨he, hN⟩
      rw [show nu0.programE 2 0 [] = 2 from nu1_e] at he
      subst he
      have HN1 : Hid (Num w w11 p q c nu1 g) := hN
      clear hN HN0
      go_wp2_with fail
      refine (Num.program (-1) 0 none 0 0 [] rfl HN1.out (Rd.nil _ _) (fun a ha => by cases ha) (by intro x hx; cases hx) (by simp)).mono ?_
      rintro e w12 ⟨he, hN⟩
      rw [show nu1.programE (-1) 0 [] = 2 from nu2_e] at he
      subst he
      have HN2 : Hid (Num w w12 p q c nu2 g) := hN
      clear hN HN1
      go_wp2_with fail
      refine (Num.program 0 (-1) none 0 0 [] rfl HN2.out (Rd.nil _ _) (fun a ha => by cases ha) (by intro x hx; cases hx) (by simp)).mono ?_
      rintro e w13 ⟨he, hN⟩
      rw [show nu2.programE 0 (-1) [] = 2 from nu3_e] at he
      subst he
      have HN3 : Hid (Num w w13 p q c nu3 g) := hN
      clear hN HN2
      go_wp2_with fail
      refine (Num.program 0 64 none 0 0 [] rfl HN3.out (Rd.nil _ _) (fun a ha => by cases ha) (by intro x hx; cases hx) (by simp)).mono ?_
      rintro e w14 ⟨he, hN⟩
      rw [show nu3.programE 0 64 [] = 0 from nu4_e] at he
      subst he
      have HN4 : Hid (Num w w14 p q c nu4 g) := hN
      clear hN HN3
      go_wp2_with fail
      refine (Num.program 0 65 none 0 0 [] rfl HN4.out (Rd.nil _ _) (fun a ha => by cases ha) (by intro x hx; cases hx) (by simp)).mono ?_
      rintro e w15 ⟨he, hN⟩
      rw [show nu4.programE 0 65 [] = 2 from nu5_e] at he
      subst he
      have HN5 : Hid (Num w w15 p q c nu5 g) := hN
      clear hN HN4
      go_wp2_with fail
      refine (Num.programL 0 64 [1] HN5.out (by intro x hx; simp at hx; omega) (by simp) _ rfl _ rfl).mono ?_
      rintro e w16 ⟨he, hN⟩
      rw [show nu5.programE 0 64 [1] = 2 from nu6_e] at he
      subst he
      have HN6 : Hid (Num w w16 p q c nu6 g) := hN
      clear hN HN5
      go_wp2_with fail
      refine (Num.program 0 0 (some ⟨g, 0, none⟩) 65 _ (List.replicate 65 0) (by simp) HN6.out HN6.out.rd65 (fun a ha => by injection ha with ha; subst ha; exact HN6.out.h) u32_zeros (by simp)).mono ?_
      rintro e w17 ⟨he, hN⟩
      rw [show nu6.programE 0 0 (List.replicate 65 0) = 2 from nu7_e] at he
      subst he
      have HN7 : Hid (Num w w17 p q c nu7 g) := hN
      clear hN HN6
      go_wp2_with fail
      refine (Num.program 0 0 (some ⟨g, 0, none⟩) 65 _ (List.replicate 64 0) (by simp) HN7.out HN7.out.rd64 (fun a ha => by injection ha with ha; subst ha; exact HN7.out.h) u32_zeros (by simp)).mono ?_
      rintro e w18 ⟨he, hN⟩
      rw [show nu7.programE 0 0 (List.replicate 64 0) = 0 from nu8_e] at he
      subst he
      have HN8 : Hid (Num w w18 p q c nu8 g) := hN
      clear hN HN7
      go_wp2_with fail
      refine (Num.erase 2 HN8.out).mono ?_
      rintro e w19 ⟨he, hN⟩
      rw [show nu8.eraseE 2 = 2 from nu9_e] at he
      subst he
      have HN9 : Hid (Num w w19 p q c nu9 g) := hN
      clear hN HN8
      go_wp2_with fail
      refine (Num.rewriteL 1 64 [1] HN9.out (by intro x hx; simp at hx; omega) (by simp) _ rfl _ rfl).mono ?_
      rintro e w20 ⟨he, hN⟩
      rw [show nu9.rewriteE 1 64 [1] = 2 from nu10_e] at he
      subst he
      have HN10 : Hid (Num w w20 p q c nu10 g) := hN
      clear hN HN9
      go_wp2_with fail
      refine (Num.rewriteL 1 4611686018427387904 [1] HN10.out (by intro x hx; simp at hx; omega) (by simp) _ rfl _ rfl).mono ?_
      rintro e w21 ⟨he, hN⟩
      rw [show nu10.rewriteE 1 4611686018427387904 [1] = 2 from nu11_e] at he
      subst he
      have HN11 : Hid (Num w w21 p q c nu11 g) := hN
      clear hN HN10
      go_wp2_with fail
      refine (Num.rewrite 2 0 none 0 0 [] rfl HN11.out (Rd.nil _ _) (fun a ha => by cases ha) (by intro x hx; cases hx) (by simp)).mono ?_
      rintro e w22 ⟨he, hN⟩
      rw [show nu11.rewriteE 2 0 [] = 2 from nu12_e] at he
      subst he
      have HN12 : Hid (Num w w22 p q c nu12 g) := hN
      clear hN HN11
      have hN := HN12.out.o
      clear HN12
      have HN12 : Hid (Own w w22 p q c nu12) := hN
      clear hN
      go_wp2_with fail
      refine (read_is 0 64 HN12.out.n).mono ?_
      rintro e w' ⟨he, rfl⟩
      rw [show nu12.up 0 64 1 = 2 from nu_f1] at he
      subst he
      go_wp2_with fail
      refine (read_is 2 0 HN12.out.n).mono ?_
      rintro e w' ⟨he, rfl⟩
      rw [show nu12.up 2 0 1 = 2 from nu_f2] at he
      subst he
      go_wp2_with fail
      refine (own_rewrite_keep 1 3 5 HN12.out (by omega)).mono ?_
      rintro e w23 ⟨he, hN, hb, hbp, hbq⟩
      rw [show nu12.rewriteE 1 3 [5] = 0 from nu13_e] at he
      subst he
      have hb0 := hb.cell 0
      have hbf := hb.frozen 0
      have HW : Hid (w.heap.size ≤ w22.heap.size) := HN12.out.f.size
      generalize w22.heap.size = gb at *
      have HB := hide (⟨hbp, hbq⟩ : gb ≠ p ∧ gb ≠ q)
      have HM : Hid (Own w w23 p q c nu13) := hN
      clear hN hb hbp hbq HN12
      go_wp2_with fail
      have HN13 : Hid (Own w (w23.setCell ⟨gb, 0, none⟩ (.int .u32 6)) p q c nu13) := HM.out.wrote gb _ _ HB.out.1 HB.out.2 HW.out
      clear HM HB HW
      refine (own_arm _ HN13.out (by omega)).mono ?_
      rintro e w24 ⟨rfl, hN⟩
      have HN14 : Hid (Own w w24 p q c nu14) := hN
      clear hN HN13
      go_wp2_with fail
      refine (own_program 1 0 [1] HN14.out (by intro x hx; simp at hx; omega) (by simp) _ rfl _ rfl).mono ?_
      rintro e w25 ⟨he, hN⟩
      rw [show nu14.programE 1 0 [1] = 40 from nu15_e] at he
      subst he
      have HN15 : Hid (Own w w25 p q c nu15) := hN
      clear hN HN14
      go_wp2_with fail
      refine (read_is 1 3 HN15.out.n).mono ?_
      rintro e w' ⟨he, rfl⟩
      rw [show nu15.up 1 3 1 = 40 from nu_f3] at he
      subst he
      go_wp2_with fail
      refine (own_arm _ HN15.out (by omega)).mono ?_
      rintro e w26 ⟨rfl, hN⟩
      have HN16 : Hid (Own w w26 p q c nu16) := hN
      clear hN HN15
      go_wp2_with fail
      refine (own_erase 0 HN16.out).mono ?_
      rintro e w27 ⟨he, hN⟩
      rw [show nu16.eraseE 0 = 40 from nu17_e] at he
      subst he
      have HN17 : Hid (Own w w27 p q c nu17) := hN
      clear hN HN16
      go_wp2_with fail
      refine (own_program_nil 9 9 HN17.out).mono ?_
      rintro e w28 ⟨he, hN⟩
      rw [show nu17.programE 9 9 [] = 40 from nu18_e] at he
      subst he
      have HN18 : Hid (Own w w28 p q c nu18) := hN
      clear hN HN17
      go_wp2_with fail
      refine (own_rewrite 1 4 [8] HN18.out (by intro x hx; simp at hx; omega) (by simp) _ rfl _ rfl).mono ?_
      rintro e w29 ⟨he, hN⟩
      rw [show nu18.rewriteE 1 4 [8] = 0 from nu19_e] at he
      subst he
      have HN19 : Hid (Own w w29 p q c nu19) := hN
      clear hN HN18
      go_wp2_with fail
      refine (own_crash [true] HN19.out (by simp) _ rfl _ rfl).mono ?_
      rintro e w30 ⟨rfl, hN⟩
      have HN20 : Hid (Own w w30 p q c nu20) := hN
      clear hN HN19
      go_wp2_with fail
      refine (own_reads 1 3 5 _ HN20.out nu_f4).mono ?_
      rintro e w' ⟨rfl, rfl⟩
      go_wp2_with fail
      refine (own_reads 1 4 8 _ HN20.out nu_f5).mono ?_
      rintro e w' ⟨rfl, rfl⟩
      go_wp2_with fail
      refine (own_reads 1 0 4294967295 _ HN20.out nu_f6).mono ?_
      rintro e w' ⟨rfl, rfl⟩
      go_wp2_with fail
      refine (own_reads 0 0 0 _ HN20.out nu_f7).mono ?_
      rintro e w' ⟨rfl, rfl⟩
      go_wp2_with fail
      refine (own_erase 0 HN20.out).mono ?_
      rintro e w31 ⟨he, hN⟩
      rw [show nu20.eraseE 0 = 0 from nu21_e] at he
      subst he
      have HN21 : Hid (Own w w31 p q c nu21) := hN
      clear hN HN20
      go_wp2_with fail
      refine (awake_is _).mono ?_
      rintro e wz ⟨rfl, hFz⟩
      go_wp2
      go_ret
      exact ⟨rfl, HN21.out.f.trans hFz⟩
end Go.Proofs.Ytlbnhmcejbidnaa

