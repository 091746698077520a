/-
  Texts of this claim, joined: CelNum.
-/
import Derived.Test.YtiapoalkkhpmlaaCq0
/-
  The fixed examples of the chapter: the walk.
-/
namespace Go.Proofs.Ytiapoalkkhpmlaa
open Go.RowKit
section
variable {w0 w w' : World} {p q c gd g : Nat} {v vx : Value} {d : DrvS} {s : NorS} {b : List Int}
/-- a put that is refused -/
theorem ownc_stays (E : Int) (h : OwnC w0 w p q c gd g v d s) (hy : By w vx b) (hxp : b ≠ [] → ∀ k, RowB vx k → ¬ Tri p q g k) (hc : d.cput s (clook (d.fn s)) b = (s, E)) (hE : E = 3 ∨ E = 5) :
    Calls Try.prog 11 #[.pointer (some ⟨g, 0, none⟩), vx] w fun e w' => e = .returned (.int .i64 E) ∧ OwnC w0 w' p q c gd g v d s ∧ Frm (Tri p q g) w w' := by
  refine (cput_is h.t h.dr h.o.n h.dk h.m hy h.two hxp).mono ?_
  rintro e w' ⟨rfl, hN, hF, -, hK, -⟩
  rw [hc] at hN hK ⊢
  refine ⟨rfl, ⟨⟨hN, h.o.tri7 hF h.g0, h.o.p0, h.o.q0⟩, h.dr.frm hF (fun e => ?_), hK hE, h.g0, h.vn, h.dk, h.m⟩, hF⟩
  have h1 := h.dr.ne h.o.n
  have h2 := h.t.ned h.dr
  rcases e with e | e | e
  · exact h1.1 e
  · exact h1.2 e
  · exact h2 e
/-- a put that fails -/
theorem ownc_dies (h : OwnC w0 w p q c gd g v d s) (hy : By w vx b) (hxp : b ≠ [] → ∀ k, RowB vx k → ¬ Tri p q g k) (hE : (d.cput s (clook (d.fn s)) b).2 = 40) :
    Calls Try.prog 11 #[.pointer (some ⟨g, 0, none⟩), vx] w fun e w' => e = .returned (.int .i64 40) ∧ Own w0 w' p q c (d.cput s (clook (d.fn s)) b).1 ∧ DrvAt w' gd p d ∧ CelAt w' g gd (clook (d.fn s)) v true ∧ Frm (Tri p q g) w w' := by
  refine (cput_is h.t h.dr h.o.n h.dk h.m hy h.two hxp).mono ?_
  rintro e w' ⟨rfl, hN, hF, -, -, hO⟩
  refine ⟨by rw [hE], ⟨hN, h.o.tri7 hF h.g0, h.o.p0, h.o.q0⟩, h.dr.frm hF (fun e => ?_), hO (by omega) (by omega) (by omega), hF⟩
  have h1 := h.dr.ne h.o.n
  have h2 := h.t.ned h.dr
  rcases e with e | e | e
  · exact h1.1 e
  · exact h1.2 e
  · exact h2 e
end
def z245 : Array Value := (ints .u8 (List.replicate 245 0)).toArray
theorem z245_size : z245.size = 245 := by unfold z245; rw [List.size_toArray, ints_length, List.length_replicate]
theorem tri_two' {p q g k : Nat} (h : ¬ Tri p q g k) : ¬ Two p q k := fun e => h (e.elim .inl (fun e => .inr (.inl e)))
def GrRel (w3 : World) (B : Nat) (x : Value) (wr : World) : Prop :=
  ∃ (k : Nat) (ys : List Int), k ≤ 245 ∧ x = .int .i64 k ∧ wr.ownsRow B 5 1 (.slice (some ⟨B, 0, none⟩) 245 245) 245 (ints .u8 ys) ∧ (∀ i, i < k → ys.getD i 0 = (i : Int)) ∧ Frm (One B) w3 wr
set_option maxRecDepth 100000 in
set_option maxHeartbeats 16000000 in
theorem cellNumbers_is (w : World) : Calls Try.prog 8 #[] w fun e w' => e = .returned (.bool true) ∧ Frm NoB w w' := by
  have hmk : ∀ v, Sem.run Try.prog (Instr.makeSlice 28 (.int .i64 245) (.int .i64 245)) v = .ok (.slice (some ⟨v.heap.size, 0, none⟩) 245 245) (v.alloc (.cells z245 5)) := fun _ => by kernel_rfl
  have kc := const_bytes
  go_enter Try.func8, Try.ntmps8
  go_wp2_with fail
  refine (cmade_is w).mono ?_
  rintro e w1 ⟨p, q, c, gd, g, v, rfl, hT, -⟩
  have HT := hide hT
  have hpB := hT.o.n.ltp; have hqB := hT.o.n.ltq; have hgB := hT.t.lt; have hdB := hT.dr.lt
  clear hT
  go_wp2_with fail
  obtain ⟨B, hBe⟩ : ∃ B, w1.heap.size = B := ⟨_, rfl⟩
  have HW1 := hide hBe
  have hB0 : Blk (w1.alloc (.cells z245 5)) w1.heap.size 5 z245 := Blk.new _ _ _
  have hrow0 := lit_own hB0 (Nat.le_refl _) (n := 245) z245_size (by decide)
  rw [hBe] at hrow0 hpB hqB hgB hdB ⊢
  have HR0 := hide hrow0
  have hT1 : OwnC w (w1.alloc (.cells z245 5)) p q c gd g v cmD cm0 := HT.out.frm ((Frm.refl NoB _).alloc _)
  have HT1 := hide hT1
  obtain ⟨w2, hw2⟩ : ∃ w2, w1.alloc (.cells z245 5) = w2 := ⟨_, rfl⟩
  rw [hw2] at HR0 HT1 ⊢
  clear hB0 hrow0 hT1 hw2 hBe hmk
  go_loopw [39] (fun x wr => GrRel w2 B x wr) (fun i _ => 245 - (intOf i).toNat)
  case atStart => exact ⟨0, List.replicate 245 0, by omega, rfl, HR0.out, fun i h => absurd h (by omega), Frm.refl _ _⟩
  case round =>
    obtain ⟨k, ys, hk, rfl, hrow, hys, hF⟩ := hrel
    by_cases hkn : k < 245
    · obtain ⟨g4, c4, y, hv4, hc4, hz4, hnext⟩ := turn_row hrow hkn
      injection hv4 with e1 e2 e3
      injection e1 with e1
      injection e1 with e1
      subst e1 e3
      have k0 : (0 : Int) ≤ (k : Int) := by omega
      have k1 : (k : Int) < 245 := by omega
      have hw8 : IntKind.u8.wrap (k : Int) = (k : Int) := IntWalk.u8_in _ (by omega)
      have hyl : ys.length = 245 := by have := hrow.1; rw [ints_length] at this; exact this
      have HX := hide (hnext (k : Int))
      have HF := hide hF
      have HYS := hide hys
      clear hnext hF hrow hys HR0 HT1 HT
      go_wp2
      go_roundw
      case rel =>
        refine ⟨k + 1, _, by omega, by go_num, HX.out.1, fun i hi => ?_, HF.out.trans (HX.out.2.mono (fun k _ e => by
          have e : some B = some k := e
          injection e with e
          exact e.symm))⟩
        by_cases hik : i = k
        · subst hik
          simp [List.getD_eq_getElem?_getD, show i < ys.length from by omega]
        · have := HYS.out i (by omega)
          rw [List.getD_eq_getElem?_getD] at this ⊢
          rw [List.getElem?_set_ne (by omega)]
          exact this
      case measure => simp [intOf]; omega
    · obtain rfl : k = 245 := by omega
      have hgr : ys = gr := by
        have hyl : ys.length = 245 := by have := hrow.1; rw [ints_length] at this; exact this
        refine List.ext_getElem (by rw [hyl, gr_length]) (fun i h1 h2 => ?_)
        have := hys i (by omega)
        rw [List.getD_eq_getElem?_getD, List.getElem?_eq_getElem h1] at this
        simp only [Option.getD_some] at this
        rw [this]
        simp [gr]
      subst hgr
      obtain ⟨w3, rfl⟩ : ∃ w3 : World, w3 = wr := ⟨_, rfl⟩
      have HT3 : Hid (OwnC w w3 p q c gd g v cmD cm0) := OwnC.newer HT.out HT1.out hF (fun k e => by rw [HW1.out]; exact Nat.le_of_eq e.symm)
      have HG3 : Hid (By w3 (.slice (some ⟨B, 0, none⟩) 245 245) gr) := Ob.by_ (B := B) ⟨by rw [gr_length]; exact hrow, gr_u8⟩
      have hB3 : B < w3.heap.size := by
        obtain ⟨A', c', e, h1, -⟩ := HG3.out
        have := (Rd.lt h1 (ints_ne (by intro e; have := gr_length; rw [e] at this; cases this)))
        obtain ⟨a, ha, hlt⟩ := this
        injection e with e1
        rw [← e1] at ha
        injection ha with ha
        subst ha
        exact hlt
      have hnot : ∀ (gx k : Nat), B ≠ gx → RowB (.slice (some ⟨B, 0, none⟩) 245 245) k → ¬ Tri p q gx k := fun gx k hgx hk e => by
        have hk : some B = some k := hk
        injection hk with hk
        rcases e with e | e | e <;> omega
      have HNOT := hide hnot
      have hq : cmD.cput cm0 (clook (cmD.fn cm0)) gr = (cm0, 3) := by unfold DrvS.cput; rw [if_pos (by rw [gr_length]; decide)]
      have KP := hide (ownc_stays 3 HT3.out HG3.out (fun _ k hk => hnot _ _ (by omega) hk) hq (.inl rfl))
      clear hrow hys hF HR0 HT1 HT HT3 hq hk hkn HW1 hnot
      go_wp2_with fail
      refine KP.out.mono ?_
      rintro e w4 ⟨rfl, hT4, hF4⟩
      have HT4 := hide hT4
      have HG4 : Hid (By w4 (.slice (some ⟨B, 0, none⟩) 245 245) gr) := HG3.out.frm hF4 (fun k hk => HNOT.out _ _ (by omega) hk)
      have hB4 := Nat.lt_of_lt_of_le hB3 hF4.size
      have hS4 : By w4 (.slice (some ⟨B, 0, none⟩) 244 245) grs := HG4.out.take (by rw [gr_length]; decide)
      have KP := hide (ownc_put HT4.out hS4 (fun _ k hk => HNOT.out _ _ (by omega) hk) cn1_is.z)
      clear hT4 hF4 hB3 HG3 hS4
      go_wp2_with fail
      refine KP.out.mono ?_
      rintro e w5 ⟨v5, rfl, hT5, -, hF5⟩
      have HT5 : Hid (OwnC w w5 p q c gd g v5 cmD cn1) := hT5
      have HG5 : Hid (By w5 (.slice (some ⟨B, 0, none⟩) 245 245) gr) := HG4.out.frm hF5 (fun k hk => HNOT.out _ _ (by omega) hk)
      have hB5 := Nat.lt_of_lt_of_le hB4 hF5.size
      have hS5 : By w5 (.slice (some ⟨B, 0, none⟩) 244 245) grs := HG5.out.take (by rw [gr_length]; decide)
      have q5 := hS5.string
      clear hT5 hF5 hB4 HG4 HT4 KP hS5
      go_wp2_with fail
      refine (has_is HT5.out.t (by rw [cn1_is.l]; show grs.length ≤ _; rw [grs_length]; decide) 1 _ (by rw [cn1_is.l]; rfl) (by rw [cn1_is.l]; rfl) (by rw [cn1_is.l])).mono ?_
      rintro e w6 ⟨rfl, hF⟩
      have HT6 : Hid (OwnC w w6 p q c gd g v5 cmD cn1) := HT5.out.frm hF
      have HG6 := hide (HG5.out.frm0 hF)
      have hB6 := Nat.lt_of_lt_of_le hB5 hF.size
      clear hF HT5 HG5 q5 hB5
      go_wp2_with fail
      have hY := by_mark w6 [120] (u8_lit (by decide)) (by simp) _ rfl 1 rfl (1, 2)
      refine (ownc_put (HT6.out.frm ((Frm.refl NoB w6).alloc _)) hY (fun _ k hk e => ?x2) cn2_is.z).mono ?_
      case x2 => exact fresh_not HT6.out k (by have hk : some w6.heap.size = some k := hk; injection hk with hk; omega) e
      rintro e w7 ⟨v7, rfl, hT, -, hF7⟩
      have HT7 : Hid (OwnC w w7 p q c gd g v7 cmD cn2) := hT
      have HG7 : Hid (By w7 (.slice (some ⟨B, 0, none⟩) 245 245) gr) := (HG6.out.frm0 ((Frm.refl NoB w6).alloc _)).frm hF7 (fun k hk => HNOT.out _ _ (by omega) hk)
      have hB7 : B < w7.heap.size := Nat.lt_of_lt_of_le hB6 (Nat.le_trans (by simp) hF7.size)
      clear hT hY HT6 HG6 hF7 hB6
      go_wp2_with fail
      refine (dpart_is 0 1 HT7.out.dr (by decide) (by decide) (by decide)).mono ?_
      rintro e w8 ⟨gp, rfl, hGP, -, hF8⟩
      have HGP := hide hGP
      have HT8 := hide (HT7.out.frm hF8)
      have HG8 := hide (HG7.out.frm0 hF8)
      have hB8 := Nat.lt_of_lt_of_le hB7 hF8.size
      clear hGP HT7 HG7 hF8 hB7
      go_wp2_with fail
      refine (copen_arg HGP.out (by decide) (by decide)).mono ?_
      rintro e w' ⟨rfl, rfl⟩
      clear HGP
      go_wp2_with fail
      refine (copen_no (.pointer none) (.inl rfl)).mono ?_
      rintro e w' ⟨rfl, rfl⟩
      go_wp2_with fail
      refine (ownc_arm 0 HT8.out (by omega)).mono ?_
      rintro e w9 ⟨rfl, hT9, hF9⟩
      have HT9 : Hid (OwnC w w9 p q c gd g v7 cmD (cn2.arms 0)) := hT9
      have HG9 : Hid (By w9 (.slice (some ⟨B, 0, none⟩) 245 245) gr) := HG8.out.frm hF9 (fun k hk => tri_two' (g := g) (HNOT.out _ _ (by omega) hk))
      have hB9 := Nat.lt_of_lt_of_le hB8 hF9.size
      clear hT9 hF9 HT8 HG8 hB8
      have hfa : clook (cmD.fn (cn2.arms 0)) = ⟨1, 2, [120]⟩ := by rw [DrvS.arms_fn]; exact cn2_is.l
      have hap := arm_put (d := cmD) (s := cn2) (cs := clook (cmD.fn (cn2.arms 0))) (b := [121]) cn2_is.c cn2_half (cmD_okn cn2_n) rfl (by simp) (by rw [hfa]; decide)
      go_wp2_with fail
      have hY := by_mark w9 [121] (u8_lit (by decide)) (by simp) _ rfl 1 rfl (1, 2)
      refine (ownc_dies (HT9.out.frm ((Frm.refl NoB w9).alloc _)) hY (fun _ k hk e => ?x3) hap.1).mono ?_
      case x3 => exact fresh_not HT9.out k (by have hk : some w9.heap.size = some k := hk; injection hk with hk; omega) e
      rintro e wa ⟨rfl, hOa, hDa, hCa, hFa⟩
      rw [hfa] at hCa
      have HGa : Hid (By wa (.slice (some ⟨B, 0, none⟩) 245 245) gr) := (HG9.out.frm0 ((Frm.refl NoB w9).alloc _)).frm hFa (fun k hk => HNOT.out _ _ (by omega) hk)
      have hBa : B < wa.heap.size := Nat.lt_of_lt_of_le hB9 (Nat.le_trans (by simp) hFa.size)
      obtain ⟨sa, hsa⟩ : ∃ sa, (cmD.cput (cn2.arms 0) (clook (cmD.fn (cn2.arms 0))) [121]).1 = sa := ⟨_, rfl⟩
      rw [hsa] at hOa hap
      have HOa := hide hOa
      have HDa := hide hDa
      have HCa := hide hCa
      have HAP := hide hap.2
      have hka : cmD.Ok sa := cmD_okn (by rw [← hsa, DrvS.cput_n, arms7_n]; exact cn2_n)
      have HKA := hide hka
      clear hOa hDa hCa hFa hap hsa hfa hY HT9 HG9 hB9 hka
      go_wp2_with fail
      refine (cover_is HCa.out).mono ?_
      rintro e w' ⟨rfl, rfl⟩
      go_wp2_with fail
      refine (has_is HCa.out (by decide) 2 _ (by decide) (by kernel_rfl) rfl).mono ?_
      rintro e wb ⟨rfl, hF⟩
      have HOb := hide (HOa.out.frm hF)
      have HDb := hide (HDa.out.frm hF (fun e => e))
      have HCb := hide (HCa.out.frm0 hF)
      have HGb := hide (HGa.out.frm0 hF)
      have hBb := Nat.lt_of_lt_of_le hBa hF.size
      clear hF HOa HDa HCa HGa hBa
      go_wp2_with fail
      have hfb : Frm NoB wb (wb.alloc (.cells #[.int .u8 121] 5 (1, 2))) := (Frm.refl NoB wb).alloc _
      refine (cput_over (HCb.out.frm0 hfb)).mono ?_
      rintro e wd ⟨rfl, hF⟩
      have hF2 := hfb.trans hF
      have HOd := hide (HOb.out.frm hF2)
      have HDd := hide (HDb.out.frm hF2 (fun e => e))
      have HGd := hide (HGb.out.frm0 hF2)
      have hBd := Nat.lt_of_lt_of_le hBb hF2.size
      clear hF hF2 hfb HOb HDb HCb HGb hBb
      go_wp2_with fail
      refine (copen_down HDd.out HOd.out.n HKA.out rfl HAP.out.2).mono ?_
      rintro e we ⟨rfl, hF⟩
      have HOe := hide (HOd.out.frm hF)
      have HDe := hide (HDd.out.frm hF (fun e => e))
      have HGe := hide (HGd.out.frm0 hF)
      have hBe := Nat.lt_of_lt_of_le hBd hF.size
      clear hF HOd HDd HGd hBd
      go_wp2_with fail
      refine (ownc_crash none 0 [] HOe.out HDe.out (Rd.nil _ _) (fun h => absurd rfl h) (by decide)).mono ?_
      rintro e wf ⟨rfl, hOf, hDf, hFf⟩
      rw [HAP.out.1] at hOf
      have HOf := hide hOf
      have HDf := hide hDf
      have HGf : Hid (By wf (.slice (some ⟨B, 0, none⟩) 245 245) gr) := HGe.out.frm hFf (fun k hk => tri_two' (g := g) (HNOT.out _ _ (by omega) hk))
      have hBf := Nat.lt_of_lt_of_le hBe hFf.size
      clear hOf hDf hFf HAP HOe HDe HGe hBe HKA
      go_wp2_with fail
      refine (ownc_open HOf.out HDf.out (cmD_okn cn2_n) rfl cn2_is.c.dn).mono ?_
      rintro e wg ⟨gu, vu, rfl, hTg, -, -, hFg⟩
      have HTg : Hid (OwnC w wg p q c gd gu vu cmD cn2) := hTg
      have HGg := hide (HGf.out.frm0 hFg)
      have hBg := Nat.lt_of_lt_of_le hBf hFg.size
      clear hTg hFg HOf HDf HGf hBf
      go_wp2_with fail
      refine (has_is HTg.out.t (by rw [cn2_is.l]; decide) 2 _ (by rw [cn2_is.l]; decide) (by rw [cn2_is.l]; kernel_rfl) (by rw [cn2_is.l])).mono ?_
      rintro e wh ⟨rfl, hF⟩
      have HOh := hide (HTg.out.o.frm hF)
      have HDh := hide (HTg.out.dr.frm hF (fun e => e))
      have HGh := hide (HGg.out.frm0 hF)
      have hBh := Nat.lt_of_lt_of_le hBg hF.size
      clear hF HTg HGg hBg
      have hE6 : cn2.rewriteE 2 0 [9] = 0 := cn6_r.1
      have hS6 : cn2.rewrite 2 0 [9] = cn6 := rfl
      go_wp2_with fail
      have hfh : Frm NoB wh (wh.alloc (.cells #[.int .u32 9] 49)) := (Frm.refl NoB wh).alloc _
      refine (own_rw_d 2 0 _ 1 1 [9] rfl (HOh.out.frm hfh) (HDh.out.frm hfh (fun e => e)) (rd_lit wh (ints .u32 [9]) _) (fun x hx => by simp at hx; omega) (by decide)).mono ?_
      rintro e wi ⟨rfl, hO, hD, hF⟩
      rw [hE6]
      rw [hS6] at hO
      have HOi := hide hO
      have HDi := hide hD
      have HGi : Hid (By wi (.slice (some ⟨B, 0, none⟩) 245 245) gr) := (HGh.out.frm0 hfh).frm hF (fun k hk => tri_two' (g := g) (HNOT.out _ _ (by omega) hk))
      have hBi := Nat.lt_of_lt_of_le (Nat.lt_of_lt_of_le hBh hfh.size) hF.size
      clear hO hD hF hfh HOh HDh HGh hBh hE6 hS6
      have hdn6 : cn6.down = false := cn6_r.2.2.2.2.trans cn2_is.c.dn
      go_wp2_with fail
      refine (ownc_open HOi.out HDi.out (cmD_okn cn6_n) rfl hdn6).mono ?_
      rintro e wj ⟨gv, vv, rfl, hTj, hgv, -, hF⟩
      have hCV := hTj.t
      rw [cn6_look] at hCV
      have HCV := hide hCV
      have hvn : Hid (∀ k, RowB vv k → w.heap.size ≤ k ∧ k ≠ p ∧ k ≠ q) := hTj.vn
      have HOj := hide (HOi.out.frm hF)
      have HDj := hide (HDi.out.frm hF (fun e => e))
      have HGj := hide (HGi.out.frm0 hF)
      have hBj := Nat.lt_of_lt_of_le hBi hF.size
      have hgvB : B < gv := by omega
      have hvlt := hCV.lt
      have hgl : Hid (gv < wj.heap.size) := hvlt
      have hrl : Hid (∀ k, RowB vv k → k < wj.heap.size) := fun k hk => by
        have := hCV.y.row_lt (by intro e; have := grs_length; rw [show grs = [] from e] at this; cases this) hk
        exact this
      clear hTj hCV hF HOi HDi HGi hBi hgv hdn6
      have hE7 : cn6.rewriteE 2 0 [2147483648] = 0 := cn7_r.1
      have hS7 : cn6.rewrite 2 0 [2147483648] = cn7 := rfl
      have hE8 : cn7.rewriteE 1 63 [1] = 0 := cn8_r.1
      have hS8 : cn7.rewrite 1 63 [1] = cn8 := rfl
      go_wp2_with fail
      have hfh : Frm NoB wj (wj.alloc (.cells #[.int .u32 2147483648] 49)) := (Frm.refl NoB wj).alloc _
      refine (own_rw_d 2 0 _ 1 1 [2147483648] rfl (HOj.out.frm hfh) (HDj.out.frm hfh (fun e => e)) (rd_lit wj (ints .u32 [2147483648]) _) (fun x hx => by simp at hx; omega) (by decide)).mono ?_
      rintro e wk ⟨rfl, hO, hD, hF⟩
      rw [hE7]
      rw [hS7] at hO
      have hgvp : ∀ {gx : Nat}, gx ≠ gv → ¬ Tri p q gx gv := fun {gx} hx e => by rcases e with e | e | e <;> omega
      have HOk := hide hO
      have HDk := hide hD
      have HGk : Hid (By wk (.slice (some ⟨B, 0, none⟩) 245 245) gr) := (HGj.out.frm0 hfh).frm hF (fun k hk => tri_two' (g := g) (HNOT.out _ _ (by omega) hk))
      have HCVk : Hid (CelAt wk gv gd ⟨0, 1, grs⟩ vv false) := (HCV.out.frm0 hfh).frm hF (tri_two' (g := g) (hgvp (by omega))) (fun _ k hk e => by
        have := hvn.out k hk
        rcases e with e | e <;> omega)
      have hBk := Nat.lt_of_lt_of_le (Nat.lt_of_lt_of_le hBj hfh.size) hF.size
      have hjk := Nat.le_trans hfh.size hF.size
      clear hO hD hF hfh HOj HDj HGj hBj hE7 hS7 HCV
      go_wp2_with fail
      have hfh : Frm NoB wk (wk.alloc (.cells #[.int .u32 1] 49)) := (Frm.refl NoB wk).alloc _
      refine (own_rw_d 1 63 _ 1 1 [1] rfl (HOk.out.frm hfh) (HDk.out.frm hfh (fun e => e)) (rd_lit wk (ints .u32 [1]) _) (fun x hx => by simp at hx; omega) (by decide)).mono ?_
      rintro e wl ⟨rfl, hO, hD, hF⟩
      rw [hE8]
      rw [hS8] at hO
      have HOl := hide hO
      have HDl := hide hD
      have HGl : Hid (By wl (.slice (some ⟨B, 0, none⟩) 245 245) gr) := (HGk.out.frm0 hfh).frm hF (fun k hk => tri_two' (g := g) (HNOT.out _ _ (by omega) hk))
      have HCVl : Hid (CelAt wl gv gd ⟨0, 1, grs⟩ vv false) := (HCVk.out.frm0 hfh).frm hF (tri_two' (g := g) (hgvp (by omega))) (fun _ k hk e => by
        have := hvn.out k hk
        rcases e with e | e <;> omega)
      have hBl := Nat.lt_of_lt_of_le (Nat.lt_of_lt_of_le hBk hfh.size) hF.size
      have hjl := Nat.le_trans hjk (Nat.le_trans hfh.size hF.size)
      clear hO hD hF hfh HOk HDk HGk hBk hE8 hS8 HCVk hgvp hjk
      have hdn8 : cn8.down = false := cn8_r.2.2.2.2.trans (cn7_r.2.2.2.2.trans (cn6_r.2.2.2.2.trans cn2_is.c.dn))
      go_wp2_with fail
      refine (ownc_open HOl.out HDl.out (cmD_okn cn8_n) rfl hdn8).mono ?_
      rintro e wm ⟨gw, vw, rfl, hTm, hgw, -, hF⟩
      have HTm := hide hTm
      have HGm := hide (HGl.out.frm0 hF)
      have HCVm := hide (HCVl.out.frm0 hF)
      have hSm : By wm (.slice (some ⟨B, 0, none⟩) 244 245) grs := HGm.out.take (by rw [gr_length]; decide)
      have qm := hSm.string
      clear hTm hF HOl HDl HGl hBl HCVl hdn8 hSm
      go_wp2_with fail
      refine (has_is HCVm.out (by show grs.length ≤ _; rw [grs_length]; decide) 1 _ rfl rfl rfl).mono ?_
      rintro e wn ⟨rfl, hF⟩
      have HTn := hide (HTm.out.frm hF)
      clear hF HTm HGm HCVm qm
      go_wp2_with fail
      refine (cturn_is HTn.out.t).mono ?_
      rintro e w' ⟨rfl, rfl⟩
      rw [cn8_look']
      have hq : cmD.cput cn8 (clook (cmD.fn cn8)) [] = (cn8, 5) := by unfold DrvS.cput; rw [if_neg (by simp), if_pos (by rw [cn8_look']; decide)]
      have KP := hide (ownc_stays 5 HTn.out (By.nil _) (fun h => absurd rfl h) hq (.inr rfl))
      clear hq HTn
      go_wp2_with fail
      refine KP.out.mono ?_
      rintro e wo ⟨rfl, hTo, -⟩
      have HTo := hide hTo
      clear hTo KP
      go_wp2_with fail
      refine (cover_is HTo.out.t).mono ?_
      rintro e w' ⟨rfl, rfl⟩
      have HFo := hide HTo.out.o.f
      clear HTo
      go_wp2_with fail
      refine (awake_is _).mono ?_
      rintro e wq ⟨rfl, hFq⟩
      go_wp2
      go_ret
      exact ⟨rfl, HFo.out.trans hFq⟩
end Go.Proofs.Ytiapoalkkhpmlaa
