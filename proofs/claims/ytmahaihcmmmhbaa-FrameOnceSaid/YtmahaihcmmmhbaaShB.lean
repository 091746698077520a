/-
  sha: Block.
-/
import Derived.Test.YtmahaihcmmmhbaaShP
import Derived.Test.YtmahaihcmmmhbaaSh7
import Derived.Deep.RegionHeld3
import Derived.Deep.DrawnRows
import Derived.ChangeKeysEq
import Derived.Test.YtmahaihcmmmhbaaBytP
namespace Go.Proofs.Ytmahaihcmmmhbaa
open Go.RowKit
attribute [local go_sem ↓] Go.wp_at_zero Go.wp_at_succ
theorem blk_snd (w : World) (X : Obj) (t : TypeId) (cs : Array Value) : Blk ((w.alloc X).alloc (.cells cs t)) (w.heap.size + 1) t cs := by
  have := Blk.new (w.alloc X) t cs
  rwa [World.size_alloc] at this
def zero8 : Array Value := (ints .u32 (List.replicate 8 0)).toArray
structure BkSt (w wr : World) (S W : List Int) : Prop where
  s : Blk wr w.heap.size 39 (ints .u32 S).toArray
  r : Blk wr (w.heap.size + 1 + 1) 39 zero8
  x : Blk wr (w.heap.size + 1 + 1 + 1) 40 (ints .u32 W).toArray
  f : Frm NoB w wr
theorem ints_set {k : IntKind} {W : List Int} {i : Nat} {x : Int} : (ints k W).toArray.setIfInBounds i (.int k x) = (ints k (W.set i x)).toArray := by
  rw [List.setIfInBounds_toArray]; unfold ints; rw [List.map_set]
theorem Blk.seti {w : World} {b : Nat} {t : TypeId} {k : IntKind} {W : List Int} (h : Blk w b t (ints k W).toArray) (i : Nat) (x : Int) : Blk (w.setCell ⟨b, i, none⟩ (.int k x)) b t (ints k (W.set i x)).toArray := by
  have := h.setC i (.int k x)
  rwa [ints_set] at this
theorem Blk.geti {w : World} {b : Nat} {t : TypeId} {k : IntKind} {W : List Int} (h : Blk w b t (ints k W).toArray) {i : Nat} (hi : i < W.length) : w.cell? ⟨b, i, none⟩ = some (.int k (W.getD i 0)) := by
  rw [h.cell i]
  simp only [List.getElem?_toArray]
  exact ints_get hi
theorem BkSt.setx {w wr : World} {S W : List Int} (h : BkSt w wr S W) (i : Nat) (x : Int) : BkSt w (wr.setCell ⟨w.heap.size + 1 + 1 + 1, i, none⟩ (.int .u32 x)) S (W.set i x) :=
  ⟨h.s.far (by show _ ≠ _; dsimp only; omega) _, h.r.far (by show _ ≠ _; dsimp only; omega) _, h.x.seti i x, h.f.setCell (p := ⟨w.heap.size + 1 + 1 + 1, i, none⟩) (.inr (by show _ ≤ _; dsimp only; omega)) _⟩
theorem BkSt.drewN {w wr : World} {S W : List Int} (h : BkSt w wr S W) (n : Nat) : BkSt w (wr.drewN n) S W := ⟨h.s, h.r, h.x, h.f.drewN n⟩
theorem index_b64 (B : List Int) (hB : B.length = 64) {j : Nat} (hj : j < 64) (w : World) : (Instr.index 76 (.agg (ints .u8 B).toArray) (.int .i64 j)).run Try.prog w = .ok (.int .u8 (B.getD j 0)) w := by
  have h := @Try.underlying76
  have hj' : (j : Int) < 64 := by omega
  have hp : Try.prog.plainKey 5 = true := by kernel_rfl
  have hr := run_part_plain (P := Try.prog) w hp (xs := (ints .u8 B).toArray) (off := j) (v := .int .u8 (B.getD j 0)) (by simpa using ints_get (k := .u8) (xs := B) (i := j) (by omega))
  simp [Instr.index, run_underlying h, asIntOf]
  rw [if_pos hj]
  simpa using hr
def B1Rel (w : World) (S B : List Int) (x : Value) (wr : World) : Prop := ∃ j : Nat, j ≤ 64 ∧ x = .int .i64 j ∧ BkSt w wr S (wLay B j)
def B2Rel (w : World) (S W : List Int) (x : Value) (wr : World) : Prop := ∃ j : Nat, j ≤ 48 ∧ x = .int .i64 (16 + j : Nat) ∧ BkSt w wr S (wExt W j)
theorem addr_ne {b I J : Nat} (h : I ≠ J) : (⟨b, I, none⟩ : Addr) ≠ ⟨b, J, none⟩ := fun e => h (by injection e)
theorem cell_oth {w : World} {b I J : Nat} {v : Value} (h : I ≠ J) : (w.setCell ⟨b, I, none⟩ v).cell? ⟨b, J, none⟩ = w.cell? ⟨b, J, none⟩ := by
  apply World.cell?_setCell_other
  exact addr_ne h
theorem shr_a (x : Int) (w : World) (hx : 0 ≤ x ∧ x < 4294967296) : Calls Try.prog 76 #[.int .u32 x, .int .i64 17, .int .i64 19, .int .i64 10] w fun e w' => e = .returned (.int .u32 (shrP x 17 19 10)) ∧ ∃ m, w' = w.drewN m := shr_is x 17 19 10 w hx (by decide) (by decide) (by decide)
theorem shr_b (x : Int) (w : World) (hx : 0 ≤ x ∧ x < 4294967296) : Calls Try.prog 76 #[.int .u32 x, .int .i64 7, .int .i64 18, .int .i64 3] w fun e w' => e = .returned (.int .u32 (shrP x 7 18 3)) ∧ ∃ m, w' = w.drewN m := shr_is x 7 18 3 w hx (by decide) (by decide) (by decide)
/-- with the eight words of the rounds -/
structure BkV (w wr : World) (p : Nat) (S W V : List Int) : Prop where
  s : Blk wr w.heap.size 39 (ints .u32 S).toArray
  r : Blk wr (w.heap.size + 1 + 1) 39 zero8
  x : Blk wr (w.heap.size + 1 + 1 + 1) 40 (ints .u32 W).toArray
  v : Blk wr p 39 (ints .u32 V).toArray
  f : Frm NoB w wr
  lt : w.heap.size + 1 + 1 + 1 < p
theorem BkV.drewN {w wr : World} {p : Nat} {S W V : List Int} (h : BkV w wr p S W V) (n : Nat) : BkV w (wr.drewN n) p S W V := ⟨h.s, h.r, h.x, h.v, h.f.drewN n, h.lt⟩
theorem BkV.drew {w wr : World} {p : Nat} {S W V : List Int} (h : BkV w wr p S W V) : BkV w wr.drew p S W V := ⟨h.s, h.r, h.x, h.v, h.f.drew, h.lt⟩
theorem BkV.row {w wr : World} {p : Nat} {S W V : List Int} (h : BkV w wr p S W V) (V' : List Int) : BkV w (wr.setRow p (ints .u32 V').toArray) p S W V' := by
  have := h.lt
  exact ⟨h.s.setRow_far _ (by omega), h.r.setRow_far _ (by omega), h.x.setRow_far _ (by omega), h.v.setRow _, h.f.setRow (.inr (by omega)) _, h.lt⟩
theorem BkV.setv {w wr : World} {p : Nat} {S W V : List Int} (h : BkV w wr p S W V) (i : Nat) (x : Int) : BkV w (wr.setCell ⟨p, i, none⟩ (.int .u32 x)) p S W (V.set i x) := by
  have := h.lt
  exact ⟨h.s.far (by show _ ≠ _; dsimp only; omega) _, h.r.far (by show _ ≠ _; dsimp only; omega) _, h.x.far (by show _ ≠ _; dsimp only; omega) _, h.v.seti i x, h.f.setCell (p := ⟨p, i, none⟩) (.inr (by show _ ≤ _; dsimp only; omega)) _, h.lt⟩
theorem BkSt.v {w wr : World} {S W : List Int} (h : BkSt w wr S W) (V : List Int) : BkV w ((wr.alloc (.cells zero8 39)).setRow wr.heap.size (ints .u32 V).toArray) wr.heap.size S W V := by
  have h3 := h.x.lt
  have h4 := h.f.size
  exact ⟨(h.s.alloc _).setRow_far _ (by omega), (h.r.alloc _).setRow_far _ (by omega), (h.x.alloc _).setRow_far _ (by omega), (Blk.new wr _ _).setRow _, (h.f.alloc _).setRow (.inr h4) _, h3⟩
theorem size_8 : (Try.prog.info? 39).map (·.size) = some 8 := by kernel_rfl
theorem ints_size (k : IntKind) (V : List Int) : (ints k V).toArray.size = V.length := by rw [List.size_toArray, ints_length]
theorem ints_one (k : IntKind) (V : List Int) : (ints k V).toArray.all (·.oneCell') = true := all_oneCell_toArray (fun v hv => by
  unfold ints at hv
  obtain ⟨y, _, rfl⟩ := List.mem_map.1 hv
  rfl)
def B3Rel (w : World) (p : Nat) (T S W : List Int) (x : Value) (wr : World) : Prop := ∃ j : Nat, j ≤ 64 ∧ x = .int .i64 j ∧ BkV w wr p S W (rnds T W S j)
def B4Rel (w : World) (p : Nat) (S W V : List Int) (x : Value) (wr : World) : Prop := ∃ j : Nat, j ≤ 8 ∧ x = .int .i64 j ∧ BkV w wr p S W (addP S V j)
def BlockPost (w : World) (T S B : List Int) (e : Ending) (w' : World) : Prop := e = .returned (.agg (ints .u32 (blockP T S B)).toArray) ∧ Frm NoB w w'
set_option maxRecDepth 100000 in
set_option maxHeartbeats 4000000 in
theorem block_is (b : Nat) (T S B : List Int) (w : World) (hT : RdAt w b T) (hS : S.length = 8) (uS : U32 S) (hB : B.length = 64) (uB : U8 B) :
    Calls Try.prog 71 #[.pointer (some ⟨b, 0, none⟩), .agg (ints .u32 S).toArray, .agg (ints .u8 B).toArray] w (BlockPost w T S B) := by
  have h0 : BkSt w (((((w.alloc (.cells (ints .u32 S).toArray 39)).alloc (.cells (ints .u8 B).toArray 76)).alloc (.cells zero8 39))).alloc (.cells (ints .u32 (wLay B 0)).toArray 40)) S (wLay B 0) := by
    refine ⟨(((Blk.new w _ _).alloc _).alloc _).alloc _, ?_, ?_, ((((Frm.refl NoB w).alloc _).alloc _).alloc _).alloc _⟩
    · have := Blk.new ((w.alloc (.cells (ints .u32 S).toArray 39)).alloc (.cells (ints .u8 B).toArray 76)) 39 zero8
      simp only [World.size_alloc] at this
      exact this.alloc _
    · have := Blk.new (((w.alloc (.cells (ints .u32 S).toArray 39)).alloc (.cells (ints .u8 B).toArray 76)).alloc (.cells zero8 39)) 40 (ints .u32 (wLay B 0)).toArray
      simp only [World.size_alloc] at this
      exact this
  have H0 := hide h0
  have hb5 : Blk (((((w.alloc (.cells (ints .u32 S).toArray 39)).alloc (.cells (ints .u8 B).toArray 76)).alloc (.cells zero8 39))).alloc (.cells (ints .u32 (wLay B 0)).toArray 40)) (w.heap.size + 1) 76 (ints .u8 B).toArray := ((blk_snd w _ _ _).alloc _).alloc _
  have H5 := hide hb5
  have hs5 : (Try.prog.info? 76).map (·.size) = some (ints .u8 B).toArray.size := by
    rw [List.size_toArray, ints_length, hB]; kernel_rfl
  have HS5 := hide hs5
  clear hb5 hs5
  have HT := hide hT
  have HS := hide hS
  have HB := hide hB
  clear h0 hT hS hB
  go_enter Try.func71, Try.ntmps71
  go_wp2_with (refine wpList_load_row rfl 76 (.tmp 5) rfl (w.heap.size + 1) rfl 76 _ (0, 0) _ H5.out Try.underlying76 rfl HS5.out ?_)
  go_loopw [21] (fun x wr => B1Rel w S B x wr) (fun i _ => 64 - (intOf i).toNat)
  case atStart => exact ⟨0, by omega, rfl, H0.out⟩
  case round =>
    clear H0 H5 HS5
    obtain ⟨j, hj, rfl, hK⟩ := hrel
    have HK := hide hK
    by_cases hlt : j < 64
    · have hidx := fun W => index_b64 B HB.out hlt W
      have j0 : (0 : Int) ≤ (j : Int) := by omega
      have j1 : (j : Int) < 64 := by omega
      have j2 : j / 4 < 64 := by omega
      have c1 := hK.x.geti (i := j / 4) (by rw [wLay_length]; omega)
      have f1 := hK.x.frozen (j / 4)
      have u1 := uB.get j
      have u2 := (wLay_u B j).get (j / 4)
      have q1 : Int.tdiv (j : Int) 4 = ((j / 4 : Nat) : Int) := by rw [Int.tdiv_eq_ediv_of_nonneg (by omega)]; omega
      have HL : Hid (wLay B (j + 1) = (wLay B j).set (j / 4) (bits .or .u32 ((wLay B j).getD (j / 4) 0 * 256 % 4294967296) (B.getD j 0))) := rfl
      have HX := hide (hK.setx (j / 4) (bits .or .u32 ((wLay B j).getD (j / 4) 0 * 256 % 4294967296) (B.getD j 0)))
      clear hK
      generalize (wLay B j).getD (j / 4) 0 = x1 at *
      generalize B.getD j 0 = y1 at *
      generalize j / 4 = J at *
      go_wp2
      go_roundw
      case rel => exact ⟨j + 1, by omega, by go_num, by rw [HL.out]; exact HX.out⟩
      case measure => simp [intOf]; omega
    · have dj : decide ((j : Int) < 64) = false := decide_eq_false (by omega)
      have HK0 : Hid (BkSt w wr S (wExt (wLay B 64) 0)) := by
        have e : j = 64 := by omega
        rw [e] at hK
        exact hK
      clear hK HK hlt
      have d16 : decide ((16 : Int) < 64) = true := rfl
      go_wp2_with fail
      go_loopw [10] (fun x wr => B2Rel w S (wLay B 64) x wr) (fun i _ => 64 - (intOf i).toNat)
      case atStart => exact ⟨0, by omega, rfl, HK0.out⟩
      case round =>
        clear HK0
        obtain ⟨i, hi, rfl, hK⟩ := hrel
        have HK := hide hK
        have hWl := wExt_length (wLay B 64) i
        rw [wLay_length] at hWl
        have hWu := wExt_u (wLay_u B 64) i
        by_cases hlt : i < 48
        · obtain ⟨J2, h2⟩ : ∃ J2 : Nat, 16 + i - 2 = J2 := ⟨_, rfl⟩
          obtain ⟨J7, h7⟩ : ∃ J7 : Nat, 16 + i - 7 = J7 := ⟨_, rfl⟩
          obtain ⟨J15, h15⟩ : ∃ J15 : Nat, 16 + i - 15 = J15 := ⟨_, rfl⟩
          obtain ⟨J16, h16⟩ : ∃ J16 : Nat, 16 + i - 16 = J16 := ⟨_, rfl⟩
          obtain ⟨I, hI⟩ : ∃ I : Nat, 16 + i = I := ⟨_, rfl⟩
          rw [hI] at h2 h7 h15 h16 ⊢
          have HL : Hid (wExt (wLay B 64) (i + 1) = (wExt (wLay B 64) i).set I (IntKind.u32.wrap (IntKind.u32.wrap (IntKind.u32.wrap (shrP ((wExt (wLay B 64) i).getD J2 0) 17 19 10 + (wExt (wLay B 64) i).getD J7 0) + shrP ((wExt (wLay B 64) i).getD J15 0) 7 18 3) + (wExt (wLay B 64) i).getD J16 0))) := by
            show _ = _
            rw [wExt, hI, wNew, h2, h7, h15, h16]
          have c2 := hK.x.geti (i := J2) (by omega)
          have c7 := hK.x.geti (i := J7) (by omega)
          have c15 := hK.x.geti (i := J15) (by omega)
          have c16 := hK.x.geti (i := J16) (by omega)
          have f1 := hK.x.frozen I
          have cI := hK.x.geti (i := I) (by omega)
          have w2 : IntKind.i64.wrap ((I : Int) - 2) = (J2 : Int) := by rw [IntWalk.i64_in _ (by omega)]; omega
          have w7 : IntKind.i64.wrap ((I : Int) - 7) = (J7 : Int) := by rw [IntWalk.i64_in _ (by omega)]; omega
          have w15 : IntKind.i64.wrap ((I : Int) - 15) = (J15 : Int) := by rw [IntWalk.i64_in _ (by omega)]; omega
          have w16 : IntKind.i64.wrap ((I : Int) - 16) = (J16 : Int) := by rw [IntWalk.i64_in _ (by omega)]; omega
          have dI : decide ((I : Int) < 64) = true := decide_eq_true (by omega)
          have i0 : (0 : Int) ≤ (I : Int) := by omega
          have i1 : (I : Int) < 64 := by omega
          have i2 : (J2 : Int) < 64 := by omega
          have i7 : (J7 : Int) < 64 := by omega
          have i15 : (J15 : Int) < 64 := by omega
          have i16 : (J16 : Int) < 64 := by omega
          have HJ := hide hI
          have n2 : I ≠ J2 := by omega
          have n7 : I ≠ J7 := by omega
          have n15 : I ≠ J15 := by omega
          have n16 : I ≠ J16 := by omega
          have u2 := hWu.get J2
          have u7 := hWu.get J7
          have u15 := hWu.get J15
          have u16 := hWu.get J16
          clear hK hI h2 h7 h15 h16 hWu hWl
          generalize (wExt (wLay B 64) i).getD J2 0 = x2 at *
          generalize (wExt (wLay B 64) i).getD J7 0 = x7 at *
          generalize (wExt (wLay B 64) i).getD J15 0 = x15 at *
          generalize (wExt (wLay B 64) i).getD J16 0 = x16 at *
          go_wp2_with fail
          go_region_held3 (fun w' => w'.cell? ⟨w.heap.size + 1 + 1 + 1, J2, none⟩ = some (.int .u32 x2) ∧ w'.cell? ⟨w.heap.size + 1 + 1 + 1, J7, none⟩ = some (.int .u32 x7) ∧ w'.cell? ⟨w.heap.size + 1 + 1 + 1, J15, none⟩ = some (.int .u32 x15) ∧ w'.cell? ⟨w.heap.size + 1 + 1 + 1, J16, none⟩ = some (.int .u32 x16)) (first | go_keep | exact ⟨(cell_oth n2).trans c2, (cell_oth n7).trans c7, (cell_oth n15).trans c15, (cell_oth n16).trans c16⟩)
            (first
              | (go_at_call 76; ((with_reducible refine (shr_a _ _ u2).mono ?_); rintro e w' ⟨rfl, m, rfl⟩))
              | (go_at_call 76; ((with_reducible refine (shr_b _ _ u15).mono ?_); rintro e w' ⟨rfl, m, rfl⟩)))
          go_wp2
          go_roundw
          case rel => exact ⟨i + 1, by omega, by rw [← HJ.out]; go_num, by rw [HL.out]; exact (BkSt.drewN HK.out _).setx _ _⟩
          case measure => simp [intOf]; omega
        · have di : decide (((16 + i : Nat) : Int) < 64) = false := decide_eq_false (by omega)
          have HK0 : Hid (BkSt w wr S (wAll B)) := by
            have e : i = 48 := by omega
            rw [e] at hK
            exact hK
          obtain ⟨I, hI⟩ : ∃ I : Nat, 16 + i = I := ⟨_, rfl⟩
          rw [hI] at di ⊢
          have hs8 : (Try.prog.info? 39).map (·.size) = some (ints .u32 S).toArray.size := by rw [ints_size, HS.out]; exact size_8
          have HS8 := hide hs8
          have hss : zero8.size = (ints .u32 S).toArray.size := by rw [ints_size, HS.out]; rfl
          have HSS := hide hss
          have HV : Hid (BkV w ((wr.alloc (.cells zero8 39)).setRow wr.heap.size (ints .u32 S).toArray) wr.heap.size S (wAll B) (rnds T (wAll B) S 0)) := HK0.out.v S
          have HN := hide (Blk.new wr 39 zero8)
          clear hK HK hs8 hss hWl hWu
          go_wp2_with (first
            | (refine wpList_load_row rfl 39 (.tmp 4) rfl w.heap.size rfl 39 _ (0, 0) _ HK0.out.s Try.underlying39 rfl HS8.out ?_)
            | (refine wpList_store_row rfl 39 (.tmp 11) (.tmp 64) rfl wr.heap.size _ rfl rfl 39 _ HN.out HS8.out HSS.out (ints_one _ _) ?_))
          obtain ⟨wq, rfl⟩ : ∃ wq : World, wq = wr := ⟨_, rfl⟩
          go_loopw [65] (fun x wr => B3Rel w wq.heap.size T S (wAll B) x wr) (fun i _ => 64 - (intOf i).toNat)
          case atStart => exact ⟨0, by omega, rfl, HV.out⟩
          case round =>
            clear HK0 HV HS8 HSS HN
            obtain ⟨k, hk, rfl, hK⟩ := hrel
            have HK := hide hK
            by_cases hlt : k < 64
            · have k0 : (0 : Int) ≤ (k : Int) := by omega
              have k1 : (k : Int) < 64 := by omega
              have hl8 := rnds_length T (wAll B) HS.out k
              have hu8 := rnds_u T (wAll B) uS k
              have c0 := hK.v.geti (i := 0) (by omega)
              have c1 := hK.v.geti (i := 1) (by omega)
              have c2 := hK.v.geti (i := 2) (by omega)
              have c3 := hK.v.geti (i := 3) (by omega)
              have c4 := hK.v.geti (i := 4) (by omega)
              have c5 := hK.v.geti (i := 5) (by omega)
              have c6 := hK.v.geti (i := 6) (by omega)
              have c7 := hK.v.geti (i := 7) (by omega)
              have u0 := hu8.get 0
              have u4 := hu8.get 4
              have cw := hK.x.geti (i := k) (by rw [wAll_length]; omega)
              have ck := (HT.out.frm hK.f (fun e => e)).cell (i := 8 + k) (by omega)
              have hL : rnds T (wAll B) S (k + 1) = [(rndX (rnds T (wAll B) S k) (T.getD (8 + k) 0) ((wAll B).getD k 0) + rndY (rnds T (wAll B) S k)) % 4294967296, (rnds T (wAll B) S k).getD 0 0, (rnds T (wAll B) S k).getD 1 0, (rnds T (wAll B) S k).getD 2 0, ((rnds T (wAll B) S k).getD 3 0 + rndX (rnds T (wAll B) S k) (T.getD (8 + k) 0) ((wAll B).getD k 0)) % 4294967296, (rnds T (wAll B) S k).getD 4 0, (rnds T (wAll B) S k).getD 5 0, (rnds T (wAll B) S k).getD 6 0] := rfl
              unfold rndX rndY at hL
              have HV := hide hK.v
              have HLT := hide hK.lt
              have HL := hide hL
              clear hK hl8 hu8 hL
              generalize (rnds T (wAll B) S k).getD 0 0 = x0 at *
              generalize (rnds T (wAll B) S k).getD 1 0 = x1 at *
              generalize (rnds T (wAll B) S k).getD 2 0 = x2 at *
              generalize (rnds T (wAll B) S k).getD 3 0 = x3 at *
              generalize (rnds T (wAll B) S k).getD 4 0 = x4 at *
              generalize (rnds T (wAll B) S k).getD 5 0 = x5 at *
              generalize (rnds T (wAll B) S k).getD 6 0 = x6 at *
              generalize (rnds T (wAll B) S k).getD 7 0 = x7 at *
              generalize (wAll B).getD k 0 = kw at *
              generalize T.getD (8 + k) 0 = kk at *
              go_wp2_with fail
              go_quiet ((go_at_call 77; exact quiet_of6 (ror_is _ _ _ _ _ u4 (by decide) (by decide) (by decide))))
              go_wp2_with fail
              generalize (x7 + rorP x4 6 11 25 + bits .xor .u32 (bits .and .u32 x4 x5) (bits .and .u32 (bits .xor .u32 IntKind.u32.max x4) x6) + kk + kw) % 4294967296 = X at *
              obtain ⟨W, hW⟩ : ∃ W : World, W = wr.drewN nq := ⟨_, rfl⟩
              rw [← hW]
              have c0 : W.cell? ⟨wq.heap.size, 0, none⟩ = some (.int .u32 x0) := by rw [hW]; exact c0
              have c1 : W.cell? ⟨wq.heap.size, 1, none⟩ = some (.int .u32 x1) := by rw [hW]; exact c1
              have c2 : W.cell? ⟨wq.heap.size, 2, none⟩ = some (.int .u32 x2) := by rw [hW]; exact c2
              have c3 : W.cell? ⟨wq.heap.size, 3, none⟩ = some (.int .u32 x3) := by rw [hW]; exact c3
              have c4 : W.cell? ⟨wq.heap.size, 4, none⟩ = some (.int .u32 x4) := by rw [hW]; exact c4
              have c5 : W.cell? ⟨wq.heap.size, 5, none⟩ = some (.int .u32 x5) := by rw [hW]; exact c5
              have c6 : W.cell? ⟨wq.heap.size, 6, none⟩ = some (.int .u32 x6) := by rw [hW]; exact c6
              have c7 : W.cell? ⟨wq.heap.size, 7, none⟩ = some (.int .u32 x7) := by rw [hW]; exact c7
              have HVW : Hid (Blk W wq.heap.size 39 (ints .u32 (rnds T (wAll B) S k)).toArray) := by rw [hW]; exact HV.out.drewN _
              have HKW : Hid (BkV w W wq.heap.size S (wAll B) (rnds T (wAll B) S k)) := by rw [hW]; exact BkV.drewN HK.out _
              clear hW cw ck HK HV
              go_quiet ((go_at_call 77; exact quiet_of6 (ror_is _ _ _ _ _ u0 (by decide) (by decide) (by decide))))
              go_upto_region 20 with fail
              generalize (rorP x0 2 13 22 + bits .xor .u32 (bits .xor .u32 (bits .and .u32 x0 x1) (bits .and .u32 x0 x2)) (bits .and .u32 x1 x2)) % 4294967296 = Y at *
              have hv8 : ∀ y0 y1 y2 y3 y4 y5 y6 y7 : Int, (Try.prog.info? 39).map (·.size) = some (#[Value.int .u32 y0, .int .u32 y1, .int .u32 y2, .int .u32 y3, .int .u32 y4, .int .u32 y5, .int .u32 y6, .int .u32 y7] : Array Value).size := fun _ _ _ _ _ _ _ _ => size_8
              have HV8 := hide hv8
              have hst : ∀ n, (W.drewN n).heap[wq.heap.size]? = some (.cells (ints .u32 (rnds T (wAll B) S k)).toArray 39 (0, 0)) := fun n => HVW.out
              have HST := hide hst
              have hsz : ∀ y0 y1 y2 y3 y4 y5 y6 y7 : Int, (ints .u32 (rnds T (wAll B) S k)).toArray.size = (#[Value.int .u32 y0, .int .u32 y1, .int .u32 y2, .int .u32 y3, .int .u32 y4, .int .u32 y5, .int .u32 y6, .int .u32 y7] : Array Value).size := fun _ _ _ _ _ _ _ _ => by rw [ints_size]; exact rnds_length T (wAll B) HS.out k
              have HSZ := hide hsz
              have hal : ∀ y0 y1 y2 y3 y4 y5 y6 y7 : Int, (#[Value.int .u32 y0, .int .u32 y1, .int .u32 y2, .int .u32 y3, .int .u32 y4, .int .u32 y5, .int .u32 y6, .int .u32 y7] : Array Value).all (·.oneCell') = true := fun _ _ _ _ _ _ _ _ => by simp [Value.oneCell']
              have HAL := hide hal
              clear hv8 hst hsz hal
              go_wp2_with (refine wpList_store_row rfl 39 (.tmp 11) (.tmp 137) rfl wq.heap.size _ rfl rfl 39 _ (HST.out _) (HV8.out _ _ _ _ _ _ _ _) (HSZ.out _ _ _ _ _ _ _ _) (HAL.out _ _ _ _ _ _ _ _) ?_)
              go_roundw
              case rel => exact ⟨k + 1, by omega, by go_num, by rw [HL.out]; exact (BkV.drewN HKW.out _).row [(X + Y) % 4294967296, x0, x1, x2, (x3 + X) % 4294967296, x4, x5, x6]⟩
              case measure => simp [intOf]; omega
            · have dk : decide ((k : Int) < 64) = false := decide_eq_false (by omega)
              have HK0 : Hid (BkV w wr wq.heap.size S (wAll B) (addP S (rnds T (wAll B) S 64) 0)) := by
                have e : k = 64 := by omega
                rw [e] at hK
                exact hK
              have hVl := rnds_length T (wAll B) HS.out 64
              have hE : blockP T S B = addP S (rnds T (wAll B) S 64) 8 := rfl
              have HE := hide hE
              have HVL := hide hVl
              clear hK HK hE hVl
              generalize rnds T (wAll B) S 64 = V at *
              go_wp2_with fail
              go_loopw [139] (fun x wr => B4Rel w wq.heap.size S (wAll B) V x wr) (fun i _ => 8 - (intOf i).toNat)
              case atStart => exact ⟨0, by omega, rfl, HK0.out⟩
              case round =>
                clear HK0
                obtain ⟨m, hm, rfl, hK⟩ := hrel
                have HK := hide hK
                by_cases hlt : m < 8
                · have m0 : (0 : Int) ≤ (m : Int) := by omega
                  have m1 : (m : Int) < 8 := by omega
                  have c1 := hK.v.geti (i := m) (by rw [addP_length, HVL.out]; omega)
                  have c2 := hK.s.geti (i := m) (by rw [HS.out]; omega)
                  have f1 := hK.v.frozen m
                  have HL : Hid (addP S V (m + 1) = (addP S V m).set m (((addP S V m).getD m 0 + S.getD m 0) % 4294967296)) := rfl
                  clear hK
                  generalize (addP S V m).getD m 0 = x1 at *
                  generalize S.getD m 0 = x2 at *
                  go_wp2_with fail
                  go_region
                  all_goals
                    go_wp2
                    go_roundw
                    case rel => exact ⟨m + 1, by omega, by go_num, by rw [HL.out]; exact (BkV.setv HK.out _ _).drew⟩
                    case measure => simp [intOf]; omega
                · have dm : decide ((m : Int) < 8) = false := decide_eq_false (by omega)
                  have e : m = 8 := by omega
                  have HK0 : Hid (BkV w wr wq.heap.size S (wAll B) (blockP T S B)) := by
                    rw [e] at hK
                    rw [HE.out]
                    exact hK
                  have hl : (blockP T S B).length = 8 := blockP_length T B HS.out
                  have hs8 : (Try.prog.info? 39).map (·.size) = some (ints .u32 (blockP T S B)).toArray.size := by rw [ints_size, hl]; exact size_8
                  have hss : zero8.size = (ints .u32 (blockP T S B)).toArray.size := by rw [ints_size, hl]; rfl
                  have HS8 := hide hs8
                  have HSS := hide hss
                  have hR : Blk (wr.setRow (w.heap.size + 1 + 1) (ints .u32 (blockP T S B)).toArray) (w.heap.size + 1 + 1) 39 (ints .u32 (blockP T S B)).toArray := HK0.out.r.setRow _
                  have HR := hide hR
                  have hF : Frm NoB w (wr.setRow (w.heap.size + 1 + 1) (ints .u32 (blockP T S B)).toArray) := HK0.out.f.setRow (.inr (by omega)) _
                  have HF := hide hF
                  clear hK HK hs8 hss hl e HE hR hF
                  obtain ⟨X, hX⟩ : ∃ X, blockP T S B = X := ⟨_, rfl⟩
                  rw [hX] at HK0 HS8 HSS HR HF
                  have HXX := hide hX
                  clear hX
                  go_wp2_with (first
                    | (refine wpList_load_row rfl 39 (.tmp 11) rfl wq.heap.size rfl 39 _ (0, 0) _ HK0.out.v Try.underlying39 rfl HS8.out ?_)
                    | (refine wpList_store_row rfl 39 (.tmp 6) (.tmp 151) rfl (w.heap.size + 1 + 1) _ rfl rfl 39 _ HK0.out.r HS8.out HSS.out (ints_one _ _) ?_))
                  refine bodyPost_ret (results_cell_row rfl _ _ (w.heap.size + 1 + 1) 39 (ints .u32 X).toArray (0, 0) _ rfl HR.out Try.underlying39 rfl HS8.out) rfl ⟨?_, HF.out⟩
                  rw [HXX.out]
end Go.Proofs.Ytmahaihcmmmhbaa
