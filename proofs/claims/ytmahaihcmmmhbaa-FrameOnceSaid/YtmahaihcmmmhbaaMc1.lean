/-
  mac: turned.
-/
import Derived.Test.YtmahaihcmmmhbaaShE
import Derived.Laws.CopyOwn
namespace Go.Proofs.Ytmahaihcmmmhbaa
open Go.RowKit
/-- a key, or its digest -/
def tnK (T key : List Int) : List Int := if 64 < key.length then shaOf T key else key
def tnB (ks : List Int) : List Int := ks ++ List.replicate (64 - ks.length) 0
def tuX (L : List Int) (y : Int) : Nat → List Int
  | 0 => L
  | i + 1 => (tuX L y i).set i (bits .xor .u8 ((tuX L y i).getD i 0) y)
def turnP (T key : List Int) (y : Int) : List Int := tuX (tnB (tnK T key)) y 64
theorem shaOf_length (T xs : List Int) : (shaOf T xs).length = 32 := HashS.sum_length _ _
theorem shaOf_u (T xs : List Int) : U8 (shaOf T xs) := HashS.sum_u _ _
theorem tnK_length (T key : List Int) : (tnK T key).length ≤ 64 := by
  unfold tnK
  split
  · rw [shaOf_length]; omega
  · omega
theorem tnB_length {ks : List Int} (h : ks.length ≤ 64) : (tnB ks).length = 64 := by unfold tnB; rw [List.length_append, List.length_replicate]; omega
theorem U8.rep (n : Nat) : U8 (List.replicate n 0) := fun x hx => by have := (List.mem_replicate.1 hx).2; omega
theorem tnB_u {ks : List Int} (h : U8 ks) : U8 (tnB ks) := h.append (U8.rep _)
theorem tuX_length (L : List Int) (y : Int) : ∀ i, (tuX L y i).length = L.length
  | 0 => rfl
  | i + 1 => by rw [tuX, List.length_set, tuX_length L y i]
theorem bits_u8 (o : BinOp) (x y : Int) : 0 ≤ bits o .u8 x y ∧ bits o .u8 x y < 256 := by
  have h1 := bits_lo_u8 o x y
  have h2 := bits_hi_u8 o x y
  omega
theorem tuX_u {L : List Int} (h : U8 L) (y : Int) : ∀ i, U8 (tuX L y i)
  | 0 => h
  | i + 1 => (tuX_u h y i).set _ (bits_u8 _ _ _)
theorem turnP_length (T key : List Int) (y : Int) : (turnP T key y).length = 64 := by unfold turnP; rw [tuX_length, tnB_length (tnK_length T key)]
theorem tnK_u {T key : List Int} (h : U8 key) : U8 (tnK T key) := by
  unfold tnK
  split
  · exact shaOf_u _ _
  · exact h
theorem turnP_u {T key : List Int} (h : U8 key) (y : Int) : U8 (turnP T key y) := tuX_u (tnB_u (tnK_u h)) y 64
def zero64 : Array Value := (ints .u8 (List.replicate 64 0)).toArray
theorem size_64 : (Try.prog.info? 76).map (·.size) = some 64 := by kernel_rfl
theorem size_1 : (Try.prog.info? 5).map (·.size) = some 1 := by kernel_rfl
theorem splice_key {ks : List Int} (h : ks.length ≤ 64) : (splice (ints .u8 (List.replicate 64 0)) 0 (ints .u8 ks)).toArray = (ints .u8 (tnB ks)).toArray := by
  congr 1
  unfold splice tnB
  rw [List.take_zero, List.nil_append, ints_length, Nat.zero_add, ints_append]
  congr 1
  unfold ints
  rw [List.map_replicate, List.drop_replicate, List.map_replicate]
structure TuSt (w wr : World) (L : List Int) : Prop where
  r : Blk wr w.heap.size 76 zero64
  d : Blk wr (w.heap.size + 1) 76 (ints .u8 L).toArray
  f : Frm NoB w wr
theorem TuSt.setd {w wr : World} {L : List Int} (h : TuSt w wr L) (i : Nat) (x : Int) : TuSt w (wr.setCell ⟨w.heap.size + 1, i, none⟩ (.int .u8 x)) (L.set i x) :=
  ⟨h.r.far (by show _ ≠ _; dsimp only; omega) _, h.d.seti i x, h.f.setCell (p := ⟨w.heap.size + 1, i, none⟩) (.inr (by show _ ≤ _; dsimp only; omega)) _⟩
def TuRel (w : World) (L : List Int) (y : Int) (x : Value) (wr : World) : Prop := ∃ j : Nat, j ≤ 64 ∧ x = .int .i64 j ∧ TuSt w wr (tuX L y j)
def TurnPost (w : World) (T key : List Int) (y : Int) (e : Ending) (w' : World) : Prop := e = .returned (.agg (ints .u8 (turnP T key y)).toArray) ∧ Frm NoB w w'
/-- what a copy leaves -/
theorem tu_copy {w wc w' : World} {ks : List Int} (hk : ks.length ≤ 64) (hr : Blk wc w.heap.size 76 zero64) (hf : Frm NoB w wc) (h1 : Hid (w'.heap[w.heap.size + 1]? = some (.cells (splice (ints .u8 (List.replicate 64 0)) 0 (ints .u8 ks)).toArray 76 (0, 0)))) (hb : Below (w.heap.size + 1) wc w') : TuSt w w' (tuX (tnB ks) 0 0) := by
  have hff : Frm (fun k => w.heap.size + 1 ≤ k) wc w' := ⟨hb.os, hb.tape, hb.output, hb.size, fun k hk hn => hb.block k (by omega)⟩
  refine ⟨hr.frm hff (by omega), ?_, hf.then_ hff (fun i hi e => by omega)⟩
  have := h1.out
  rw [splice_key hk] at this
  exact this
set_option maxRecDepth 100000 in
set_option maxHeartbeats 2000000 in
theorem turned_is (b : Nat) (T key : List Int) (y : Int) (v : Value) (w : World) (hT : RdAt w b T) (hx : By w v key) (hl : key.length ≤ 16776000) (hy : 0 ≤ y ∧ y < 256) :
    Calls Try.prog 35 #[.pointer (some ⟨b, 0, none⟩), v, .int .u8 y] w (TurnPost w T key y) := by
  have hZ : Blk ((w.alloc (.cells zero64 76)).alloc (.cells zero64 76)) w.heap.size 76 zero64 := (Blk.new w _ _).alloc _
  have hD : Blk ((w.alloc (.cells zero64 76)).alloc (.cells zero64 76)) (w.heap.size + 1) 76 zero64 := blk_snd _ _ _ _
  have hf0 : Frm NoB w ((w.alloc (.cells zero64 76)).alloc (.cells zero64 76)) := ((Frm.refl NoB w).alloc _).alloc _
  have HZ := hide hZ
  have HD := hide hD
  have HF0 := hide hf0
  have HT := hide hT
  have HX := hide hx
  obtain ⟨A, c, rfl, -⟩ := hx
  clear hZ hD hf0 hT
  by_cases h64 : 64 < key.length
  · have hks : tnK T key = shaOf T key := by unfold tnK; rw [if_pos h64]
    have d1 : decide ((64 : Int) < (key.length : Int)) = true := decide_eq_true (by omega)
    have HE : Hid (turnP T key y = tuX (tnB (shaOf T key)) y 64) := by show _ = _; unfold turnP; rw [hks]
    have hsl := shaOf_length T key
    have KO := hide (of_is b T key _ _ (HT.out.frm HF0.out (fun e => e)) (HX.out.frm0 HF0.out) hl)
    obtain ⟨D, hD⟩ : ∃ D, shaOf T key = D := ⟨_, rfl⟩
    unfold OfPost at KO
    rw [hD] at HE KO hsl
    have hs8 : (Try.prog.info? 56).map (·.size) = some (ints .u8 D).toArray.size := by rw [ints_size, hsl]; exact digest_size
    have hss : zero32.size = (ints .u8 D).toArray.size := by rw [ints_size, hsl]; rfl
    have hn : (ints .u8 D).length = Nat.min 32 64 := by rw [ints_length, hsl]; rfl
    have hfit : 0 + (ints .u8 D).length ≤ (ints .u8 (List.replicate 64 0)).length := by rw [ints_length, ints_length, List.length_replicate]; omega
    have h1 : ∀ u ∈ ints .u8 D, u.oneCell' = true := fun u hu => by
      unfold ints at hu
      obtain ⟨z, _, rfl⟩ := List.mem_map.1 hu
      rfl
    have HN := hide hn; have HFit := hide hfit; have H1 := hide h1
    have HS8 := hide hs8
    have HSS := hide hss
    have HL4 : Hid (D.length ≤ 64) := by show _ ≤ _; omega
    clear hks hD hs8 hss h64 hsl hn hfit h1
    go_enter Try.func35, Try.ntmps35
    go_wp2_with fail
    refine KO.out.mono ?_
    rintro e w2 ⟨rfl, hf2⟩
    have HN2 := hide (Blk.new w2 56 zero32)
    have HZ2 := hide ((Hid.out HZ).frm hf2 (fun e => e))
    have HD2 := hide ((Hid.out HD).frm hf2 (fun e => e))
    have HF2 := hide ((Hid.out HF0).trans hf2)
    have h2s : w.heap.size + 1 < w2.heap.size := HD2.out.lt
    have HZC : Hid (Blk ((w2.alloc (.cells zero32 56)).setRow w2.heap.size (ints .u8 D).toArray) w.heap.size 76 zero64) := (HZ2.out.alloc _).setRow_far _ (by omega)
    have HDC : Hid (Blk ((w2.alloc (.cells zero32 56)).setRow w2.heap.size (ints .u8 D).toArray) (w.heap.size + 1) 76 zero64) := (HD2.out.alloc _).setRow_far _ (by omega)
    have HFC : Hid (Frm NoB w ((w2.alloc (.cells zero32 56)).setRow w2.heap.size (ints .u8 D).toArray)) := (HF2.out.alloc _).setRow (.inr (by omega)) _
    have hSC : Blk ((w2.alloc (.cells zero32 56)).setRow w2.heap.size (ints .u8 D).toArray) w2.heap.size 56 (ints .u8 D).toArray := HN2.out.setRow _
    have HPC : Hid (∀ (j : Nat) (v : Value), (ints .u8 D)[j]? = some v → ((w2.alloc (.cells zero32 56)).setRow w2.heap.size (ints .u8 D).toArray).cell? ((⟨w2.heap.size, 0, none⟩ : Addr).add j) = some v) := fun j v hv => by rw [addr_add, Nat.zero_add, hSC.cell j]; simpa using hv
    clear hf2 KO hSC
    go_wp2_with (first
      | (refine wpList_store_row rfl 56 (.tmp 8) (.tmp 15) rfl w2.heap.size _ rfl rfl 56 _ HN2.out HS8.out HSS.out (ints_one _ _) ?_)
      | (refine wpList_copy_splice rfl (.tmp 17) (.tmp 18) 32 32 rfl 5 Try.underlying32 size_1 _ _ 64 64 32 32 rfl rfl (w.heap.size + 1) 0 (ints .u8 (List.replicate 64 0)) 76 HDC.out (ints .u8 D) HN.out (fun _ => ⟨rfl, _, rfl, HPC.out⟩) HFit.out H1.out (w.heap.size + 1) _ (Below.refl _ _) (Nat.le_refl _) ?_; intro w1 hw1 hb1))
    have hT0 : TuSt w w1 (tuX (tnB D) y 0) := tu_copy HL4.out HZC.out HFC.out hw1 hb1
    have HT0 := hide hT0
    clear hT0 hw1 hb1
    obtain ⟨N9, hN9⟩ : ∃ N9, (ints .u8 D).length = N9 := ⟨_, rfl⟩
    rw [hN9]
    clear hN9
    have HBL := hide (tnB_length HL4.out)
    generalize tnB D = L0 at *
    go_loopw [20] (fun x wr => TuRel w L0 y x wr) (fun i _ => 64 - (intOf i).toNat)
    case atStart => exact ⟨0, by omega, rfl, HT0.out⟩
    case round =>
      clear HT0
      obtain ⟨j, hj, rfl, hS⟩ := hrel
      have HS := hide hS
      by_cases hlt : j < 64
      · have j0 : (0 : Int) ≤ (j : Int) := by omega
        have j1 : (j : Int) < 64 := by omega
        have c1 := hS.d.geti (i := j) (by rw [tuX_length, HBL.out]; omega)
        have f1 := hS.d.frozen j
        have HL : Hid (tuX L0 y (j + 1) = (tuX L0 y j).set j (bits .xor .u8 ((tuX L0 y j).getD j 0) y)) := rfl
        clear hS
        generalize (tuX L0 y j).getD j 0 = x1 at *
        go_wp2_with fail
        go_roundw
        case rel => exact ⟨j + 1, by omega, by go_num, by rw [HL.out]; exact HS.out.setd j _⟩
        case measure => simp [intOf]; omega
      · have dj : decide ((j : Int) < 64) = false := decide_eq_false (by omega)
        have e : j = 64 := by omega
        rw [e, ← HE.out] at hS
        have hlen : (turnP T key y).length = 64 := turnP_length T key y
        have hs8 : (Try.prog.info? 76).map (·.size) = some (ints .u8 (turnP T key y)).toArray.size := by rw [ints_size, hlen]; exact size_64
        have hss : zero64.size = (ints .u8 (turnP T key y)).toArray.size := by rw [ints_size, hlen]; rfl
        have HS8 := hide hs8
        have HSS := hide hss
        have hR : Blk (wr.setRow w.heap.size (ints .u8 (turnP T key y)).toArray) w.heap.size 76 (ints .u8 (turnP T key y)).toArray := hS.r.setRow _
        have HR' := hide hR
        have hF : Frm NoB w (wr.setRow w.heap.size (ints .u8 (turnP T key y)).toArray) := hS.f.setRow (.inr (by omega)) _
        have HF := hide hF
        have HS0 := hide hS
        obtain ⟨X, hX⟩ : ∃ X, turnP T key y = X := ⟨_, rfl⟩
        rw [hX] at HS8 HSS HR' HF HS0
        have HXX := hide hX
        clear hS HS hs8 hss hlen e HE hR hF hX
        go_wp2_with (first
          | (refine wpList_load_row rfl 76 (.tmp 7) rfl (w.heap.size + 1) rfl 76 _ (0, 0) _ HS0.out.d Try.underlying76 rfl HS8.out ?_)
          | (refine wpList_store_row rfl 76 (.tmp 6) (.tmp 30) rfl w.heap.size _ rfl rfl 76 _ HS0.out.r HS8.out HSS.out (ints_one _ _) ?_))
        refine bodyPost_ret (results_cell_row rfl _ _ w.heap.size 76 (ints .u8 X).toArray (0, 0) _ rfl HR'.out Try.underlying76 rfl HS8.out) rfl ⟨?_, HF.out⟩
        rw [HXX.out]
  · have hks : tnK T key = key := by unfold tnK; rw [if_neg h64]
    have d1 : decide ((64 : Int) < (key.length : Int)) = false := decide_eq_false (by omega)
    have HE : Hid (turnP T key y = tuX (tnB key) y 64) := by show _ = _; unfold turnP; rw [hks]
    have hn : (ints .u8 key).length = Nat.min key.length 64 := by rw [ints_length]; show _ = min _ _; omega
    have hfit : 0 + (ints .u8 key).length ≤ (ints .u8 (List.replicate 64 0)).length := by rw [ints_length, ints_length, List.length_replicate]; omega
    have h1 : ∀ u ∈ ints .u8 key, u.oneCell' = true := fun u hu => by
      unfold ints at hu
      obtain ⟨z, _, rfl⟩ := List.mem_map.1 hu
      rfl
    have hpos : 0 < (ints .u8 key).length → (some ⟨w.heap.size + 1, 0, none⟩ : Option Addr) = some ⟨w.heap.size + 1, 0, none⟩ ∧ ∃ ad, A = some ad ∧ ∀ j v, (ints .u8 key)[j]? = some v → ((w.alloc (.cells zero64 76)).alloc (.cells zero64 76)).cell? (ad.add j) = some v := fun hp => by
      obtain ⟨A', c', e, hr, -⟩ := HX.out.frm0 HF0.out
      injection e with e1 e2 e3
      subst e1
      obtain ⟨b1, o1, rfl, hc⟩ := hr (by intro e; rw [e] at hp; simp at hp)
      refine ⟨rfl, _, rfl, fun j v hv => ?_⟩
      rw [addr_add]
      exact hc j v hv
    have HN := hide hn; have HFit := hide hfit; have H1 := hide h1; have HP := hide hpos
    have hl4 : key.length ≤ 64 := by omega
    clear hks hn hfit h1 hpos h64
    go_enter Try.func35, Try.ntmps35
    go_wp2_with ((refine wpList_copy_splice rfl (.tmp 17) (.tmp 18) 32 32 rfl 5 Try.underlying32 size_1 _ _ 64 64 _ _ rfl rfl (w.heap.size + 1) 0 (ints .u8 (List.replicate 64 0)) 76 HD.out (ints .u8 key) HN.out HP.out HFit.out H1.out (w.heap.size + 1) _ (Below.refl _ _) (Nat.le_refl _) ?_); intro w1 hw1 hb1)
    have HZC := HZ
    have HFC := HF0
    have HL4 := hide hl4
    have hT0 : TuSt w w1 (tuX (tnB key) y 0) := tu_copy HL4.out HZC.out HFC.out hw1 hb1
    have HT0 := hide hT0
    clear hT0 hw1 hb1
    obtain ⟨N9, hN9⟩ : ∃ N9, (ints .u8 key).length = N9 := ⟨_, rfl⟩
    rw [hN9]
    clear hN9
    have HBL := hide (tnB_length HL4.out)
    generalize tnB key = L0 at *
    go_loopw [20] (fun x wr => TuRel w L0 y x wr) (fun i _ => 64 - (intOf i).toNat)
    case atStart => exact ⟨0, by omega, rfl, HT0.out⟩
    case round =>
      clear HT0
      obtain ⟨j, hj, rfl, hS⟩ := hrel
      have HS := hide hS
      by_cases hlt : j < 64
      · have j0 : (0 : Int) ≤ (j : Int) := by omega
        have j1 : (j : Int) < 64 := by omega
        have c1 := hS.d.geti (i := j) (by rw [tuX_length, HBL.out]; omega)
        have f1 := hS.d.frozen j
        have HL : Hid (tuX L0 y (j + 1) = (tuX L0 y j).set j (bits .xor .u8 ((tuX L0 y j).getD j 0) y)) := rfl
        clear hS
        generalize (tuX L0 y j).getD j 0 = x1 at *
        go_wp2_with fail
        go_roundw
        case rel => exact ⟨j + 1, by omega, by go_num, by rw [HL.out]; exact HS.out.setd j _⟩
        case measure => simp [intOf]; omega
      · have dj : decide ((j : Int) < 64) = false := decide_eq_false (by omega)
        have e : j = 64 := by omega
        rw [e, ← HE.out] at hS
        have hlen : (turnP T key y).length = 64 := turnP_length T key y
        have hs8 : (Try.prog.info? 76).map (·.size) = some (ints .u8 (turnP T key y)).toArray.size := by rw [ints_size, hlen]; exact size_64
        have hss : zero64.size = (ints .u8 (turnP T key y)).toArray.size := by rw [ints_size, hlen]; rfl
        have HS8 := hide hs8
        have HSS := hide hss
        have hR : Blk (wr.setRow w.heap.size (ints .u8 (turnP T key y)).toArray) w.heap.size 76 (ints .u8 (turnP T key y)).toArray := hS.r.setRow _
        have HR' := hide hR
        have hF : Frm NoB w (wr.setRow w.heap.size (ints .u8 (turnP T key y)).toArray) := hS.f.setRow (.inr (by omega)) _
        have HF := hide hF
        have HS0 := hide hS
        obtain ⟨X, hX⟩ : ∃ X, turnP T key y = X := ⟨_, rfl⟩
        rw [hX] at HS8 HSS HR' HF HS0
        have HXX := hide hX
        clear hS HS hs8 hss hlen e HE hR hF hX
        go_wp2_with (first
          | (refine wpList_load_row rfl 76 (.tmp 7) rfl (w.heap.size + 1) rfl 76 _ (0, 0) _ HS0.out.d Try.underlying76 rfl HS8.out ?_)
          | (refine wpList_store_row rfl 76 (.tmp 6) (.tmp 30) rfl w.heap.size _ rfl rfl 76 _ HS0.out.r HS8.out HSS.out (ints_one _ _) ?_))
        refine bodyPost_ret (results_cell_row rfl _ _ w.heap.size 76 (ints .u8 X).toArray (0, 0) _ rfl HR'.out Try.underlying76 rfl HS8.out) rfl ⟨?_, HF.out⟩
        rw [HXX.out]
end Go.Proofs.Ytmahaihcmmmhbaa
