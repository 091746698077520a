/-
  The fixed examples of the chapter on bytes come out as written: the walk.
-/
import Derived.Test.YtdhcgghdimkdbaaBl2
import Derived.Test.YtdhcgghdimkdbaaSlots
namespace Go.Proofs.Ytdhcgghdimkdbaa
open Go.RowKit
theorem uintLen_is (w : World) (n L : Nat) (hn : n < 18446744073709551616) (hL : (uv n).length = L) : Calls Try.prog 10 #[.slice none 0 0, .int .u64 n] w fun e w' => (∃ A c, e = .returned (.slice A L c)) ∧ Frm NoB w w' := by
  refine (buint_is n hn (Ob.nil w w.heap.size) (by simp) (Nat.le_refl _)).mono ?_
  rintro e w' ⟨v, rfl, hG⟩
  refine ⟨?_, hG.new⟩
  obtain ⟨A, c, e, -⟩ := hG.o.by_
  exact ⟨A, c, by rw [e, List.nil_append, hL]⟩
def NumRel (w : World) (i : Value) (wr : World) : Prop := ∃ j : Nat, 1 ≤ j ∧ j ≤ 10 ∧ i = .int .i64 j ∧ Frm NoB w wr
def nineB : List Int := [255, 255, 255, 255, 255, 255, 255, 255, 255]
def numTries : List TryS := [⟨nineB ++ [1], 0, 18446744073709551615, 10, 0⟩, ⟨nineB ++ [2], 0, 0, 0, 11⟩, ⟨nineB ++ [129], 0, 0, 0, 11⟩, ⟨nineB ++ [129, 0], 0, 0, 0, 11⟩, ⟨nineB ++ [0], 0, 0, 0, 11⟩, ⟨nineB, 0, 0, 0, 10⟩, ⟨[], 0, 0, 0, 10⟩, ⟨[], -1, 0, 0, 2⟩, ⟨[], 1, 0, 0, 2⟩, ⟨[0, 7], 0, 0, 1, 0⟩, ⟨[0, 7], 1, 7, 2, 0⟩, ⟨[0, 7], 2, 0, 0, 10⟩]
/-- a try as a value -/
def TryV (w : World) (v : Value) (t : TryS) : Prop := ∃ u, v = .agg #[u, .int .i64 t.at_, .int .u64 t.n, .int .i64 t.next, .int .i64 t.err] ∧ By w u t.b
theorem TryV.frm {w w' : World} {v : Value} {t : TryS} (h : TryV w v t) (hf : Frm NoB w w') : TryV w' v t := by
  obtain ⟨u, e, hb⟩ := h
  exact ⟨u, e, hb.frm0 hf⟩
theorem TriesAt.frm {w w' : World} {b o : Nat} {ts : List TryS} (h : TriesAt w b o ts) (hf : Frm NoB w w') : TriesAt w' b o ts := ⟨fun i hi => by
  obtain ⟨v, h1, h2, k0, k1, k2, k3, k4⟩ := h.at_ i hi
  have c : ∀ {a : Addr} {x : Value}, w.cell? a = some x → w'.cell? a = some x := fun k => (hf.cell (World.block_lt_of_cell? w _ k) (fun e => e)).trans k
  exact ⟨v, h1.frm0 hf, h2, c k0, c k1, c k2, c k3, c k4⟩⟩
theorem with_is {W : World} {q : Nat} {v9 vc : Value} {c : List Int} (hp : W.cell? ⟨q, 0, none⟩ = some v9) (h9 : By W v9 nineB) (hc : By W vc c) (hl : c.length ≤ 100) :
    Calls Try.prog 16 #[vc, .pointer (some ⟨q, 0, none⟩)] W fun e W' => ∃ v, e = .returned v ∧ By W' v (nineB ++ c) ∧ Frm NoB W W' := by
  have H9 := hide h9
  have HC := hide hc
  clear h9 hc
  go_enter Try.func16, Try.ntmps16
  go_wp2_with fail
  refine (copyBytes_is H9.out (by decide)).mono ?_
  rintro e w1 ⟨v1, rfl, hG⟩
  have HG := hide hG
  clear hG
  go_wp2_with (at_builtin; refine append_bytes rfl (.tmp 5) (.tmp 6) rfl W.heap.size v1 vc nineB c rfl rfl HG.out.o (HC.out.frm0 HG.out.new) (by have : nineB.length = 9 := rfl; omega) HG.out.new.size ?_; intro v' w2 hg)
  have HG2 := hide (HG.out.trans hg)
  clear hg
  go_ret
  exact ⟨v', rfl, HG2.out.o.by_, HG2.out.new⟩
def fv (q : Nat) : Value := .func (.func 16) #[] #[.pointer (some ⟨q, 0, none⟩)]
/-- what each slot of the region comes to -/
def NumS (q : Nat) (i : Nat) (v : Value) (w : World) : Prop :=
  match i with
  | 0 => v = fv q
  | 1 => By w v [1]
  | 2 => By w v (nineB ++ [1])
  | 3 => TryV w v ⟨nineB ++ [1], 0, 18446744073709551615, 10, 0⟩
  | 4 => v = fv q
  | 5 => By w v [2]
  | 6 => By w v (nineB ++ [2])
  | 7 => TryV w v ⟨nineB ++ [2], 0, 0, 0, 11⟩
  | 8 => v = fv q
  | 9 => By w v [129]
  | 10 => By w v (nineB ++ [129])
  | 11 => TryV w v ⟨nineB ++ [129], 0, 0, 0, 11⟩
  | 12 => v = fv q
  | 13 => By w v [129, 0]
  | 14 => By w v (nineB ++ [129, 0])
  | 15 => TryV w v ⟨nineB ++ [129, 0], 0, 0, 0, 11⟩
  | 16 => v = fv q
  | 17 => By w v [0]
  | 18 => By w v (nineB ++ [0])
  | 19 => TryV w v ⟨nineB ++ [0], 0, 0, 0, 11⟩
  | 20 => By w v nineB
  | 21 => TryV w v ⟨nineB, 0, 0, 0, 10⟩
  | 22 => TryV w v ⟨[], 0, 0, 0, 10⟩
  | 23 => TryV w v ⟨[], -1, 0, 0, 2⟩
  | 24 => TryV w v ⟨[], 1, 0, 0, 2⟩
  | 25 => By w v [0, 7]
  | 26 => TryV w v ⟨[0, 7], 0, 0, 1, 0⟩
  | 27 => By w v [0, 7]
  | 28 => TryV w v ⟨[0, 7], 1, 7, 2, 0⟩
  | 29 => By w v [0, 7]
  | 30 => TryV w v ⟨[0, 7], 2, 0, 0, 10⟩
  | 31 => ∃ g, v = .slice (some ⟨g, 0, none⟩) 12 12 ∧ TriesAt w g 0 numTries
  | 32 => v = .bool true
  | 33 => v = .bool false
  | _ => True
theorem NumS.frm {q i : Nat} {v : Value} {w w' : World} (h : NumS q i v w) (hf : Frm NoB w w') : NumS q i v w' := by
  unfold NumS at h ⊢
  split at h
  · exact h
  · exact By.frm0 h hf
  · exact By.frm0 h hf
  · exact TryV.frm h hf
  · exact h
  · exact By.frm0 h hf
  · exact By.frm0 h hf
  · exact TryV.frm h hf
  · exact h
  · exact By.frm0 h hf
  · exact By.frm0 h hf
  · exact TryV.frm h hf
  · exact h
  · exact By.frm0 h hf
  · exact By.frm0 h hf
  · exact TryV.frm h hf
  · exact h
  · exact By.frm0 h hf
  · exact By.frm0 h hf
  · exact TryV.frm h hf
  · exact By.frm0 h hf
  · exact TryV.frm h hf
  · exact TryV.frm h hf
  · exact TryV.frm h hf
  · exact TryV.frm h hf
  · exact By.frm0 h hf
  · exact TryV.frm h hf
  · exact By.frm0 h hf
  · exact TryV.frm h hf
  · exact By.frm0 h hf
  · exact TryV.frm h hf
  · obtain ⟨g, e, ht⟩ := h; exact ⟨g, e, ht.frm hf⟩
  · exact h
  · exact h
  · trivial
theorem u7 : U32 [7] := fun x hx => by rcases List.mem_cons.1 hx with rfl | hx; · omega
                                       cases hx
theorem rd_lit7 (w : World) : Rd (w.alloc (.cells #[.int .u32 7] 27)) (some ⟨w.heap.size, 0, none⟩) (ints .u32 [7]) := fun _ => ⟨_, 0, rfl, fun i v hv => by rw [Nat.zero_add, (Blk.new w 27 #[.int .u32 7]).cell i]; simpa [ints] using hv⟩
theorem num_good : ∀ t ∈ numTries, t.good := by
  intro t ht
  unfold numTries at ht
  rcases List.mem_cons.1 ht with rfl | ht
  · exact ⟨by decide, by decide, by decide⟩
  rcases List.mem_cons.1 ht with rfl | ht
  · exact ⟨by decide, by decide, by decide⟩
  rcases List.mem_cons.1 ht with rfl | ht
  · exact ⟨by decide, by decide, by decide⟩
  rcases List.mem_cons.1 ht with rfl | ht
  · exact ⟨by decide, by decide, by decide⟩
  rcases List.mem_cons.1 ht with rfl | ht
  · exact ⟨by decide, by decide, by decide⟩
  rcases List.mem_cons.1 ht with rfl | ht
  · exact ⟨by decide, by decide, by decide⟩
  rcases List.mem_cons.1 ht with rfl | ht
  · exact ⟨by decide, by decide, by decide⟩
  rcases List.mem_cons.1 ht with rfl | ht
  · exact ⟨by decide, by decide, by decide⟩
  rcases List.mem_cons.1 ht with rfl | ht
  · exact ⟨by decide, by decide, by decide⟩
  rcases List.mem_cons.1 ht with rfl | ht
  · exact ⟨by decide, by decide, by decide⟩
  rcases List.mem_cons.1 ht with rfl | ht
  · exact ⟨by decide, by decide, by decide⟩
  rcases List.mem_cons.1 ht with rfl | ht
  · exact ⟨by decide, by decide, by decide⟩
  cases ht
theorem upd_self {f : Nat → Value} {i : Nat} {v : Value} (h : f i = v) : f = upd f i v := by
  funext k; unfold upd; split
  · rename_i e; rw [e, h]
  · rfl
theorem upd_two {f : Nat → Value} {i j : Nat} {v u : Value} (h : f i = v) (h2 : f j = u) : f = upd (upd f i v) j u := by
  rw [← upd_self h, ← upd_self h2]
theorem nine_u8 : U8 nineB := fun x hx => by
  have : x = 255 := by simpa [nineB] using hx
  omega
def numAct (u0 u2 u36 u37 u38 u39 u40 u41 u42 u43 u44 u45 u46 u47 u48 u49 u50 u51 u52 u53 u54 v9 : Value) (q : Nat) (f : Nat → Value) : Act := { tmps := #[u0, .int .i64 ((10 : Nat) : Int), u2, .pointer (some ⟨q, 0, none⟩), fv q, undef, undef, undef, undef, undef, undef, undef, undef, undef, undef, undef, undef, undef, undef, undef, undef, undef, undef, undef, undef, undef, undef, undef, undef, undef, undef, undef, undef, undef, .int .i64 ((10 : Nat) : Int), .bool false, u36, u37, u38, u39, u40, u41, u42, u43, u44, u45, u46, u47, u48, u49, u50, u51, u52, u53, u54, v9, fv q, f 0, f 1, f 2, f 3, f 4, f 5, f 6, f 7, f 8, f 9, f 10, f 11, f 12, f 13, f 14, f 15, f 16, f 17, f 18, f 19, f 20, f 21, f 22, f 23, f 24, f 25, f 26, f 27, f 28, f 29, f 30, f 31, f 32, f 33, undef, undef, undef, undef, undef, undef, undef, undef, undef, undef, undef, undef, undef, undef, undef, undef, undef, undef, undef, undef, undef, undef, undef, undef, undef, undef, undef, undef, undef, undef, undef, undef, undef, undef, undef, undef, undef, undef, undef, undef, undef, undef, undef, undef, undef, undef, undef, undef, undef, undef, undef, undef, undef, undef, undef, undef, undef, undef, undef, undef, undef, undef, undef, undef, undef, undef, undef, undef, undef, undef, undef, undef, undef, undef, undef, undef, undef, undef, undef, undef, undef, undef, undef, undef, undef, undef, undef, undef, undef, undef, undef, undef, undef, undef, undef, undef, undef, undef, undef, undef, undef, undef, undef, undef, undef, undef, undef, undef, undef, undef, undef, undef, undef, undef, undef, undef, undef, undef, undef, undef, undef, undef, undef, undef, undef, undef, undef, undef, undef, undef, undef, undef], defers := [] }
set_option maxRecDepth 100000 in
set_option maxHeartbeats 4000000 in
theorem bytesNumbers_is (w : World) : Calls Try.prog 5 #[] w fun e w' => e = .returned (.bool true) ∧ Frm NoB w w' := by
  have kc := const_bytes
  go_enter Try.func5, Try.ntmps5
  go_wp2
  go_loopw [1] (fun i wr => NumRel w i wr) (fun i _ => 10 - (intOf i).toNat)
  case atStart => exact ⟨1, by omega, by omega, rfl, Frm.refl _ _⟩
  case round =>
    obtain ⟨j, hj1, hj, rfl, hF⟩ := hrel
    have HF := hide hF
    clear hF
    by_cases hlt : j < 10
    · match j, hj1, hlt with
      | 1, _, _ =>
        go_wp2_with fail
        refine (uintLen_is wr 127 1 (by omega) (by decide)).mono ?_
        rintro e w1 ⟨⟨A1, c1, rfl⟩, hF1⟩
        have HF1 := hide (HF.out.trans hF1)
        clear hF1
        go_wp2_with fail
        refine (uintLen_is w1 128 2 (by omega) (by decide)).mono ?_
        rintro e w2 ⟨⟨A2, c2, rfl⟩, hF2⟩
        have HF2 := hide (HF1.out.trans hF2)
        clear hF2
        go_wp2
        go_roundw
        case rel => exact ⟨2, by omega, by omega, rfl, HF2.out⟩
        case measure => simp [intOf]
      | 2, _, _ =>
        go_wp2_with fail
        refine (uintLen_is wr 16383 2 (by omega) (by decide)).mono ?_
        rintro e w1 ⟨⟨A1, c1, rfl⟩, hF1⟩
        have HF1 := hide (HF.out.trans hF1)
        clear hF1
        go_wp2_with fail
        refine (uintLen_is w1 16384 3 (by omega) (by decide)).mono ?_
        rintro e w2 ⟨⟨A2, c2, rfl⟩, hF2⟩
        have HF2 := hide (HF1.out.trans hF2)
        clear hF2
        go_wp2
        go_roundw
        case rel => exact ⟨3, by omega, by omega, rfl, HF2.out⟩
        case measure => simp [intOf]
      | 3, _, _ =>
        go_wp2_with fail
        refine (uintLen_is wr 2097151 3 (by omega) (by decide)).mono ?_
        rintro e w1 ⟨⟨A1, c1, rfl⟩, hF1⟩
        have HF1 := hide (HF.out.trans hF1)
        clear hF1
        go_wp2_with fail
        refine (uintLen_is w1 2097152 4 (by omega) (by decide)).mono ?_
        rintro e w2 ⟨⟨A2, c2, rfl⟩, hF2⟩
        have HF2 := hide (HF1.out.trans hF2)
        clear hF2
        go_wp2
        go_roundw
        case rel => exact ⟨4, by omega, by omega, rfl, HF2.out⟩
        case measure => simp [intOf]
      | 4, _, _ =>
        go_wp2_with fail
        refine (uintLen_is wr 268435455 4 (by omega) (by decide)).mono ?_
        rintro e w1 ⟨⟨A1, c1, rfl⟩, hF1⟩
        have HF1 := hide (HF.out.trans hF1)
        clear hF1
        go_wp2_with fail
        refine (uintLen_is w1 268435456 5 (by omega) (by decide)).mono ?_
        rintro e w2 ⟨⟨A2, c2, rfl⟩, hF2⟩
        have HF2 := hide (HF1.out.trans hF2)
        clear hF2
        go_wp2
        go_roundw
        case rel => exact ⟨5, by omega, by omega, rfl, HF2.out⟩
        case measure => simp [intOf]
      | 5, _, _ =>
        go_wp2_with fail
        refine (uintLen_is wr 34359738367 5 (by omega) (by decide)).mono ?_
        rintro e w1 ⟨⟨A1, c1, rfl⟩, hF1⟩
        have HF1 := hide (HF.out.trans hF1)
        clear hF1
        go_wp2_with fail
        refine (uintLen_is w1 34359738368 6 (by omega) (by decide)).mono ?_
        rintro e w2 ⟨⟨A2, c2, rfl⟩, hF2⟩
        have HF2 := hide (HF1.out.trans hF2)
        clear hF2
        go_wp2
        go_roundw
        case rel => exact ⟨6, by omega, by omega, rfl, HF2.out⟩
        case measure => simp [intOf]
      | 6, _, _ =>
        go_wp2_with fail
        refine (uintLen_is wr 4398046511103 6 (by omega) (by decide)).mono ?_
        rintro e w1 ⟨⟨A1, c1, rfl⟩, hF1⟩
        have HF1 := hide (HF.out.trans hF1)
        clear hF1
        go_wp2_with fail
        refine (uintLen_is w1 4398046511104 7 (by omega) (by decide)).mono ?_
        rintro e w2 ⟨⟨A2, c2, rfl⟩, hF2⟩
        have HF2 := hide (HF1.out.trans hF2)
        clear hF2
        go_wp2
        go_roundw
        case rel => exact ⟨7, by omega, by omega, rfl, HF2.out⟩
        case measure => simp [intOf]
      | 7, _, _ =>
        go_wp2_with fail
        refine (uintLen_is wr 562949953421311 7 (by omega) (by decide)).mono ?_
        rintro e w1 ⟨⟨A1, c1, rfl⟩, hF1⟩
        have HF1 := hide (HF.out.trans hF1)
        clear hF1
        go_wp2_with fail
        refine (uintLen_is w1 562949953421312 8 (by omega) (by decide)).mono ?_
        rintro e w2 ⟨⟨A2, c2, rfl⟩, hF2⟩
        have HF2 := hide (HF1.out.trans hF2)
        clear hF2
        go_wp2
        go_roundw
        case rel => exact ⟨8, by omega, by omega, rfl, HF2.out⟩
        case measure => simp [intOf]
      | 8, _, _ =>
        go_wp2_with fail
        refine (uintLen_is wr 72057594037927935 8 (by omega) (by decide)).mono ?_
        rintro e w1 ⟨⟨A1, c1, rfl⟩, hF1⟩
        have HF1 := hide (HF.out.trans hF1)
        clear hF1
        go_wp2_with fail
        refine (uintLen_is w1 72057594037927936 9 (by omega) (by decide)).mono ?_
        rintro e w2 ⟨⟨A2, c2, rfl⟩, hF2⟩
        have HF2 := hide (HF1.out.trans hF2)
        clear hF2
        go_wp2
        go_roundw
        case rel => exact ⟨9, by omega, by omega, rfl, HF2.out⟩
        case measure => simp [intOf]
      | 9, _, _ =>
        go_wp2_with fail
        refine (uintLen_is wr 9223372036854775807 9 (by omega) (by decide)).mono ?_
        rintro e w1 ⟨⟨A1, c1, rfl⟩, hF1⟩
        have HF1 := hide (HF.out.trans hF1)
        clear hF1
        go_wp2_with fail
        refine (uintLen_is w1 9223372036854775808 10 (by omega) (by decide)).mono ?_
        rintro e w2 ⟨⟨A2, c2, rfl⟩, hF2⟩
        have HF2 := hide (HF1.out.trans hF2)
        clear hF2
        go_wp2
        go_roundw
        case rel => exact ⟨10, by omega, by omega, rfl, HF2.out⟩
        case measure => simp [intOf]
    · obtain rfl : j = 10 := by omega
      go_wp2
      obtain ⟨q, hq⟩ : ∃ q, wr.heap.size + 1 = q := ⟨_, rfl⟩
      obtain ⟨W, hW⟩ : ∃ W, (wr.alloc (.cells #[.int .u8 255, .int .u8 255, .int .u8 255, .int .u8 255, .int .u8 255, .int .u8 255, .int .u8 255, .int .u8 255, .int .u8 255] 5)).alloc (.cells #[.slice (some ⟨wr.heap.size, 0, none⟩) 9 9] 23) = W := ⟨_, rfl⟩
      obtain ⟨v9, hv9⟩ : ∃ v9, Value.slice (some ⟨wr.heap.size, 0, none⟩) 9 9 = v9 := ⟨_, rfl⟩
      have HP : Hid (W.cell? ⟨q, 0, none⟩ = some v9) := by
        show _ = _
        rw [← hW, ← hq, ← hv9]
        have := Blk.new (wr.alloc (.cells #[.int .u8 255, .int .u8 255, .int .u8 255, .int .u8 255, .int .u8 255, .int .u8 255, .int .u8 255, .int .u8 255, .int .u8 255] 5)) 23 #[.slice (some ⟨wr.heap.size, 0, none⟩) 9 9]
        rw [World.size_alloc] at this
        exact this.cell 0
      have H9 : Hid (By W v9 nineB) := by
        show By _ _ _
        rw [← hW, ← hv9]
        exact (by_lit wr nineB nine_u8 (by decide) _ rfl 9 rfl).frm0 ((Frm.refl NoB _).alloc _)
      have HFW : Hid (Frm NoB w W) := by show Frm _ _ _; rw [← hW]; exact (HF.out.alloc _).alloc _
      rw [hq, hW, hv9]
      clear hq hW hv9 HF
      refine wp_region_slots (mk := numAct u0 u2 u36 u37 u38 u39 u40 u41 u42 u43 u44 u45 u46 u47 u48 u49 u50 u51 u52 u53 u54 v9 q) (f0 := fun _ => undef) rfl (by kernel_rfl) (NumS q) (fun i v w w' h hf => h.frm hf) ?step ?fin
      case step =>
        intro i hi f w1 hdep hF1 K hK
        have hi34 : i < 34 := hi
        clear hi
        have HF1 := hide hF1
        have HP1 : Hid (w1.cell? ⟨q, 0, none⟩ = some v9) := (hF1.cell (World.block_lt_of_cell? W _ HP.out) (fun e => e)).trans HP.out
        have H91 := hide (H9.out.frm0 hF1)
        clear hF1
        match i, hi34 with
        | 0, _ =>
          unfold wpOp
          simp only [List.getElem?_toArray, List.getElem?_cons_zero, List.getElem?_cons_succ]
          rw [if_pos (by rfl)]
          refine .inl ?_
          unfold numAct
          go_simp
          exact hK _ _ rfl (Frm.refl _ _)
        | 1, _ =>
          unfold wpOp
          simp only [List.getElem?_toArray, List.getElem?_cons_zero, List.getElem?_cons_succ]
          rw [if_pos (by rfl)]
          refine .inl ?_
          unfold numAct
          go_simp
          exact hK _ _ (by_lit w1 [1] (U8.cons (by omega) U8.nil) (by simp) _ rfl 1 rfl) ((Frm.refl _ _).alloc _)
        | 2, _ =>
          have d0 : f 0 = fv q := hdep 0 (by kernel_rfl)
          have d1 : By w1 (f 1) [1] := hdep 1 (by kernel_rfl)
          have D1 := hide d1
          clear d1 hdep
          obtain ⟨vb, hvb⟩ : ∃ vb, f 1 = vb := ⟨_, rfl⟩
          rw [hvb] at D1
          obtain ⟨f, rfl⟩ : ∃ f2, f = upd (upd f2 0 (fv q)) 1 vb := ⟨f, upd_two d0 hvb⟩
          clear d0 hvb
          show wpOp _ _ _ _ _ ({ tmps := #[u0, .int .i64 ((10 : Nat) : Int), u2, .pointer (some ⟨q, 0, none⟩), fv q, undef, undef, undef, undef, undef, undef, undef, undef, undef, undef, undef, undef, undef, undef, undef, undef, undef, undef, undef, undef, undef, undef, undef, undef, undef, undef, undef, undef, undef, .int .i64 ((10 : Nat) : Int), .bool false, u36, u37, u38, u39, u40, u41, u42, u43, u44, u45, u46, u47, u48, u49, u50, u51, u52, u53, u54, v9, fv q, fv q, vb, f 2, f 3, f 4, f 5, f 6, f 7, f 8, f 9, f 10, f 11, f 12, f 13, f 14, f 15, f 16, f 17, f 18, f 19, f 20, f 21, f 22, f 23, f 24, f 25, f 26, f 27, f 28, f 29, f 30, f 31, f 32, f 33, undef, undef, undef, undef, undef, undef, undef, undef, undef, undef, undef, undef, undef, undef, undef, undef, undef, undef, undef, undef, undef, undef, undef, undef, undef, undef, undef, undef, undef, undef, undef, undef, undef, undef, undef, undef, undef, undef, undef, undef, undef, undef, undef, undef, undef, undef, undef, undef, undef, undef, undef, undef, undef, undef, undef, undef, undef, undef, undef, undef, undef, undef, undef, undef, undef, undef, undef, undef, undef, undef, undef, undef, undef, undef, undef, undef, undef, undef, undef, undef, undef, undef, undef, undef, undef, undef, undef, undef, undef, undef, undef, undef, undef, undef, undef, undef, undef, undef, undef, undef, undef, undef, undef, undef, undef, undef, undef, undef, undef, undef, undef, undef, undef, undef, undef, undef, undef, undef, undef, undef, undef, undef, undef, undef, undef, undef, undef, undef, undef, undef, undef, undef], defers := [] } : Act) _
          unfold fv
          unfold wpOp
          simp only [List.getElem?_toArray, List.getElem?_cons_zero, List.getElem?_cons_succ]
          rw [if_pos (by rfl)]
          refine .inl ?_
          go_simp
          go_at_call 16
          refine (with_is HP1.out H91.out D1.out (by decide)).mono ?_
          rintro e w2 ⟨v2, rfl, hb, hF2⟩
          exact hK _ _ hb hF2
        | 3, _ =>
          have d1 : By w1 (f 2) (nineB ++ [1]) := hdep 2 (by kernel_rfl)
          obtain ⟨A3, c3, hv, -⟩ := id d1
          rw [hv] at d1
          have D1 := hide d1
          clear d1 hdep
          obtain ⟨n3, hn3⟩ : ∃ n3, (nineB ++ [1] : List Int).length = n3 := ⟨_, rfl⟩
          rw [hn3] at hv D1
          obtain ⟨f, rfl⟩ : ∃ f2, f = upd f2 2 (.slice A3 n3 c3) := ⟨f, upd_self hv⟩
          clear hv hn3
          show wpOp _ _ _ _ _ ({ tmps := #[u0, .int .i64 ((10 : Nat) : Int), u2, .pointer (some ⟨q, 0, none⟩), fv q, undef, undef, undef, undef, undef, undef, undef, undef, undef, undef, undef, undef, undef, undef, undef, undef, undef, undef, undef, undef, undef, undef, undef, undef, undef, undef, undef, undef, undef, .int .i64 ((10 : Nat) : Int), .bool false, u36, u37, u38, u39, u40, u41, u42, u43, u44, u45, u46, u47, u48, u49, u50, u51, u52, u53, u54, v9, fv q, f 0, f 1, .slice A3 n3 c3, f 3, f 4, f 5, f 6, f 7, f 8, f 9, f 10, f 11, f 12, f 13, f 14, f 15, f 16, f 17, f 18, f 19, f 20, f 21, f 22, f 23, f 24, f 25, f 26, f 27, f 28, f 29, f 30, f 31, f 32, f 33, undef, undef, undef, undef, undef, undef, undef, undef, undef, undef, undef, undef, undef, undef, undef, undef, undef, undef, undef, undef, undef, undef, undef, undef, undef, undef, undef, undef, undef, undef, undef, undef, undef, undef, undef, undef, undef, undef, undef, undef, undef, undef, undef, undef, undef, undef, undef, undef, undef, undef, undef, undef, undef, undef, undef, undef, undef, undef, undef, undef, undef, undef, undef, undef, undef, undef, undef, undef, undef, undef, undef, undef, undef, undef, undef, undef, undef, undef, undef, undef, undef, undef, undef, undef, undef, undef, undef, undef, undef, undef, undef, undef, undef, undef, undef, undef, undef, undef, undef, undef, undef, undef, undef, undef, undef, undef, undef, undef, undef, undef, undef, undef, undef, undef, undef, undef, undef, undef, undef, undef, undef, undef, undef, undef, undef, undef, undef, undef, undef, undef, undef, undef], defers := [] } : Act) _
          unfold wpOp
          simp only [List.getElem?_toArray, List.getElem?_cons_zero, List.getElem?_cons_succ]
          rw [if_pos (by rfl)]
          refine .inl ?_
          go_simp
          exact hK _ _ ⟨.slice A3 n3 c3, rfl, D1.out⟩ (Frm.refl _ _)
        | 4, _ =>
          unfold wpOp
          simp only [List.getElem?_toArray, List.getElem?_cons_zero, List.getElem?_cons_succ]
          rw [if_pos (by rfl)]
          refine .inl ?_
          unfold numAct
          go_simp
          exact hK _ _ rfl (Frm.refl _ _)
        | 5, _ =>
          unfold wpOp
          simp only [List.getElem?_toArray, List.getElem?_cons_zero, List.getElem?_cons_succ]
          rw [if_pos (by rfl)]
          refine .inl ?_
          unfold numAct
          go_simp
          exact hK _ _ (by_lit w1 [2] (U8.cons (by omega) U8.nil) (by simp) _ rfl 1 rfl) ((Frm.refl _ _).alloc _)
        | 6, _ =>
          have d0 : f 4 = fv q := hdep 4 (by kernel_rfl)
          have d1 : By w1 (f 5) [2] := hdep 5 (by kernel_rfl)
          have D1 := hide d1
          clear d1 hdep
          obtain ⟨vb, hvb⟩ : ∃ vb, f 5 = vb := ⟨_, rfl⟩
          rw [hvb] at D1
          obtain ⟨f, rfl⟩ : ∃ f2, f = upd (upd f2 4 (fv q)) 5 vb := ⟨f, upd_two d0 hvb⟩
          clear d0 hvb
          show wpOp _ _ _ _ _ ({ tmps := #[u0, .int .i64 ((10 : Nat) : Int), u2, .pointer (some ⟨q, 0, none⟩), fv q, undef, undef, undef, undef, undef, undef, undef, undef, undef, undef, undef, undef, undef, undef, undef, undef, undef, undef, undef, undef, undef, undef, undef, undef, undef, undef, undef, undef, undef, .int .i64 ((10 : Nat) : Int), .bool false, u36, u37, u38, u39, u40, u41, u42, u43, u44, u45, u46, u47, u48, u49, u50, u51, u52, u53, u54, v9, fv q, f 0, f 1, f 2, f 3, fv q, vb, f 6, f 7, f 8, f 9, f 10, f 11, f 12, f 13, f 14, f 15, f 16, f 17, f 18, f 19, f 20, f 21, f 22, f 23, f 24, f 25, f 26, f 27, f 28, f 29, f 30, f 31, f 32, f 33, undef, undef, undef, undef, undef, undef, undef, undef, undef, undef, undef, undef, undef, undef, undef, undef, undef, undef, undef, undef, undef, undef, undef, undef, undef, undef, undef, undef, undef, undef, undef, undef, undef, undef, undef, undef, undef, undef, undef, undef, undef, undef, undef, undef, undef, undef, undef, undef, undef, undef, undef, undef, undef, undef, undef, undef, undef, undef, undef, undef, undef, undef, undef, undef, undef, undef, undef, undef, undef, undef, undef, undef, undef, undef, undef, undef, undef, undef, undef, undef, undef, undef, undef, undef, undef, undef, undef, undef, undef, undef, undef, undef, undef, undef, undef, undef, undef, undef, undef, undef, undef, undef, undef, undef, undef, undef, undef, undef, undef, undef, undef, undef, undef, undef, undef, undef, undef, undef, undef, undef, undef, undef, undef, undef, undef, undef, undef, undef, undef, undef, undef, undef], defers := [] } : Act) _
          unfold fv
          unfold wpOp
          simp only [List.getElem?_toArray, List.getElem?_cons_zero, List.getElem?_cons_succ]
          rw [if_pos (by rfl)]
          refine .inl ?_
          go_simp
          go_at_call 16
          refine (with_is HP1.out H91.out D1.out (by decide)).mono ?_
          rintro e w2 ⟨v2, rfl, hb, hF2⟩
          exact hK _ _ hb hF2
        | 7, _ =>
          have d1 : By w1 (f 6) (nineB ++ [2]) := hdep 6 (by kernel_rfl)
          obtain ⟨A3, c3, hv, -⟩ := id d1
          rw [hv] at d1
          have D1 := hide d1
          clear d1 hdep
          obtain ⟨n3, hn3⟩ : ∃ n3, (nineB ++ [2] : List Int).length = n3 := ⟨_, rfl⟩
          rw [hn3] at hv D1
          obtain ⟨f, rfl⟩ : ∃ f2, f = upd f2 6 (.slice A3 n3 c3) := ⟨f, upd_self hv⟩
          clear hv hn3
          show wpOp _ _ _ _ _ ({ tmps := #[u0, .int .i64 ((10 : Nat) : Int), u2, .pointer (some ⟨q, 0, none⟩), fv q, undef, undef, undef, undef, undef, undef, undef, undef, undef, undef, undef, undef, undef, undef, undef, undef, undef, undef, undef, undef, undef, undef, undef, undef, undef, undef, undef, undef, undef, .int .i64 ((10 : Nat) : Int), .bool false, u36, u37, u38, u39, u40, u41, u42, u43, u44, u45, u46, u47, u48, u49, u50, u51, u52, u53, u54, v9, fv q, f 0, f 1, f 2, f 3, f 4, f 5, .slice A3 n3 c3, f 7, f 8, f 9, f 10, f 11, f 12, f 13, f 14, f 15, f 16, f 17, f 18, f 19, f 20, f 21, f 22, f 23, f 24, f 25, f 26, f 27, f 28, f 29, f 30, f 31, f 32, f 33, undef, undef, undef, undef, undef, undef, undef, undef, undef, undef, undef, undef, undef, undef, undef, undef, undef, undef, undef, undef, undef, undef, undef, undef, undef, undef, undef, undef, undef, undef, undef, undef, undef, undef, undef, undef, undef, undef, undef, undef, undef, undef, undef, undef, undef, undef, undef, undef, undef, undef, undef, undef, undef, undef, undef, undef, undef, undef, undef, undef, undef, undef, undef, undef, undef, undef, undef, undef, undef, undef, undef, undef, undef, undef, undef, undef, undef, undef, undef, undef, undef, undef, undef, undef, undef, undef, undef, undef, undef, undef, undef, undef, undef, undef, undef, undef, undef, undef, undef, undef, undef, undef, undef, undef, undef, undef, undef, undef, undef, undef, undef, undef, undef, undef, undef, undef, undef, undef, undef, undef, undef, undef, undef, undef, undef, undef, undef, undef, undef, undef, undef, undef], defers := [] } : Act) _
          unfold wpOp
          simp only [List.getElem?_toArray, List.getElem?_cons_zero, List.getElem?_cons_succ]
          rw [if_pos (by rfl)]
          refine .inl ?_
          go_simp
          exact hK _ _ ⟨.slice A3 n3 c3, rfl, D1.out⟩ (Frm.refl _ _)
        | 8, _ =>
          unfold wpOp
          simp only [List.getElem?_toArray, List.getElem?_cons_zero, List.getElem?_cons_succ]
          rw [if_pos (by rfl)]
          refine .inl ?_
          unfold numAct
          go_simp
          exact hK _ _ rfl (Frm.refl _ _)
        | 9, _ =>
          unfold wpOp
          simp only [List.getElem?_toArray, List.getElem?_cons_zero, List.getElem?_cons_succ]
          rw [if_pos (by rfl)]
          refine .inl ?_
          unfold numAct
          go_simp
          exact hK _ _ (by_lit w1 [129] (U8.cons (by omega) U8.nil) (by simp) _ rfl 1 rfl) ((Frm.refl _ _).alloc _)
        | 10, _ =>
          have d0 : f 8 = fv q := hdep 8 (by kernel_rfl)
          have d1 : By w1 (f 9) [129] := hdep 9 (by kernel_rfl)
          have D1 := hide d1
          clear d1 hdep
          obtain ⟨vb, hvb⟩ : ∃ vb, f 9 = vb := ⟨_, rfl⟩
          rw [hvb] at D1
          obtain ⟨f, rfl⟩ : ∃ f2, f = upd (upd f2 8 (fv q)) 9 vb := ⟨f, upd_two d0 hvb⟩
          clear d0 hvb
          show wpOp _ _ _ _ _ ({ tmps := #[u0, .int .i64 ((10 : Nat) : Int), u2, .pointer (some ⟨q, 0, none⟩), fv q, undef, undef, undef, undef, undef, undef, undef, undef, undef, undef, undef, undef, undef, undef, undef, undef, undef, undef, undef, undef, undef, undef, undef, undef, undef, undef, undef, undef, undef, .int .i64 ((10 : Nat) : Int), .bool false, u36, u37, u38, u39, u40, u41, u42, u43, u44, u45, u46, u47, u48, u49, u50, u51, u52, u53, u54, v9, fv q, f 0, f 1, f 2, f 3, f 4, f 5, f 6, f 7, fv q, vb, f 10, f 11, f 12, f 13, f 14, f 15, f 16, f 17, f 18, f 19, f 20, f 21, f 22, f 23, f 24, f 25, f 26, f 27, f 28, f 29, f 30, f 31, f 32, f 33, undef, undef, undef, undef, undef, undef, undef, undef, undef, undef, undef, undef, undef, undef, undef, undef, undef, undef, undef, undef, undef, undef, undef, undef, undef, undef, undef, undef, undef, undef, undef, undef, undef, undef, undef, undef, undef, undef, undef, undef, undef, undef, undef, undef, undef, undef, undef, undef, undef, undef, undef, undef, undef, undef, undef, undef, undef, undef, undef, undef, undef, undef, undef, undef, undef, undef, undef, undef, undef, undef, undef, undef, undef, undef, undef, undef, undef, undef, undef, undef, undef, undef, undef, undef, undef, undef, undef, undef, undef, undef, undef, undef, undef, undef, undef, undef, undef, undef, undef, undef, undef, undef, undef, undef, undef, undef, undef, undef, undef, undef, undef, undef, undef, undef, undef, undef, undef, undef, undef, undef, undef, undef, undef, undef, undef, undef, undef, undef, undef, undef, undef, undef], defers := [] } : Act) _
          unfold fv
          unfold wpOp
          simp only [List.getElem?_toArray, List.getElem?_cons_zero, List.getElem?_cons_succ]
          rw [if_pos (by rfl)]
          refine .inl ?_
          go_simp
          go_at_call 16
          refine (with_is HP1.out H91.out D1.out (by decide)).mono ?_
          rintro e w2 ⟨v2, rfl, hb, hF2⟩
          exact hK _ _ hb hF2
        | 11, _ =>
          have d1 : By w1 (f 10) (nineB ++ [129]) := hdep 10 (by kernel_rfl)
          obtain ⟨A3, c3, hv, -⟩ := id d1
          rw [hv] at d1
          have D1 := hide d1
          clear d1 hdep
          obtain ⟨n3, hn3⟩ : ∃ n3, (nineB ++ [129] : List Int).length = n3 := ⟨_, rfl⟩
          rw [hn3] at hv D1
          obtain ⟨f, rfl⟩ : ∃ f2, f = upd f2 10 (.slice A3 n3 c3) := ⟨f, upd_self hv⟩
          clear hv hn3
          show wpOp _ _ _ _ _ ({ tmps := #[u0, .int .i64 ((10 : Nat) : Int), u2, .pointer (some ⟨q, 0, none⟩), fv q, undef, undef, undef, undef, undef, undef, undef, undef, undef, undef, undef, undef, undef, undef, undef, undef, undef, undef, undef, undef, undef, undef, undef, undef, undef, undef, undef, undef, undef, .int .i64 ((10 : Nat) : Int), .bool false, u36, u37, u38, u39, u40, u41, u42, u43, u44, u45, u46, u47, u48, u49, u50, u51, u52, u53, u54, v9, fv q, f 0, f 1, f 2, f 3, f 4, f 5, f 6, f 7, f 8, f 9, .slice A3 n3 c3, f 11, f 12, f 13, f 14, f 15, f 16, f 17, f 18, f 19, f 20, f 21, f 22, f 23, f 24, f 25, f 26, f 27, f 28, f 29, f 30, f 31, f 32, f 33, undef, undef, undef, undef, undef, undef, undef, undef, undef, undef, undef, undef, undef, undef, undef, undef, undef, undef, undef, undef, undef, undef, undef, undef, undef, undef, undef, undef, undef, undef, undef, undef, undef, undef, undef, undef, undef, undef, undef, undef, undef, undef, undef, undef, undef, undef, undef, undef, undef, undef, undef, undef, undef, undef, undef, undef, undef, undef, undef, undef, undef, undef, undef, undef, undef, undef, undef, undef, undef, undef, undef, undef, undef, undef, undef, undef, undef, undef, undef, undef, undef, undef, undef, undef, undef, undef, undef, undef, undef, undef, undef, undef, undef, undef, undef, undef, undef, undef, undef, undef, undef, undef, undef, undef, undef, undef, undef, undef, undef, undef, undef, undef, undef, undef, undef, undef, undef, undef, undef, undef, undef, undef, undef, undef, undef, undef, undef, undef, undef, undef, undef, undef], defers := [] } : Act) _
          unfold wpOp
          simp only [List.getElem?_toArray, List.getElem?_cons_zero, List.getElem?_cons_succ]
          rw [if_pos (by rfl)]
          refine .inl ?_
          go_simp
          exact hK _ _ ⟨.slice A3 n3 c3, rfl, D1.out⟩ (Frm.refl _ _)
        | 12, _ =>
          unfold wpOp
          simp only [List.getElem?_toArray, List.getElem?_cons_zero, List.getElem?_cons_succ]
          rw [if_pos (by rfl)]
          refine .inl ?_
          unfold numAct
          go_simp
          exact hK _ _ rfl (Frm.refl _ _)
        | 13, _ =>
          unfold wpOp
          simp only [List.getElem?_toArray, List.getElem?_cons_zero, List.getElem?_cons_succ]
          rw [if_pos (by rfl)]
          refine .inl ?_
          unfold numAct
          go_simp
          exact hK _ _ (by_lit w1 [129, 0] (U8.cons (by omega) (U8.cons (by omega) U8.nil)) (by simp) _ rfl 2 rfl) ((Frm.refl _ _).alloc _)
        | 14, _ =>
          have d0 : f 12 = fv q := hdep 12 (by kernel_rfl)
          have d1 : By w1 (f 13) [129, 0] := hdep 13 (by kernel_rfl)
          have D1 := hide d1
          clear d1 hdep
          obtain ⟨vb, hvb⟩ : ∃ vb, f 13 = vb := ⟨_, rfl⟩
          rw [hvb] at D1
          obtain ⟨f, rfl⟩ : ∃ f2, f = upd (upd f2 12 (fv q)) 13 vb := ⟨f, upd_two d0 hvb⟩
          clear d0 hvb
          show wpOp _ _ _ _ _ ({ tmps := #[u0, .int .i64 ((10 : Nat) : Int), u2, .pointer (some ⟨q, 0, none⟩), fv q, undef, undef, undef, undef, undef, undef, undef, undef, undef, undef, undef, undef, undef, undef, undef, undef, undef, undef, undef, undef, undef, undef, undef, undef, undef, undef, undef, undef, undef, .int .i64 ((10 : Nat) : Int), .bool false, u36, u37, u38, u39, u40, u41, u42, u43, u44, u45, u46, u47, u48, u49, u50, u51, u52, u53, u54, v9, fv q, f 0, f 1, f 2, f 3, f 4, f 5, f 6, f 7, f 8, f 9, f 10, f 11, fv q, vb, f 14, f 15, f 16, f 17, f 18, f 19, f 20, f 21, f 22, f 23, f 24, f 25, f 26, f 27, f 28, f 29, f 30, f 31, f 32, f 33, undef, undef, undef, undef, undef, undef, undef, undef, undef, undef, undef, undef, undef, undef, undef, undef, undef, undef, undef, undef, undef, undef, undef, undef, undef, undef, undef, undef, undef, undef, undef, undef, undef, undef, undef, undef, undef, undef, undef, undef, undef, undef, undef, undef, undef, undef, undef, undef, undef, undef, undef, undef, undef, undef, undef, undef, undef, undef, undef, undef, undef, undef, undef, undef, undef, undef, undef, undef, undef, undef, undef, undef, undef, undef, undef, undef, undef, undef, undef, undef, undef, undef, undef, undef, undef, undef, undef, undef, undef, undef, undef, undef, undef, undef, undef, undef, undef, undef, undef, undef, undef, undef, undef, undef, undef, undef, undef, undef, undef, undef, undef, undef, undef, undef, undef, undef, undef, undef, undef, undef, undef, undef, undef, undef, undef, undef, undef, undef, undef, undef, undef, undef], defers := [] } : Act) _
          unfold fv
          unfold wpOp
          simp only [List.getElem?_toArray, List.getElem?_cons_zero, List.getElem?_cons_succ]
          rw [if_pos (by rfl)]
          refine .inl ?_
          go_simp
          go_at_call 16
          refine (with_is HP1.out H91.out D1.out (by decide)).mono ?_
          rintro e w2 ⟨v2, rfl, hb, hF2⟩
          exact hK _ _ hb hF2
        | 15, _ =>
          have d1 : By w1 (f 14) (nineB ++ [129, 0]) := hdep 14 (by kernel_rfl)
          obtain ⟨A3, c3, hv, -⟩ := id d1
          rw [hv] at d1
          have D1 := hide d1
          clear d1 hdep
          obtain ⟨n3, hn3⟩ : ∃ n3, (nineB ++ [129, 0] : List Int).length = n3 := ⟨_, rfl⟩
          rw [hn3] at hv D1
          obtain ⟨f, rfl⟩ : ∃ f2, f = upd f2 14 (.slice A3 n3 c3) := ⟨f, upd_self hv⟩
          clear hv hn3
          show wpOp _ _ _ _ _ ({ tmps := #[u0, .int .i64 ((10 : Nat) : Int), u2, .pointer (some ⟨q, 0, none⟩), fv q, undef, undef, undef, undef, undef, undef, undef, undef, undef, undef, undef, undef, undef, undef, undef, undef, undef, undef, undef, undef, undef, undef, undef, undef, undef, undef, undef, undef, undef, .int .i64 ((10 : Nat) : Int), .bool false, u36, u37, u38, u39, u40, u41, u42, u43, u44, u45, u46, u47, u48, u49, u50, u51, u52, u53, u54, v9, fv q, f 0, f 1, f 2, f 3, f 4, f 5, f 6, f 7, f 8, f 9, f 10, f 11, f 12, f 13, .slice A3 n3 c3, f 15, f 16, f 17, f 18, f 19, f 20, f 21, f 22, f 23, f 24, f 25, f 26, f 27, f 28, f 29, f 30, f 31, f 32, f 33, undef, undef, undef, undef, undef, undef, undef, undef, undef, undef, undef, undef, undef, undef, undef, undef, undef, undef, undef, undef, undef, undef, undef, undef, undef, undef, undef, undef, undef, undef, undef, undef, undef, undef, undef, undef, undef, undef, undef, undef, undef, undef, undef, undef, undef, undef, undef, undef, undef, undef, undef, undef, undef, undef, undef, undef, undef, undef, undef, undef, undef, undef, undef, undef, undef, undef, undef, undef, undef, undef, undef, undef, undef, undef, undef, undef, undef, undef, undef, undef, undef, undef, undef, undef, undef, undef, undef, undef, undef, undef, undef, undef, undef, undef, undef, undef, undef, undef, undef, undef, undef, undef, undef, undef, undef, undef, undef, undef, undef, undef, undef, undef, undef, undef, undef, undef, undef, undef, undef, undef, undef, undef, undef, undef, undef, undef, undef, undef, undef, undef, undef, undef], defers := [] } : Act) _
          unfold wpOp
          simp only [List.getElem?_toArray, List.getElem?_cons_zero, List.getElem?_cons_succ]
          rw [if_pos (by rfl)]
          refine .inl ?_
          go_simp
          exact hK _ _ ⟨.slice A3 n3 c3, rfl, D1.out⟩ (Frm.refl _ _)
        | 16, _ =>
          unfold wpOp
          simp only [List.getElem?_toArray, List.getElem?_cons_zero, List.getElem?_cons_succ]
          rw [if_pos (by rfl)]
          refine .inl ?_
          unfold numAct
          go_simp
          exact hK _ _ rfl (Frm.refl _ _)
        | 17, _ =>
          unfold wpOp
          simp only [List.getElem?_toArray, List.getElem?_cons_zero, List.getElem?_cons_succ]
          rw [if_pos (by rfl)]
          refine .inl ?_
          unfold numAct
          go_simp
          exact hK _ _ (by_lit w1 [0] (U8.cons (by omega) U8.nil) (by simp) _ rfl 1 rfl) ((Frm.refl _ _).alloc _)
        | 18, _ =>
          have d0 : f 16 = fv q := hdep 16 (by kernel_rfl)
          have d1 : By w1 (f 17) [0] := hdep 17 (by kernel_rfl)
          have D1 := hide d1
          clear d1 hdep
          obtain ⟨vb, hvb⟩ : ∃ vb, f 17 = vb := ⟨_, rfl⟩
          rw [hvb] at D1
          obtain ⟨f, rfl⟩ : ∃ f2, f = upd (upd f2 16 (fv q)) 17 vb := ⟨f, upd_two d0 hvb⟩
          clear d0 hvb
          show wpOp _ _ _ _ _ ({ tmps := #[u0, .int .i64 ((10 : Nat) : Int), u2, .pointer (some ⟨q, 0, none⟩), fv q, undef, undef, undef, undef, undef, undef, undef, undef, undef, undef, undef, undef, undef, undef, undef, undef, undef, undef, undef, undef, undef, undef, undef, undef, undef, undef, undef, undef, undef, .int .i64 ((10 : Nat) : Int), .bool false, u36, u37, u38, u39, u40, u41, u42, u43, u44, u45, u46, u47, u48, u49, u50, u51, u52, u53, u54, v9, fv q, f 0, f 1, f 2, f 3, f 4, f 5, f 6, f 7, f 8, f 9, f 10, f 11, f 12, f 13, f 14, f 15, fv q, vb, f 18, f 19, f 20, f 21, f 22, f 23, f 24, f 25, f 26, f 27, f 28, f 29, f 30, f 31, f 32, f 33, undef, undef, undef, undef, undef, undef, undef, undef, undef, undef, undef, undef, undef, undef, undef, undef, undef, undef, undef, undef, undef, undef, undef, undef, undef, undef, undef, undef, undef, undef, undef, undef, undef, undef, undef, undef, undef, undef, undef, undef, undef, undef, undef, undef, undef, undef, undef, undef, undef, undef, undef, undef, undef, undef, undef, undef, undef, undef, undef, undef, undef, undef, undef, undef, undef, undef, undef, undef, undef, undef, undef, undef, undef, undef, undef, undef, undef, undef, undef, undef, undef, undef, undef, undef, undef, undef, undef, undef, undef, undef, undef, undef, undef, undef, undef, undef, undef, undef, undef, undef, undef, undef, undef, undef, undef, undef, undef, undef, undef, undef, undef, undef, undef, undef, undef, undef, undef, undef, undef, undef, undef, undef, undef, undef, undef, undef, undef, undef, undef, undef, undef, undef], defers := [] } : Act) _
          unfold fv
          unfold wpOp
          simp only [List.getElem?_toArray, List.getElem?_cons_zero, List.getElem?_cons_succ]
          rw [if_pos (by rfl)]
          refine .inl ?_
          go_simp
          go_at_call 16
          refine (with_is HP1.out H91.out D1.out (by decide)).mono ?_
          rintro e w2 ⟨v2, rfl, hb, hF2⟩
          exact hK _ _ hb hF2
        | 19, _ =>
          have d1 : By w1 (f 18) (nineB ++ [0]) := hdep 18 (by kernel_rfl)
          obtain ⟨A3, c3, hv, -⟩ := id d1
          rw [hv] at d1
          have D1 := hide d1
          clear d1 hdep
          obtain ⟨n3, hn3⟩ : ∃ n3, (nineB ++ [0] : List Int).length = n3 := ⟨_, rfl⟩
          rw [hn3] at hv D1
          obtain ⟨f, rfl⟩ : ∃ f2, f = upd f2 18 (.slice A3 n3 c3) := ⟨f, upd_self hv⟩
          clear hv hn3
          show wpOp _ _ _ _ _ ({ tmps := #[u0, .int .i64 ((10 : Nat) : Int), u2, .pointer (some ⟨q, 0, none⟩), fv q, undef, undef, undef, undef, undef, undef, undef, undef, undef, undef, undef, undef, undef, undef, undef, undef, undef, undef, undef, undef, undef, undef, undef, undef, undef, undef, undef, undef, undef, .int .i64 ((10 : Nat) : Int), .bool false, u36, u37, u38, u39, u40, u41, u42, u43, u44, u45, u46, u47, u48, u49, u50, u51, u52, u53, u54, v9, fv q, f 0, f 1, f 2, f 3, f 4, f 5, f 6, f 7, f 8, f 9, f 10, f 11, f 12, f 13, f 14, f 15, f 16, f 17, .slice A3 n3 c3, f 19, f 20, f 21, f 22, f 23, f 24, f 25, f 26, f 27, f 28, f 29, f 30, f 31, f 32, f 33, undef, undef, undef, undef, undef, undef, undef, undef, undef, undef, undef, undef, undef, undef, undef, undef, undef, undef, undef, undef, undef, undef, undef, undef, undef, undef, undef, undef, undef, undef, undef, undef, undef, undef, undef, undef, undef, undef, undef, undef, undef, undef, undef, undef, undef, undef, undef, undef, undef, undef, undef, undef, undef, undef, undef, undef, undef, undef, undef, undef, undef, undef, undef, undef, undef, undef, undef, undef, undef, undef, undef, undef, undef, undef, undef, undef, undef, undef, undef, undef, undef, undef, undef, undef, undef, undef, undef, undef, undef, undef, undef, undef, undef, undef, undef, undef, undef, undef, undef, undef, undef, undef, undef, undef, undef, undef, undef, undef, undef, undef, undef, undef, undef, undef, undef, undef, undef, undef, undef, undef, undef, undef, undef, undef, undef, undef, undef, undef, undef, undef, undef, undef], defers := [] } : Act) _
          unfold wpOp
          simp only [List.getElem?_toArray, List.getElem?_cons_zero, List.getElem?_cons_succ]
          rw [if_pos (by rfl)]
          refine .inl ?_
          go_simp
          exact hK _ _ ⟨.slice A3 n3 c3, rfl, D1.out⟩ (Frm.refl _ _)
        | 20, _ =>
          have c9 := HP1.out
          unfold wpOp
          simp only [List.getElem?_toArray, List.getElem?_cons_zero, List.getElem?_cons_succ]
          rw [if_pos (by rfl)]
          refine .inl ?_
          unfold numAct
          go_simp
          exact hK _ _ H91.out (Frm.refl _ _)
        | 21, _ =>
          have d1 : By w1 (f 20) (nineB) := hdep 20 (by kernel_rfl)
          obtain ⟨A3, c3, hv, -⟩ := id d1
          rw [hv] at d1
          have D1 := hide d1
          clear d1 hdep
          obtain ⟨n3, hn3⟩ : ∃ n3, (nineB : List Int).length = n3 := ⟨_, rfl⟩
          rw [hn3] at hv D1
          obtain ⟨f, rfl⟩ : ∃ f2, f = upd f2 20 (.slice A3 n3 c3) := ⟨f, upd_self hv⟩
          clear hv hn3
          show wpOp _ _ _ _ _ ({ tmps := #[u0, .int .i64 ((10 : Nat) : Int), u2, .pointer (some ⟨q, 0, none⟩), fv q, undef, undef, undef, undef, undef, undef, undef, undef, undef, undef, undef, undef, undef, undef, undef, undef, undef, undef, undef, undef, undef, undef, undef, undef, undef, undef, undef, undef, undef, .int .i64 ((10 : Nat) : Int), .bool false, u36, u37, u38, u39, u40, u41, u42, u43, u44, u45, u46, u47, u48, u49, u50, u51, u52, u53, u54, v9, fv q, f 0, f 1, f 2, f 3, f 4, f 5, f 6, f 7, f 8, f 9, f 10, f 11, f 12, f 13, f 14, f 15, f 16, f 17, f 18, f 19, .slice A3 n3 c3, f 21, f 22, f 23, f 24, f 25, f 26, f 27, f 28, f 29, f 30, f 31, f 32, f 33, undef, undef, undef, undef, undef, undef, undef, undef, undef, undef, undef, undef, undef, undef, undef, undef, undef, undef, undef, undef, undef, undef, undef, undef, undef, undef, undef, undef, undef, undef, undef, undef, undef, undef, undef, undef, undef, undef, undef, undef, undef, undef, undef, undef, undef, undef, undef, undef, undef, undef, undef, undef, undef, undef, undef, undef, undef, undef, undef, undef, undef, undef, undef, undef, undef, undef, undef, undef, undef, undef, undef, undef, undef, undef, undef, undef, undef, undef, undef, undef, undef, undef, undef, undef, undef, undef, undef, undef, undef, undef, undef, undef, undef, undef, undef, undef, undef, undef, undef, undef, undef, undef, undef, undef, undef, undef, undef, undef, undef, undef, undef, undef, undef, undef, undef, undef, undef, undef, undef, undef, undef, undef, undef, undef, undef, undef, undef, undef, undef, undef, undef, undef], defers := [] } : Act) _
          unfold wpOp
          simp only [List.getElem?_toArray, List.getElem?_cons_zero, List.getElem?_cons_succ]
          rw [if_pos (by rfl)]
          refine .inl ?_
          go_simp
          exact hK _ _ ⟨.slice A3 n3 c3, rfl, D1.out⟩ (Frm.refl _ _)
        | 22, _ =>
          unfold wpOp
          simp only [List.getElem?_toArray, List.getElem?_cons_zero, List.getElem?_cons_succ]
          rw [if_pos (by rfl)]
          refine .inl ?_
          unfold numAct
          go_simp
          exact hK _ _ ⟨.slice none 0 0, rfl, By.nil _⟩ (Frm.refl _ _)
        | 23, _ =>
          unfold wpOp
          simp only [List.getElem?_toArray, List.getElem?_cons_zero, List.getElem?_cons_succ]
          rw [if_pos (by rfl)]
          refine .inl ?_
          unfold numAct
          go_simp
          exact hK _ _ ⟨.slice none 0 0, rfl, By.nil _⟩ (Frm.refl _ _)
        | 24, _ =>
          unfold wpOp
          simp only [List.getElem?_toArray, List.getElem?_cons_zero, List.getElem?_cons_succ]
          rw [if_pos (by rfl)]
          refine .inl ?_
          unfold numAct
          go_simp
          exact hK _ _ ⟨.slice none 0 0, rfl, By.nil _⟩ (Frm.refl _ _)
        | 25, _ =>
          unfold wpOp
          simp only [List.getElem?_toArray, List.getElem?_cons_zero, List.getElem?_cons_succ]
          rw [if_pos (by rfl)]
          refine .inl ?_
          unfold numAct
          go_simp
          exact hK _ _ (by_lit w1 [0, 7] (U8.cons (by omega) (U8.cons (by omega) U8.nil)) (by simp) _ rfl 2 rfl) ((Frm.refl _ _).alloc _)
        | 26, _ =>
          have d1 : By w1 (f 25) ([0, 7]) := hdep 25 (by kernel_rfl)
          obtain ⟨A3, c3, hv, -⟩ := id d1
          rw [hv] at d1
          have D1 := hide d1
          clear d1 hdep
          obtain ⟨n3, hn3⟩ : ∃ n3, ([0, 7] : List Int).length = n3 := ⟨_, rfl⟩
          rw [hn3] at hv D1
          obtain ⟨f, rfl⟩ : ∃ f2, f = upd f2 25 (.slice A3 n3 c3) := ⟨f, upd_self hv⟩
          clear hv hn3
          show wpOp _ _ _ _ _ ({ tmps := #[u0, .int .i64 ((10 : Nat) : Int), u2, .pointer (some ⟨q, 0, none⟩), fv q, undef, undef, undef, undef, undef, undef, undef, undef, undef, undef, undef, undef, undef, undef, undef, undef, undef, undef, undef, undef, undef, undef, undef, undef, undef, undef, undef, undef, undef, .int .i64 ((10 : Nat) : Int), .bool false, u36, u37, u38, u39, u40, u41, u42, u43, u44, u45, u46, u47, u48, u49, u50, u51, u52, u53, u54, v9, fv q, f 0, f 1, f 2, f 3, f 4, f 5, f 6, f 7, f 8, f 9, f 10, f 11, f 12, f 13, f 14, f 15, f 16, f 17, f 18, f 19, f 20, f 21, f 22, f 23, f 24, .slice A3 n3 c3, f 26, f 27, f 28, f 29, f 30, f 31, f 32, f 33, undef, undef, undef, undef, undef, undef, undef, undef, undef, undef, undef, undef, undef, undef, undef, undef, undef, undef, undef, undef, undef, undef, undef, undef, undef, undef, undef, undef, undef, undef, undef, undef, undef, undef, undef, undef, undef, undef, undef, undef, undef, undef, undef, undef, undef, undef, undef, undef, undef, undef, undef, undef, undef, undef, undef, undef, undef, undef, undef, undef, undef, undef, undef, undef, undef, undef, undef, undef, undef, undef, undef, undef, undef, undef, undef, undef, undef, undef, undef, undef, undef, undef, undef, undef, undef, undef, undef, undef, undef, undef, undef, undef, undef, undef, undef, undef, undef, undef, undef, undef, undef, undef, undef, undef, undef, undef, undef, undef, undef, undef, undef, undef, undef, undef, undef, undef, undef, undef, undef, undef, undef, undef, undef, undef, undef, undef, undef, undef, undef, undef, undef, undef], defers := [] } : Act) _
          unfold wpOp
          simp only [List.getElem?_toArray, List.getElem?_cons_zero, List.getElem?_cons_succ]
          rw [if_pos (by rfl)]
          refine .inl ?_
          go_simp
          exact hK _ _ ⟨.slice A3 n3 c3, rfl, D1.out⟩ (Frm.refl _ _)
        | 27, _ =>
          unfold wpOp
          simp only [List.getElem?_toArray, List.getElem?_cons_zero, List.getElem?_cons_succ]
          rw [if_pos (by rfl)]
          refine .inl ?_
          unfold numAct
          go_simp
          exact hK _ _ (by_lit w1 [0, 7] (U8.cons (by omega) (U8.cons (by omega) U8.nil)) (by simp) _ rfl 2 rfl) ((Frm.refl _ _).alloc _)
        | 28, _ =>
          have d1 : By w1 (f 27) ([0, 7]) := hdep 27 (by kernel_rfl)
          obtain ⟨A3, c3, hv, -⟩ := id d1
          rw [hv] at d1
          have D1 := hide d1
          clear d1 hdep
          obtain ⟨n3, hn3⟩ : ∃ n3, ([0, 7] : List Int).length = n3 := ⟨_, rfl⟩
          rw [hn3] at hv D1
          obtain ⟨f, rfl⟩ : ∃ f2, f = upd f2 27 (.slice A3 n3 c3) := ⟨f, upd_self hv⟩
          clear hv hn3
          show wpOp _ _ _ _ _ ({ tmps := #[u0, .int .i64 ((10 : Nat) : Int), u2, .pointer (some ⟨q, 0, none⟩), fv q, undef, undef, undef, undef, undef, undef, undef, undef, undef, undef, undef, undef, undef, undef, undef, undef, undef, undef, undef, undef, undef, undef, undef, undef, undef, undef, undef, undef, undef, .int .i64 ((10 : Nat) : Int), .bool false, u36, u37, u38, u39, u40, u41, u42, u43, u44, u45, u46, u47, u48, u49, u50, u51, u52, u53, u54, v9, fv q, f 0, f 1, f 2, f 3, f 4, f 5, f 6, f 7, f 8, f 9, f 10, f 11, f 12, f 13, f 14, f 15, f 16, f 17, f 18, f 19, f 20, f 21, f 22, f 23, f 24, f 25, f 26, .slice A3 n3 c3, f 28, f 29, f 30, f 31, f 32, f 33, undef, undef, undef, undef, undef, undef, undef, undef, undef, undef, undef, undef, undef, undef, undef, undef, undef, undef, undef, undef, undef, undef, undef, undef, undef, undef, undef, undef, undef, undef, undef, undef, undef, undef, undef, undef, undef, undef, undef, undef, undef, undef, undef, undef, undef, undef, undef, undef, undef, undef, undef, undef, undef, undef, undef, undef, undef, undef, undef, undef, undef, undef, undef, undef, undef, undef, undef, undef, undef, undef, undef, undef, undef, undef, undef, undef, undef, undef, undef, undef, undef, undef, undef, undef, undef, undef, undef, undef, undef, undef, undef, undef, undef, undef, undef, undef, undef, undef, undef, undef, undef, undef, undef, undef, undef, undef, undef, undef, undef, undef, undef, undef, undef, undef, undef, undef, undef, undef, undef, undef, undef, undef, undef, undef, undef, undef, undef, undef, undef, undef, undef, undef], defers := [] } : Act) _
          unfold wpOp
          simp only [List.getElem?_toArray, List.getElem?_cons_zero, List.getElem?_cons_succ]
          rw [if_pos (by rfl)]
          refine .inl ?_
          go_simp
          exact hK _ _ ⟨.slice A3 n3 c3, rfl, D1.out⟩ (Frm.refl _ _)
        | 29, _ =>
          unfold wpOp
          simp only [List.getElem?_toArray, List.getElem?_cons_zero, List.getElem?_cons_succ]
          rw [if_pos (by rfl)]
          refine .inl ?_
          unfold numAct
          go_simp
          exact hK _ _ (by_lit w1 [0, 7] (U8.cons (by omega) (U8.cons (by omega) U8.nil)) (by simp) _ rfl 2 rfl) ((Frm.refl _ _).alloc _)
        | 30, _ =>
          have d1 : By w1 (f 29) ([0, 7]) := hdep 29 (by kernel_rfl)
          obtain ⟨A3, c3, hv, -⟩ := id d1
          rw [hv] at d1
          have D1 := hide d1
          clear d1 hdep
          obtain ⟨n3, hn3⟩ : ∃ n3, ([0, 7] : List Int).length = n3 := ⟨_, rfl⟩
          rw [hn3] at hv D1
          obtain ⟨f, rfl⟩ : ∃ f2, f = upd f2 29 (.slice A3 n3 c3) := ⟨f, upd_self hv⟩
          clear hv hn3
          show wpOp _ _ _ _ _ ({ tmps := #[u0, .int .i64 ((10 : Nat) : Int), u2, .pointer (some ⟨q, 0, none⟩), fv q, undef, undef, undef, undef, undef, undef, undef, undef, undef, undef, undef, undef, undef, undef, undef, undef, undef, undef, undef, undef, undef, undef, undef, undef, undef, undef, undef, undef, undef, .int .i64 ((10 : Nat) : Int), .bool false, u36, u37, u38, u39, u40, u41, u42, u43, u44, u45, u46, u47, u48, u49, u50, u51, u52, u53, u54, v9, fv q, f 0, f 1, f 2, f 3, f 4, f 5, f 6, f 7, f 8, f 9, f 10, f 11, f 12, f 13, f 14, f 15, f 16, f 17, f 18, f 19, f 20, f 21, f 22, f 23, f 24, f 25, f 26, f 27, f 28, .slice A3 n3 c3, f 30, f 31, f 32, f 33, undef, undef, undef, undef, undef, undef, undef, undef, undef, undef, undef, undef, undef, undef, undef, undef, undef, undef, undef, undef, undef, undef, undef, undef, undef, undef, undef, undef, undef, undef, undef, undef, undef, undef, undef, undef, undef, undef, undef, undef, undef, undef, undef, undef, undef, undef, undef, undef, undef, undef, undef, undef, undef, undef, undef, undef, undef, undef, undef, undef, undef, undef, undef, undef, undef, undef, undef, undef, undef, undef, undef, undef, undef, undef, undef, undef, undef, undef, undef, undef, undef, undef, undef, undef, undef, undef, undef, undef, undef, undef, undef, undef, undef, undef, undef, undef, undef, undef, undef, undef, undef, undef, undef, undef, undef, undef, undef, undef, undef, undef, undef, undef, undef, undef, undef, undef, undef, undef, undef, undef, undef, undef, undef, undef, undef, undef, undef, undef, undef, undef, undef, undef], defers := [] } : Act) _
          unfold wpOp
          simp only [List.getElem?_toArray, List.getElem?_cons_zero, List.getElem?_cons_succ]
          rw [if_pos (by rfl)]
          refine .inl ?_
          go_simp
          exact hK _ _ ⟨.slice A3 n3 c3, rfl, D1.out⟩ (Frm.refl _ _)
        | 31, _ =>
          obtain ⟨x3, e3, b3⟩ := hdep 3 (by kernel_rfl)
          have B3 := hide b3
          clear b3
          obtain ⟨x7, e7, b7⟩ := hdep 7 (by kernel_rfl)
          have B7 := hide b7
          clear b7
          obtain ⟨x11, e11, b11⟩ := hdep 11 (by kernel_rfl)
          have B11 := hide b11
          clear b11
          obtain ⟨x15, e15, b15⟩ := hdep 15 (by kernel_rfl)
          have B15 := hide b15
          clear b15
          obtain ⟨x19, e19, b19⟩ := hdep 19 (by kernel_rfl)
          have B19 := hide b19
          clear b19
          obtain ⟨x21, e21, b21⟩ := hdep 21 (by kernel_rfl)
          have B21 := hide b21
          clear b21
          obtain ⟨x22, e22, b22⟩ := hdep 22 (by kernel_rfl)
          have B22 := hide b22
          clear b22
          obtain ⟨x23, e23, b23⟩ := hdep 23 (by kernel_rfl)
          have B23 := hide b23
          clear b23
          obtain ⟨x24, e24, b24⟩ := hdep 24 (by kernel_rfl)
          have B24 := hide b24
          clear b24
          obtain ⟨x26, e26, b26⟩ := hdep 26 (by kernel_rfl)
          have B26 := hide b26
          clear b26
          obtain ⟨x28, e28, b28⟩ := hdep 28 (by kernel_rfl)
          have B28 := hide b28
          clear b28
          obtain ⟨x30, e30, b30⟩ := hdep 30 (by kernel_rfl)
          have B30 := hide b30
          clear b30
          clear hdep
          obtain ⟨f, rfl⟩ : ∃ f2, f = upd f2 3 (.agg #[x3, .int .i64 (0), .int .u64 18446744073709551615, .int .i64 10, .int .i64 0]) := ⟨f, upd_self e3⟩
          clear e3
          obtain ⟨f, rfl⟩ : ∃ f2, f = upd f2 7 (.agg #[x7, .int .i64 (0), .int .u64 0, .int .i64 0, .int .i64 11]) := ⟨f, upd_self e7⟩
          clear e7
          obtain ⟨f, rfl⟩ : ∃ f2, f = upd f2 11 (.agg #[x11, .int .i64 (0), .int .u64 0, .int .i64 0, .int .i64 11]) := ⟨f, upd_self e11⟩
          clear e11
          obtain ⟨f, rfl⟩ : ∃ f2, f = upd f2 15 (.agg #[x15, .int .i64 (0), .int .u64 0, .int .i64 0, .int .i64 11]) := ⟨f, upd_self e15⟩
          clear e15
          obtain ⟨f, rfl⟩ : ∃ f2, f = upd f2 19 (.agg #[x19, .int .i64 (0), .int .u64 0, .int .i64 0, .int .i64 11]) := ⟨f, upd_self e19⟩
          clear e19
          obtain ⟨f, rfl⟩ : ∃ f2, f = upd f2 21 (.agg #[x21, .int .i64 (0), .int .u64 0, .int .i64 0, .int .i64 10]) := ⟨f, upd_self e21⟩
          clear e21
          obtain ⟨f, rfl⟩ : ∃ f2, f = upd f2 22 (.agg #[x22, .int .i64 (0), .int .u64 0, .int .i64 0, .int .i64 10]) := ⟨f, upd_self e22⟩
          clear e22
          obtain ⟨f, rfl⟩ : ∃ f2, f = upd f2 23 (.agg #[x23, .int .i64 (-1), .int .u64 0, .int .i64 0, .int .i64 2]) := ⟨f, upd_self e23⟩
          clear e23
          obtain ⟨f, rfl⟩ : ∃ f2, f = upd f2 24 (.agg #[x24, .int .i64 (1), .int .u64 0, .int .i64 0, .int .i64 2]) := ⟨f, upd_self e24⟩
          clear e24
          obtain ⟨f, rfl⟩ : ∃ f2, f = upd f2 26 (.agg #[x26, .int .i64 (0), .int .u64 0, .int .i64 1, .int .i64 0]) := ⟨f, upd_self e26⟩
          clear e26
          obtain ⟨f, rfl⟩ : ∃ f2, f = upd f2 28 (.agg #[x28, .int .i64 (1), .int .u64 7, .int .i64 2, .int .i64 0]) := ⟨f, upd_self e28⟩
          clear e28
          obtain ⟨f, rfl⟩ : ∃ f2, f = upd f2 30 (.agg #[x30, .int .i64 (2), .int .u64 0, .int .i64 0, .int .i64 10]) := ⟨f, upd_self e30⟩
          clear e30
          show wpOp _ _ _ _ _ ({ tmps := #[u0, .int .i64 ((10 : Nat) : Int), u2, .pointer (some ⟨q, 0, none⟩), fv q, undef, undef, undef, undef, undef, undef, undef, undef, undef, undef, undef, undef, undef, undef, undef, undef, undef, undef, undef, undef, undef, undef, undef, undef, undef, undef, undef, undef, undef, .int .i64 ((10 : Nat) : Int), .bool false, u36, u37, u38, u39, u40, u41, u42, u43, u44, u45, u46, u47, u48, u49, u50, u51, u52, u53, u54, v9, fv q, f 0, f 1, f 2, .agg #[x3, .int .i64 (0), .int .u64 18446744073709551615, .int .i64 10, .int .i64 0], f 4, f 5, f 6, .agg #[x7, .int .i64 (0), .int .u64 0, .int .i64 0, .int .i64 11], f 8, f 9, f 10, .agg #[x11, .int .i64 (0), .int .u64 0, .int .i64 0, .int .i64 11], f 12, f 13, f 14, .agg #[x15, .int .i64 (0), .int .u64 0, .int .i64 0, .int .i64 11], f 16, f 17, f 18, .agg #[x19, .int .i64 (0), .int .u64 0, .int .i64 0, .int .i64 11], f 20, .agg #[x21, .int .i64 (0), .int .u64 0, .int .i64 0, .int .i64 10], .agg #[x22, .int .i64 (0), .int .u64 0, .int .i64 0, .int .i64 10], .agg #[x23, .int .i64 (-1), .int .u64 0, .int .i64 0, .int .i64 2], .agg #[x24, .int .i64 (1), .int .u64 0, .int .i64 0, .int .i64 2], f 25, .agg #[x26, .int .i64 (0), .int .u64 0, .int .i64 1, .int .i64 0], f 27, .agg #[x28, .int .i64 (1), .int .u64 7, .int .i64 2, .int .i64 0], f 29, .agg #[x30, .int .i64 (2), .int .u64 0, .int .i64 0, .int .i64 10], f 31, f 32, f 33, undef, undef, undef, undef, undef, undef, undef, undef, undef, undef, undef, undef, undef, undef, undef, undef, undef, undef, undef, undef, undef, undef, undef, undef, undef, undef, undef, undef, undef, undef, undef, undef, undef, undef, undef, undef, undef, undef, undef, undef, undef, undef, undef, undef, undef, undef, undef, undef, undef, undef, undef, undef, undef, undef, undef, undef, undef, undef, undef, undef, undef, undef, undef, undef, undef, undef, undef, undef, undef, undef, undef, undef, undef, undef, undef, undef, undef, undef, undef, undef, undef, undef, undef, undef, undef, undef, undef, undef, undef, undef, undef, undef, undef, undef, undef, undef, undef, undef, undef, undef, undef, undef, undef, undef, undef, undef, undef, undef, undef, undef, undef, undef, undef, undef, undef, undef, undef, undef, undef, undef, undef, undef, undef, undef, undef, undef, undef, undef, undef, undef, undef, undef], defers := [] } : Act) _
          unfold wpOp
          simp only [List.getElem?_toArray, List.getElem?_cons_zero, List.getElem?_cons_succ]
          rw [if_pos (by rfl)]
          refine .inl ?_
          go_simp
          refine hK _ _ ⟨w1.heap.size, rfl, ?_⟩ ((Frm.refl _ _).alloc _)
          refine tries_lit [(x3, ⟨nineB ++ [1], 0, 18446744073709551615, 10, 0⟩), (x7, ⟨nineB ++ [2], 0, 0, 0, 11⟩), (x11, ⟨nineB ++ [129], 0, 0, 0, 11⟩), (x15, ⟨nineB ++ [129, 0], 0, 0, 0, 11⟩), (x19, ⟨nineB ++ [0], 0, 0, 0, 11⟩), (x21, ⟨nineB, 0, 0, 0, 10⟩), (x22, ⟨[], 0, 0, 0, 10⟩), (x23, ⟨[], -1, 0, 0, 2⟩), (x24, ⟨[], 1, 0, 0, 2⟩), (x26, ⟨[0, 7], 0, 0, 1, 0⟩), (x28, ⟨[0, 7], 1, 7, 2, 0⟩), (x30, ⟨[0, 7], 2, 0, 0, 10⟩)] (Blk.new w1 _ _) (fun p hp => ?_)
          rcases List.mem_cons.1 hp with rfl | hp
          · exact ⟨B3.out.frm0 ((Frm.refl NoB _).alloc _), (show (nineB ++ [1] : List Int).length ≤ 16777216 by decide)⟩
          rcases List.mem_cons.1 hp with rfl | hp
          · exact ⟨B7.out.frm0 ((Frm.refl NoB _).alloc _), (show (nineB ++ [2] : List Int).length ≤ 16777216 by decide)⟩
          rcases List.mem_cons.1 hp with rfl | hp
          · exact ⟨B11.out.frm0 ((Frm.refl NoB _).alloc _), (show (nineB ++ [129] : List Int).length ≤ 16777216 by decide)⟩
          rcases List.mem_cons.1 hp with rfl | hp
          · exact ⟨B15.out.frm0 ((Frm.refl NoB _).alloc _), (show (nineB ++ [129, 0] : List Int).length ≤ 16777216 by decide)⟩
          rcases List.mem_cons.1 hp with rfl | hp
          · exact ⟨B19.out.frm0 ((Frm.refl NoB _).alloc _), (show (nineB ++ [0] : List Int).length ≤ 16777216 by decide)⟩
          rcases List.mem_cons.1 hp with rfl | hp
          · exact ⟨B21.out.frm0 ((Frm.refl NoB _).alloc _), (show (nineB : List Int).length ≤ 16777216 by decide)⟩
          rcases List.mem_cons.1 hp with rfl | hp
          · exact ⟨B22.out.frm0 ((Frm.refl NoB _).alloc _), (show ([] : List Int).length ≤ 16777216 by decide)⟩
          rcases List.mem_cons.1 hp with rfl | hp
          · exact ⟨B23.out.frm0 ((Frm.refl NoB _).alloc _), (show ([] : List Int).length ≤ 16777216 by decide)⟩
          rcases List.mem_cons.1 hp with rfl | hp
          · exact ⟨B24.out.frm0 ((Frm.refl NoB _).alloc _), (show ([] : List Int).length ≤ 16777216 by decide)⟩
          rcases List.mem_cons.1 hp with rfl | hp
          · exact ⟨B26.out.frm0 ((Frm.refl NoB _).alloc _), (show ([0, 7] : List Int).length ≤ 16777216 by decide)⟩
          rcases List.mem_cons.1 hp with rfl | hp
          · exact ⟨B28.out.frm0 ((Frm.refl NoB _).alloc _), (show ([0, 7] : List Int).length ≤ 16777216 by decide)⟩
          rcases List.mem_cons.1 hp with rfl | hp
          · exact ⟨B30.out.frm0 ((Frm.refl NoB _).alloc _), (show ([0, 7] : List Int).length ≤ 16777216 by decide)⟩
          cases hp
        | 32, _ =>
          obtain ⟨g, hv, ht⟩ := hdep 31 (by kernel_rfl)
          have HT := hide ht
          clear ht hdep
          obtain ⟨f, rfl⟩ : ∃ f2, f = upd f2 31 (.slice (some ⟨g, 0, none⟩) 12 12) := ⟨f, upd_self hv⟩
          clear hv
          show wpOp _ _ _ _ _ ({ tmps := #[u0, .int .i64 ((10 : Nat) : Int), u2, .pointer (some ⟨q, 0, none⟩), fv q, undef, undef, undef, undef, undef, undef, undef, undef, undef, undef, undef, undef, undef, undef, undef, undef, undef, undef, undef, undef, undef, undef, undef, undef, undef, undef, undef, undef, undef, .int .i64 ((10 : Nat) : Int), .bool false, u36, u37, u38, u39, u40, u41, u42, u43, u44, u45, u46, u47, u48, u49, u50, u51, u52, u53, u54, v9, fv q, f 0, f 1, f 2, f 3, f 4, f 5, f 6, f 7, f 8, f 9, f 10, f 11, f 12, f 13, f 14, f 15, f 16, f 17, f 18, f 19, f 20, f 21, f 22, f 23, f 24, f 25, f 26, f 27, f 28, f 29, f 30, .slice (some ⟨g, 0, none⟩) 12 12, f 32, f 33, undef, undef, undef, undef, undef, undef, undef, undef, undef, undef, undef, undef, undef, undef, undef, undef, undef, undef, undef, undef, undef, undef, undef, undef, undef, undef, undef, undef, undef, undef, undef, undef, undef, undef, undef, undef, undef, undef, undef, undef, undef, undef, undef, undef, undef, undef, undef, undef, undef, undef, undef, undef, undef, undef, undef, undef, undef, undef, undef, undef, undef, undef, undef, undef, undef, undef, undef, undef, undef, undef, undef, undef, undef, undef, undef, undef, undef, undef, undef, undef, undef, undef, undef, undef, undef, undef, undef, undef, undef, undef, undef, undef, undef, undef, undef, undef, undef, undef, undef, undef, undef, undef, undef, undef, undef, undef, undef, undef, undef, undef, undef, undef, undef, undef, undef, undef, undef, undef, undef, undef, undef, undef, undef, undef, undef, undef, undef, undef, undef, undef, undef, undef], defers := [] } : Act) _
          unfold wpOp
          simp only [List.getElem?_toArray, List.getElem?_cons_zero, List.getElem?_cons_succ]
          rw [if_pos (by rfl)]
          refine .inl ?_
          go_simp
          go_at_call 18
          refine (reads8_is numTries g 0 12 12 HT.out num_good rfl (by omega)).mono ?_
          rintro e w2 ⟨rfl, hF2⟩
          exact hK _ _ rfl hF2
        | 33, _ =>
          have hv : f 32 = .bool true := hdep 32 (by kernel_rfl)
          obtain ⟨f, rfl⟩ : ∃ f2, f = upd f2 32 (.bool true) := ⟨f, upd_self hv⟩
          clear hv hdep
          show wpOp _ _ _ _ _ ({ tmps := #[u0, .int .i64 ((10 : Nat) : Int), u2, .pointer (some ⟨q, 0, none⟩), fv q, undef, undef, undef, undef, undef, undef, undef, undef, undef, undef, undef, undef, undef, undef, undef, undef, undef, undef, undef, undef, undef, undef, undef, undef, undef, undef, undef, undef, undef, .int .i64 ((10 : Nat) : Int), .bool false, u36, u37, u38, u39, u40, u41, u42, u43, u44, u45, u46, u47, u48, u49, u50, u51, u52, u53, u54, v9, fv q, f 0, f 1, f 2, f 3, f 4, f 5, f 6, f 7, f 8, f 9, f 10, f 11, f 12, f 13, f 14, f 15, f 16, f 17, f 18, f 19, f 20, f 21, f 22, f 23, f 24, f 25, f 26, f 27, f 28, f 29, f 30, f 31, .bool true, f 33, undef, undef, undef, undef, undef, undef, undef, undef, undef, undef, undef, undef, undef, undef, undef, undef, undef, undef, undef, undef, undef, undef, undef, undef, undef, undef, undef, undef, undef, undef, undef, undef, undef, undef, undef, undef, undef, undef, undef, undef, undef, undef, undef, undef, undef, undef, undef, undef, undef, undef, undef, undef, undef, undef, undef, undef, undef, undef, undef, undef, undef, undef, undef, undef, undef, undef, undef, undef, undef, undef, undef, undef, undef, undef, undef, undef, undef, undef, undef, undef, undef, undef, undef, undef, undef, undef, undef, undef, undef, undef, undef, undef, undef, undef, undef, undef, undef, undef, undef, undef, undef, undef, undef, undef, undef, undef, undef, undef, undef, undef, undef, undef, undef, undef, undef, undef, undef, undef, undef, undef, undef, undef, undef, undef, undef, undef, undef, undef, undef, undef, undef, undef], defers := [] } : Act) _
          unfold wpOp
          simp only [List.getElem?_toArray, List.getElem?_cons_zero, List.getElem?_cons_succ]
          rw [if_pos (by rfl)]
          refine .inl ?_
          go_simp
          exact hK _ _ rfl (Frm.refl _ _)
        | n + 34, h => exact absurd h (by omega)
      case fin =>
        intro f w1 hS hF1
        have hv : f 33 = .bool false := hS 33 (by decide)
        have HG1 := hide (HFW.out.trans hF1)
        clear hS hF1 HFW H9 HP
        obtain ⟨f, rfl⟩ : ∃ f2, f = upd f2 33 (.bool false) := ⟨f, upd_self hv⟩
        clear hv
        show Exit.then _ _ .normal ({ tmps := #[u0, .int .i64 ((10 : Nat) : Int), u2, .pointer (some ⟨q, 0, none⟩), fv q, undef, undef, undef, undef, undef, undef, undef, undef, undef, undef, undef, undef, undef, undef, undef, undef, undef, undef, undef, undef, undef, undef, undef, undef, undef, undef, undef, undef, undef, .int .i64 ((10 : Nat) : Int), .bool false, u36, u37, u38, u39, u40, u41, u42, u43, u44, u45, u46, u47, u48, u49, u50, u51, u52, u53, u54, v9, fv q, f 0, f 1, f 2, f 3, f 4, f 5, f 6, f 7, f 8, f 9, f 10, f 11, f 12, f 13, f 14, f 15, f 16, f 17, f 18, f 19, f 20, f 21, f 22, f 23, f 24, f 25, f 26, f 27, f 28, f 29, f 30, f 31, f 32, .bool false, undef, undef, undef, undef, undef, undef, undef, undef, undef, undef, undef, undef, undef, undef, undef, undef, undef, undef, undef, undef, undef, undef, undef, undef, undef, undef, undef, undef, undef, undef, undef, undef, undef, undef, undef, undef, undef, undef, undef, undef, undef, undef, undef, undef, undef, undef, undef, undef, undef, undef, undef, undef, undef, undef, undef, undef, undef, undef, undef, undef, undef, undef, undef, undef, undef, undef, undef, undef, undef, undef, undef, undef, undef, undef, undef, undef, undef, undef, undef, undef, undef, undef, undef, undef, undef, undef, undef, undef, undef, undef, undef, undef, undef, undef, undef, undef, undef, undef, undef, undef, undef, undef, undef, undef, undef, undef, undef, undef, undef, undef, undef, undef, undef, undef, undef, undef, undef, undef, undef, undef, undef, undef, undef, undef, undef, undef, undef, undef, undef, undef, undef, undef], defers := [] } : Act) _
        unfold fv
        go_wp2_with fail
        refine (getWord_is (by_lit w1 [9, 255, 255, 255, 254] (U8.cons (by omega) (U8.cons (by omega) (U8.cons (by omega) (U8.cons (by omega) (U8.cons (by omega) U8.nil))))) (by decide) _ rfl 5 rfl) (1) (by decide)).mono ?_
        rintro e w2 ⟨rfl, m, hm⟩
        rw [show wN [9, 255, 255, 255, 254] 1 = 4294967294 by decide, show wX [9, 255, 255, 255, 254] 1 = 5 by decide, show wE [9, 255, 255, 255, 254] 1 = 0 by decide]
        have hF9 : Frm NoB w1 w2 := by rw [hm]; exact (((Frm.refl NoB _).alloc _)).drewN m
        have HG2 := hide (HG1.out.trans (hF9))
        clear HG1
        clear hm hF9
        go_wp2_with fail
        refine (getWord_is (by_lit w2 [9, 255, 255, 255, 254] (U8.cons (by omega) (U8.cons (by omega) (U8.cons (by omega) (U8.cons (by omega) (U8.cons (by omega) U8.nil))))) (by decide) _ rfl 5 rfl) (2) (by decide)).mono ?_
        rintro e w3 ⟨rfl, m, hm⟩
        rw [show wN [9, 255, 255, 255, 254] 2 = 0 by decide, show wX [9, 255, 255, 255, 254] 2 = 0 by decide, show wE [9, 255, 255, 255, 254] 2 = 10 by decide]
        have hF9 : Frm NoB w2 w3 := by rw [hm]; exact (((Frm.refl NoB _).alloc _)).drewN m
        have HG3 := hide (HG2.out.trans (hF9))
        clear HG2
        clear hm hF9
        go_wp2_with fail
        refine (getWord_is (By.nil w3) (1) (by decide)).mono ?_
        rintro e w4 ⟨rfl, m, hm⟩
        rw [show wN [] 1 = 0 by decide, show wX [] 1 = 0 by decide, show wE [] 1 = 2 by decide]
        have hF9 : Frm NoB w3 w4 := by rw [hm]; exact (Frm.refl NoB _).drewN m
        have HG4 := hide (HG3.out.trans (hF9))
        clear HG3
        clear hm hF9
        go_wp2_with fail
        refine (getBlob_is (by_lit w4 [9, 0, 9] (U8.cons (by omega) (U8.cons (by omega) (U8.cons (by omega) U8.nil))) (by decide) _ rfl 3 rfl) 1 (0) (by decide) (by omega)).mono ?_
        rintro e w5 ⟨v, rfl, hG⟩
        rw [show bX [9, 0, 9] 1 (0) = 2 by decide, show bE [9, 0, 9] 1 (0) = 0 by decide]
        rw [show bB [9, 0, 9] 1 (0) = [] by decide] at hG
        obtain ⟨A9, c9, rfl, -⟩ := hG.o.by_
        have HG5 := hide (HG4.out.trans (((Frm.refl NoB _).alloc _).trans hG.new))
        clear HG4
        clear hG
        go_wp2_with fail
        refine (getBlob_is (by_lit w5 [3, 1, 2] (U8.cons (by omega) (U8.cons (by omega) (U8.cons (by omega) U8.nil))) (by decide) _ rfl 3 rfl) 0 (3) (by decide) (by omega)).mono ?_
        rintro e w6 ⟨v, rfl, hG⟩
        rw [show bX [3, 1, 2] 0 (3) = 0 by decide, show bE [3, 1, 2] 0 (3) = 10 by decide]
        rw [show bB [3, 1, 2] 0 (3) = [] by decide] at hG
        obtain ⟨A9, c9, rfl, -⟩ := hG.o.by_
        have HG6 := hide (HG5.out.trans (((Frm.refl NoB _).alloc _).trans hG.new))
        clear HG5
        clear hG
        go_wp2_with fail
        refine (getBlob_is (by_lit w6 [3, 1, 2, 3] (U8.cons (by omega) (U8.cons (by omega) (U8.cons (by omega) (U8.cons (by omega) U8.nil)))) (by decide) _ rfl 4 rfl) 0 (2) (by decide) (by omega)).mono ?_
        rintro e w7 ⟨v, rfl, hG⟩
        rw [show bX [3, 1, 2, 3] 0 (2) = 0 by decide, show bE [3, 1, 2, 3] 0 (2) = 3 by decide]
        rw [show bB [3, 1, 2, 3] 0 (2) = [] by decide] at hG
        obtain ⟨A9, c9, rfl, -⟩ := hG.o.by_
        have HG7 := hide (HG6.out.trans (((Frm.refl NoB _).alloc _).trans hG.new))
        clear HG6
        clear hG
        go_wp2_with fail
        refine (getBlob_is (by_lit w7 [0] (U8.cons (by omega) U8.nil) (by decide) _ rfl 1 rfl) 0 (-1) (by decide) (by omega)).mono ?_
        rintro e w8 ⟨v, rfl, hG⟩
        rw [show bX [0] 0 (-1) = 0 by decide, show bE [0] 0 (-1) = 3 by decide]
        rw [show bB [0] 0 (-1) = [] by decide] at hG
        obtain ⟨A9, c9, rfl, -⟩ := hG.o.by_
        have HG8 := hide (HG7.out.trans (((Frm.refl NoB _).alloc _).trans hG.new))
        clear HG7
        clear hG
        go_wp2_with fail
        refine (bytes_is (some ⟨w8.heap.size, 0, none⟩) 1 [7] (rd_lit7 w8) u7 (by decide) (-1) (by omega)).mono ?_
        rintro e w9 ⟨v, rfl, hG⟩
        rw [show byE [7] (-1) = 2 by decide] at hG ⊢
        obtain ⟨A9, c9, rfl, -⟩ := hG.o.by_
        have HG9 := hide (HG8.out.trans (((Frm.refl NoB _).alloc _).trans hG.new))
        clear HG8
        clear hG
        go_wp2_with fail
        refine (bytes_is (some ⟨w9.heap.size, 0, none⟩) 1 [7] (rd_lit7 w9) u7 (by decide) (5) (by omega)).mono ?_
        rintro e w10 ⟨v, rfl, hG⟩
        rw [show byE [7] (5) = 10 by decide] at hG ⊢
        obtain ⟨A9, c9, rfl, -⟩ := hG.o.by_
        have HG10 := hide (HG9.out.trans (((Frm.refl NoB _).alloc _).trans hG.new))
        clear HG9
        clear hG
        go_wp2_with fail
        refine (bytes_is (some ⟨w10.heap.size, 0, none⟩) 1 [7] (rd_lit7 w10) u7 (by decide) (9223372036854775807) (by omega)).mono ?_
        rintro e w11 ⟨v, rfl, hG⟩
        rw [show byE [7] (9223372036854775807) = 10 by decide] at hG ⊢
        obtain ⟨A9, c9, rfl, -⟩ := hG.o.by_
        have HG11 := hide (HG10.out.trans (((Frm.refl NoB _).alloc _).trans hG.new))
        clear HG10
        clear hG
        go_wp2_with fail
        refine (bytes_is none 0 [] (Rd.nil _ _) (fun x hx => by cases hx) (by decide) (0) (by omega)).mono ?_
        rintro e w12 ⟨v, rfl, hG⟩
        rw [show byE [] (0) = 0 by decide] at hG ⊢
        have hG : Grew _ _ _ v [] _ := hG
        obtain ⟨A9, c9, rfl, -⟩ := hG.o.by_
        have HG12 := hide (HG11.out.trans (hG.new))
        clear HG11
        clear hG
        go_wp2_with fail
        refine (words_is (By.nil w12) (by decide)).mono ?_
        rintro e w13 ⟨A9, c9, rfl, -, -, hF9⟩
        rw [show (wordsOf []).length = 0 by decide]
        have HG13 := hide (HG12.out.trans (hF9))
        clear HG12
        clear hF9
        go_wp2_with fail
        refine (awake8_is w13).mono ?_
        rintro e w14 ⟨rfl, hF9⟩
        have HG14 := hide (HG13.out.trans (hF9))
        clear HG13
        go_wp2
        go_ret
        exact ⟨rfl, HG14.out⟩
end Go.Proofs.Ytdhcgghdimkdbaa
