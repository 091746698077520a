/-
  sha: Write.
-/
import Derived.Test.YtmahaihcmmmhbaaShC
import Derived.Test.YtmahaihcmmmhbaaRegP
import Derived.Test.YtmahaihcmmmhbaaSh11
namespace Go.Proofs.Ytmahaihcmmmhbaa
open Go.RowKit
def hashV (h : HashS) (rv : Value) : Array Value := hashC (h.s.getD 0 0) (h.s.getD 1 0) (h.s.getD 2 0) (h.s.getD 3 0) (h.s.getD 4 0) (h.s.getD 5 0) (h.s.getD 6 0) (h.s.getD 7 0) rv h.n
theorem eight {s : List Int} (h : s.length = 8) : s = [s.getD 0 0, s.getD 1 0, s.getD 2 0, s.getD 3 0, s.getD 4 0, s.getD 5 0, s.getD 6 0, s.getD 7 0] := by
  match s, h with
  | [a, b, c, d, e, f, g, k], _ => rfl
theorem hashV_range {w : World} {b : Nat} {h : HashS} {rv : Value} (hb : Blk w b 96 (hashV h rv)) (hl : h.s.length = 8) : w.rangeAt b 0 (ints .u32 h.s) := fun j v hv => by
  rw [Nat.zero_add, hb.cell j]
  rw [eight hl] at hv
  match j, hv with
  | 0, hv => exact hv
  | 1, hv => exact hv
  | 2, hv => exact hv
  | 3, hv => exact hv
  | 4, hv => exact hv
  | 5, hv => exact hv
  | 6, hv => exact hv
  | 7, hv => exact hv
  | j + 8, hv => simp [ints] at hv
def WritePost (w : World) (T : List Int) (h : HashS) (xs : List Int) (e : Ending) (w' : World) : Prop := ∃ rv', e = .returned (.agg (hashV (h.write T xs) rv')) ∧ By w' rv' (h.write T xs).r ∧ Frm NoB w w'
theorem wpList_load_row_w {P : Program} {ops : Array Oper} {rest : List Oper} {o : Oper} {a : Act} {w : World} {Q : Exit → Act → World → Prop} (hw : Region.wanted o (yielded ops a.tmps) = true) (ty : TypeId) (x : Operand) (ho : o.op = .load ty x)
    (g : Nat) (hx : a.eval x = .pointer (some ⟨g, 0, none⟩)) (t : TypeId) (cs : Array Value) (fr : Nat × Nat) (d : TypeDesc) (hg : w.heap[g]? = some (.cells cs t fr))
    (hu : P.underlying ty = some d) (hd : (match d with | .struct _ | .array _ _ => true | _ => false) = true) (hi : (P.info? ty).map (·.size) = some cs.size)
    (h : wpList P ops Q rest (a.put o.dst (.agg cs)) w) : wpList P ops Q (o :: rest) a w := by
  unfold wpList
  rw [if_pos hw]
  exact .inl (wp_load_row ty x ho g hx t cs fr d hg hu hd hi h)
theorem hashC_one (x0 x1 x2 x3 x4 x5 x6 x7 : Int) (A : Option Addr) (n c : Nat) (L : Int) : (hashC x0 x1 x2 x3 x4 x5 x6 x7 (.slice A n c) L).all (·.oneCell') = true := by simp [hashC, Value.oneCell']
def zero10 : Array Value := #[.int .u32 0, .int .u32 0, .int .u32 0, .int .u32 0, .int .u32 0, .int .u32 0, .int .u32 0, .int .u32 0, .slice none 0 0, .int .i64 0]
set_option maxRecDepth 100000 in
set_option maxHeartbeats 4000000 in
theorem write_is (b : Nat) (T : List Int) (h : HashS) (rv v : Value) (xs : List Int) (w : World) (hT : RdAt w b T) (hk : h.Ok) (hr : By w rv h.r) (hx : By w v xs) (hl : xs.length ≤ 16776000) (hm : h.n + xs.length ≤ 72057594037927936) :
    Calls Try.prog 54 #[.pointer (some ⟨b, 0, none⟩), .agg (hashV h rv), v] w (WritePost w T h xs) := by
  have hB : Blk ((w.alloc (.cells (hashV h rv) 96)).alloc (.cells zero10 96)) w.heap.size 96 (hashV h rv) := (Blk.new w _ _).alloc _
  have hZ : Blk ((w.alloc (.cells (hashV h rv) 96)).alloc (.cells zero10 96)) (w.heap.size + 1) 96 zero10 := blk_snd _ _ _ _
  have HB := hide hB
  have HZ := hide hZ
  have HT := hide hT
  have HK := hide hk
  have HR := hide hr
  have HX := hide hx
  obtain ⟨A1, c1, rfl, -⟩ := hr
  obtain ⟨A2, c2, rfl, -⟩ := hx
  have hrl := hk.rl
  have hsz : (Try.prog.info? 96).map (·.size) = some (hashV h (.slice A1 h.r.length c1)).size := hasher_size
  have HSZ := hide hsz
  have n0 : (0 : Int) ≤ (h.n : Int) := by omega
  have KR : Hid (∀ W, Calls Try.prog 62 #[.agg (hashV h (.slice A1 h.r.length c1))] W fun e w' => e = .returned (.bool true) ∧ Frm NoB W w') := fun W => right_is (hashV h (.slice A1 h.r.length c1)) A1 h.r.length c1 h.n W rfl rfl (by omega) (by have := hk.m; omega) (by rw [hrl]; omega)
  clear hsz hrl
  clear hB hZ hT hk
  have hr8 : (hashV h (.slice A1 h.r.length c1))[8]? = some (.slice A1 h.r.length c1) := rfl
  have hr9 : (hashV h (.slice A1 h.r.length c1))[9]? = some (.int .i64 h.n) := rfl
  have HR8 := hide hr8
  have HR9 := hide hr9
  obtain ⟨n1, hn1⟩ : ∃ n1, h.r.length = n1 := ⟨_, rfl⟩
  obtain ⟨n2, hn2⟩ : ∃ n2, xs.length = n2 := ⟨_, rfl⟩
  have hn64 : n1 < 64 := by have := HK.out.rl; omega
  rw [hn1] at HR8 HR9 HB HZ HSZ KR HR ⊢
  rw [hn2] at HX hl hm ⊢
  have HN1 := hide hn1
  have HN2 := hide hn2
  clear hr8 hr9 hn1 hn2
  go_enter Try.func54, Try.ntmps54
  go_wp2_with (refine wpList_load_row_w (by rfl) 96 (.tmp 4) rfl w.heap.size rfl 96 _ (0, 0) _ HB.out Try.underlying96 rfl HSZ.out ?_)
  refine (KR.out _).mono ?_
  rintro e w1 ⟨rfl, hf1⟩
  have HB1 := hide ((Hid.out HB).frm hf1 (fun e => e))
  have HZ1 := hide ((Hid.out HZ).frm hf1 (fun e => e))
  have c8 := (Blk.cell (Hid.out HB1) 8).trans HR8.out
  have HF1 : Hid (Frm NoB w w1) := (((Frm.refl NoB w).alloc _).alloc _).trans hf1
  clear hf1
  go_wp2_with fail
  clear c8
  have KC := hide (concat_is (w1.alloc (.cells #[.slice A1 n1 c1, .slice A2 n2 c2] 32)) w1.heap.size 0 2 A1 A2 c1 c2 n1 n2 h.r xs HN1.out HN2.out (HR.out.frm0 (HF1.out.alloc _)) (HX.out.frm0 (HF1.out.alloc _)) (by omega) ((Blk.new w1 _ _).cell 0) ((Blk.new w1 _ _).cell 1))
  refine KC.out.mono ?_
  clear KC
  rintro e w2 ⟨v2, rfl, hO2, hf2⟩
  obtain ⟨A3, c3, e3, -⟩ := id hO2.by_
  have HY2 : Hid (By w2 v2 (h.r ++ xs)) := hO2.by_
  rw [e3] at HY2 ⊢
  have HB2 := hide ((HB1.out.alloc _).frm hf2 (fun e => e))
  have HZ2 := hide ((HZ1.out.alloc _).frm hf2 (fun e => e))
  have HF2 : Hid (Frm NoB w w2) := (HF1.out.alloc _).trans hf2
  have hh2 : w.heap.size + 1 < w2.heap.size := HZ2.out.lt
  have hs8 : (Try.prog.info? 39).map (·.size) = some (ints .u32 h.s).length := by rw [ints_length, HK.out.len]; exact size_8
  have HS8 := hide hs8
  have KB := hide (blocks_is b T h.s (h.r ++ xs) _ w2 (HT.out.frm HF2.out (fun e => e)) HK.out.len HK.out.u HY2.out)
  have hlS : (bkA T h.s (h.r ++ xs)).length = 8 := bks_length T _ HK.out.len _
  have HLS := hide hlS
  obtain ⟨n3, hn3⟩ : ∃ n3, (h.r ++ xs).length = n3 := ⟨_, rfl⟩
  rw [hn3] at HY2 KB ⊢
  have HS' : Hid ((h.write T xs).s = bkA T h.s (h.r ++ xs)) := rfl
  have HR' : Hid ((h.write T xs).r = bkR (h.r ++ xs)) := rfl
  obtain ⟨S', hS'⟩ : ∃ S', bkA T h.s (h.r ++ xs) = S' := ⟨_, rfl⟩
  unfold BlocksPost at KB
  rw [hS'] at KB HLS HS'
  have hs8' : (Try.prog.info? 39).map (·.size) = some (ints .u32 S').toArray.size := by rw [ints_size, HLS.out]; exact size_8
  have HS8' := hide hs8'
  have hz8 : zero8.size = (ints .u32 S').toArray.size := by rw [ints_size, HLS.out]; rfl
  have HZ8 := hide hz8
  have HRG := hide (hashV_range HB2.out HK.out.len)
  clear hO2 e3 hf2 hs8 hn3 hS' hlS hs8' hz8 HB1 HZ1
  go_wp2_with (first
    | (refine wpList_load_mid rfl 39 (.tmp 25) rfl w.heap.size 0 rfl (ints .u32 h.s) _ HRG.out Try.underlying39 rfl HS8.out ?_)
    | (go_at_call 63; refine KB.out.mono ?_; rintro e w3 ⟨v3, rfl, hY3, hf3⟩; have HN3 := hide (Blk.new w3 39 zero8); obtain ⟨A4, c4, e4, -⟩ := id hY3; have HY3 := hide hY3; rw [e4] at HY3 ⊢; have HF3 := hide hf3; clear hf3 hY3 e4)
    | (refine wpList_store_row rfl 39 (.tmp 8) (.tmp 29) rfl w3.heap.size _ rfl rfl 39 _ HN3.out HS8'.out HZ8.out (ints_one _ _) ?_))
  obtain ⟨n4, hn4⟩ : ∃ n4, (bkR (h.r ++ xs)).length = n4 := ⟨_, rfl⟩
  have hl4 : n4 < 64 := by rw [← hn4, bkR_length]; omega
  rw [hn4] at HY3 ⊢
  have HN4 := hide hn4
  clear hn4
  have h23 := HF3.out.size
  have hB5 : Blk ((w3.alloc (.cells zero8 39)).setRow w3.heap.size (ints .u32 S').toArray) w.heap.size 96 (hashV h (.slice A1 n1 c1)) := ((HB2.out.frm HF3.out (fun e => e)).alloc _).setRow_far _ (by omega)
  have hZ5 : Blk ((w3.alloc (.cells zero8 39)).setRow w3.heap.size (ints .u32 S').toArray) (w.heap.size + 1) 96 zero10 := ((HZ2.out.frm HF3.out (fun e => e)).alloc _).setRow_far _ (by omega)
  have hS5 : Blk ((w3.alloc (.cells zero8 39)).setRow w3.heap.size (ints .u32 S').toArray) w3.heap.size 39 (ints .u32 S').toArray := HN3.out.setRow _
  have hf5 : Frm NoB w3 ((w3.alloc (.cells zero8 39)).setRow w3.heap.size (ints .u32 S').toArray) := ((Frm.refl NoB w3).alloc _).setRow (.inr (Nat.le_refl _)) _
  have hF5 : Frm NoB w ((w3.alloc (.cells zero8 39)).setRow w3.heap.size (ints .u32 S').toArray) := HF2.out.trans (HF3.out.trans hf5)
  have hY5 := HY3.out.frm0 (HF3.out.trans hf5)
  obtain ⟨W5, hW5⟩ : ∃ W5, (w3.alloc (.cells zero8 39)).setRow w3.heap.size (ints .u32 S').toArray = W5 := ⟨_, rfl⟩
  show Code.wp _ _ _ _ ((w3.alloc (.cells zero8 39)).setRow w3.heap.size (ints .u32 S').toArray)
  rw [hW5] at hB5 hZ5 hS5 hF5 hY5 ⊢
  have HB5 := hide hB5
  have HZ5 := hide hZ5
  have HF5 := hide hF5
  have HY5 := hide hY5
  have hne3 : w3.heap.size ≠ w.heap.size + 1 := by omega
  have hne0 : w.heap.size ≠ w.heap.size + 1 := by omega
  have e8 := eight HLS.out
  generalize S'.getD 0 0 = y0 at e8
  generalize S'.getD 1 0 = y1 at e8
  generalize S'.getD 2 0 = y2 at e8
  generalize S'.getD 3 0 = y3 at e8
  generalize S'.getD 4 0 = y4 at e8
  generalize S'.getD 5 0 = y5 at e8
  generalize S'.getD 6 0 = y6 at e8
  generalize S'.getD 7 0 = y7 at e8
  have HS5 : Hid (∀ W, Frm (One (w.heap.size + 1)) W5 W → W.rangeAt w3.heap.size 0 [.int .u32 y0, .int .u32 y1, .int .u32 y2, .int .u32 y3, .int .u32 y4, .int .u32 y5, .int .u32 y6, .int .u32 y7]) := fun W hf i v hi => by
    rw [Nat.zero_add, (hS5.frm hf hne3).cell i, e8]
    simpa [ints] using hi
  have HS6 : Hid ((h.write T xs).s = [y0, y1, y2, y3, y4, y5, y6, y7]) := by show _ = _; rw [HS'.out, e8]
  have HC9 : Hid (∀ W, Frm (One (w.heap.size + 1)) W5 W → W.cell? ⟨w.heap.size, 9, none⟩ = some (.int .i64 h.n)) := fun W hf => ((HB5.out.frm hf hne0).cell 9).trans HR9.out
  have hsz8 : (Try.prog.info? 39).map (·.size) = some ([.int .u32 y0, .int .u32 y1, .int .u32 y2, .int .u32 y3, .int .u32 y4, .int .u32 y5, .int .u32 y6, .int .u32 y7] : List Value).length := size_8
  have HSZ8 := hide hsz8
  clear hB5 hZ5 hS5 hF5 hY5 hf5 hW5 e8 HS' HN3 HY3 HB2 HZ2 HY2 KB HRG hsz8 HS8 HS8' HZ8 HLS
  have i9 : IntKind.i64.wrap ((h.n : Int) + (n2 : Int)) = (h.n : Int) + (n2 : Int) := IntWalk.i64_in _ (by omega)
  refine region_perm [(0, 0), (1, 0), (3, 0), (4, 0), (5, 0), (6, 0), (7, 0), (2, 2), (8, 0), (9, 3)] 9 (fun W => Frm (One (w.heap.size + 1)) W5 W) (fun W => Frm NoB W5 W) (by kernel_rfl) (by kernel_rfl) rfl (by kernel_rfl) ((Frm.refl _ _).drew) ((Frm.refl _ _).drew) ?_
  refine mixP_takeY (.agg #[.int .u32 y0, .int .u32 y1, .int .u32 y2, .int .u32 y3, .int .u32 y4, .int .u32 y5, .int .u32 y6, .int .u32 y7]) rfl (yieldsIf_load_mid (by rfl) 39 (.tmp 8) rfl w3.heap.size 0 rfl [.int .u32 y0, .int .u32 y1, .int .u32 y2, .int .u32 y3, .int .u32 y4, .int .u32 y5, .int .u32 y6, .int .u32 y7] _ (fun W hS => HS5.out W hS) Try.underlying39 rfl HSZ8.out) ?_
  try simp only [Act.put, List.setIfInBounds_toArray, List.set_cons_zero, List.set_cons_succ]
  refine mixP_take ?_ rfl (by rfl) (fun w0 hS => ?_) ?_
  rotate_left
  · go_simp
    try with_reducible rfl
  try simp only [Act.put, List.setIfInBounds_toArray, List.set_cons_zero, List.set_cons_succ]
  refine mixP_take ?_ rfl (by rfl) (fun w0 hS => ?_) ?_
  rotate_left
  · go_simp
    try with_reducible rfl
  try simp only [Act.put, List.setIfInBounds_toArray, List.set_cons_zero, List.set_cons_succ]
  refine mixP_take ?_ rfl (by rfl) (fun w0 hS => ?_) ?_
  rotate_left
  · have e9 := HC9.out w0 hS
    go_simp
    try with_reducible rfl
  try simp only [Act.put, List.setIfInBounds_toArray, List.set_cons_zero, List.set_cons_succ]
  refine mixP_take ?_ rfl (by rfl) (fun w0 hS => ?_) ?_
  rotate_left
  · go_simp
    try with_reducible rfl
  try simp only [Act.put, List.setIfInBounds_toArray, List.set_cons_zero, List.set_cons_succ]
  refine mixP_take ?_ rfl (by rfl) (fun w0 hS => ?_) ?_
  rotate_left
  · go_simp
    try with_reducible rfl
  try simp only [Act.put, List.setIfInBounds_toArray, List.set_cons_zero, List.set_cons_succ]
  refine mixP_take ?_ rfl (by rfl) (fun w0 hS => ?_) ?_
  rotate_left
  · go_simp
    try with_reducible rfl
  try simp only [Act.put, List.setIfInBounds_toArray, List.set_cons_zero, List.set_cons_succ]
  refine mixP_alone rfl (by rfl) (fun K hK => ?_)
  go_simp
  go_at_call 66
  refine (clone8_is (HY5.out.frm0 (Frm.refl NoB W5).drew) (by rw [HN4.out]; omega)).mono ?_
  rintro e w6 ⟨v6, rfl, hO6, hf6⟩
  have hY6 := hO6.by_
  obtain ⟨A6, c6, rfl, -⟩ := id hO6.by_
  obtain ⟨n6, hn6⟩ : ∃ n6, (bkR (h.r ++ xs)).length = n6 := ⟨_, rfl⟩
  rw [hn6] at hY6 ⊢
  have HY6 := hide hY6
  have HLO : Hid (∀ k, RowB (.slice A6 n6 c6) k → W5.heap.size ≤ k) := fun k hk => (hO6.lo (by rw [hn6]; exact hk)).1
  clear hO6 hn6 hY6
  have hf7 : Frm NoB W5 w6 := (Frm.refl NoB W5).drew.trans hf6
  show K _ w6
  refine hK _ _ (hf7.mono (fun _ _ e => e.elim)) hf7 ?_
  clear hK K
  try simp only [Act.put, List.setIfInBounds_toArray, List.set_cons_zero, List.set_cons_succ]
  refine mixP_take ?_ rfl (by rfl) (fun w0 hS => ?_) ?_
  rotate_left
  · go_simp
    try with_reducible rfl
  try simp only [Act.put, List.setIfInBounds_toArray, List.set_cons_zero, List.set_cons_succ]
  refine mixP_store rfl (by rfl) (fun K hK => ?_)
  refine wp_store_row 96 (.tmp 6) (.tmp 39) rfl (w.heap.size + 1) (hashC y0 y1 y2 y3 y4 y5 y6 y7 (.slice A6 n6 c6) ((h.n : Int) + (n2 : Int))) rfl rfl 96 zero10 (HZ5.out.frm hf7 (fun e => e)) hasher_size rfl (hashC_one _ _ _ _ _ _ _ _ _ _ _ _) ?_
  refine hK _ _ (((hf7.mono (fun _ _ e => e.elim)) : Frm (One (w.heap.size + 1)) W5 w6).setRow (.inl rfl) _) ?_
  clear hK K
  refine mixP_nil ?_
  refine NoPanic.normal ?_
  try simp only [Act.put, List.setIfInBounds_toArray, List.set_cons_zero, List.set_cons_succ]
  have hR7 : Blk (w6.setRow (w.heap.size + 1) (hashC y0 y1 y2 y3 y4 y5 y6 y7 (.slice A6 n6 c6) ((h.n : Int) + (n2 : Int)))) (w.heap.size + 1) 96 (hashC y0 y1 y2 y3 y4 y5 y6 y7 (.slice A6 n6 c6) ((h.n : Int) + (n2 : Int))) := (HZ5.out.frm hf7 (fun e => e)).setRow _
  have hf8 : Frm NoB w (w6.setRow (w.heap.size + 1) (hashC y0 y1 y2 y3 y4 y5 y6 y7 (.slice A6 n6 c6) ((h.n : Int) + (n2 : Int)))) := (HF5.out.trans hf7).setRow (.inr (by omega)) _
  have HR7 := hide hR7
  have HF8 := hide hf8
  clear hR7 hf8
  go_wp2
  refine bodyPost_ret (results_cell_row rfl _ _ (w.heap.size + 1) 96 _ (0, 0) _ rfl HR7.out Try.underlying96 rfl hasher_size) rfl ⟨.slice A6 n6 c6, ?_, ?_, HF8.out⟩
  · unfold hashV
    rw [HS6.out]
    have e : ((h.write T xs).n : Int) = (h.n : Int) + (n2 : Int) := by
      show ((h.n + xs.length : Nat) : Int) = _
      rw [HN2.out]; omega
    rw [e]
    rfl
  · rw [HR'.out]
    exact HY6.out.frm1 ((Frm.refl (One (w.heap.size + 1)) w6).setRow (.inl rfl) _) (fun hne k hk e => by have h1 := HLO.out k hk; have h2 := HZ5.out.lt; have e : k = w.heap.size + 1 := e; omega)
end Go.Proofs.Ytmahaihcmmmhbaa
