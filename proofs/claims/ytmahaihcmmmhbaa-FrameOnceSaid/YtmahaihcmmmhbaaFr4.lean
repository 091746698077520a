/-
  frame.text.
-/
import Derived.Test.YtmahaihcmmmhbaaMc3
import Derived.Test.YtmahaihcmmmhbaaFr2
import Derived.Test.YtmahaihcmmmhbaaFr3
namespace Go.Proofs.Ytmahaihcmmmhbaa
open Go.RowKit
/-- a frame's text -/
def txP (k s q : Nat) (body : List Int) : List Int := uvs [k, s, q] ++ (uv body.length ++ body)
theorem txP_len (k s q : Nat) (body : List Int) : (txP k s q body).length ≤ body.length + 50 := by
  unfold txP
  have h1 := uvs_len [k, s, q]
  have h2 := uv_length body.length
  have h3 := dg_le body.length
  rw [List.length_append, List.length_append]
  simp only [List.length_cons, List.length_nil] at h1
  omega
def frameC (k s q : Int) (body : Value) : Array Value := #[.int .u8 k, .int .i64 s, .int .i64 q, body]
theorem frame_size : (Try.prog.info? 35).map (·.size) = some 4 := by kernel_rfl
theorem by_rlt {w : World} {v : Value} {xs : List Int} (h : By w v xs) (hne : xs ≠ []) {k : Nat} (hk : RowB v k) : k < w.heap.size := by
  obtain ⟨A, c, rfl, hr, -⟩ := h
  obtain ⟨b, o, rfl, hc⟩ := hr (ints_ne hne)
  have hlt : 0 < xs.length := List.length_pos_iff.2 hne
  have := World.block_lt_of_cell? w _ (hc 0 _ (ints_get hlt))
  have e : some b = some k := hk
  injection e with e
  subst e; exact this
def TxPost (w : World) (k s q : Nat) (body : List Int) (e : Ending) (w' : World) : Prop := ∃ v', e = .returned v' ∧ Ob w' w.heap.size v' (txP k s q body) ∧ Frm NoB w w'
set_option maxRecDepth 100000 in
set_option maxHeartbeats 2000000 in
theorem text_is (k s q : Nat) (body : List Int) (v : Value) (w : World) (hy : By w v body) (hl : body.length ≤ 16000000) (hk : k < 256) (hs : s < 9223372036854775808) (hq : q < 9223372036854775808) :
    Calls Try.prog 25 #[.agg (frameC k s q v)] w (TxPost w k s q body) := by
  have hB : Blk (w.alloc (.cells (frameC k s q v) 35)) w.heap.size 35 (frameC k s q v) := Blk.new w _ _
  have hf1 : Frm NoB w (w.alloc (.cells (frameC k s q v) 35)) := (Frm.refl NoB w).alloc _
  have HY := hide (hy.frm0 hf1)
  obtain ⟨A, c, rfl, -⟩ := hy
  obtain ⟨n, hn⟩ : ∃ n, body.length = n := ⟨_, rfl⟩
  rw [hn] at hB hf1 HY hl ⊢
  have HN := hide hn
  go_enter Try.func25, Try.ntmps25
  go_wp2_with fail
  generalize w.alloc (.cells (frameC k s q (.slice A n c)) 35) = w1 at *
  have HC0 : Hid (∀ W, Frm NoB w1 W → W.cell? ⟨w.heap.size, 0, none⟩ = some (.int .u8 k)) := fun W hf => (hB.frm hf (fun e => e)).cell 0
  have HC1 : Hid (∀ W, Frm NoB w1 W → W.cell? ⟨w.heap.size, 1, none⟩ = some (.int .i64 s)) := fun W hf => (hB.frm hf (fun e => e)).cell 1
  have HC2 : Hid (∀ W, Frm NoB w1 W → W.cell? ⟨w.heap.size, 2, none⟩ = some (.int .i64 q)) := fun W hf => (hB.frm hf (fun e => e)).cell 2
  have HC3 : Hid (∀ W, Frm NoB w1 W → W.cell? ⟨w.heap.size, 3, none⟩ = some (.slice A n c)) := fun W hf => (hB.frm hf (fun e => e)).cell 3
  have HF1 := hide hf1
  have wk : IntKind.i64.wrap (k : Int) = (k : Int) := IntWalk.i64_in _ (by omega)
  clear hB hf1 hn
  refine region_perm [(0, 0), (1, 0), (2, 0), (3, 0), (4, 0), (5, 0), (6, 0), (9, 0), (10, 0), (7, 2), (8, 2), (11, 2), (12, 0)] 99 (fun W => Frm NoB w1 W) (fun _ => True) (by kernel_rfl) (by kernel_rfl) rfl (by kernel_rfl) ((Frm.refl _ _).drew) trivial ?_
  refine mixP_take ?_ rfl (by rfl) (fun w0 hS => ?_) ?_
  rotate_left
  · go_simp
    try with_reducible rfl
  try simp only [Act.put, List.setIfInBounds_toArray, List.set_cons_zero, List.set_cons_succ]
  refine mixP_take ?_ rfl (by rfl) (fun w0 hS => ?_) ?_
  rotate_left
  · have e9 := HC0.out w0 hS
    go_simp
    try with_reducible rfl
  try simp only [Act.put, List.setIfInBounds_toArray, List.set_cons_zero, List.set_cons_succ]
  refine mixP_take ?_ rfl (by rfl) (fun w0 hS => ?_) ?_
  rotate_left
  · go_simp
    try with_reducible rfl
  try simp only [Act.put, List.setIfInBounds_toArray, List.set_cons_zero, List.set_cons_succ]
  refine mixP_take ?_ rfl (by rfl) (fun w0 hS => ?_) ?_
  rotate_left
  · go_simp
    try with_reducible rfl
  try simp only [Act.put, List.setIfInBounds_toArray, List.set_cons_zero, List.set_cons_succ]
  refine mixP_take ?_ rfl (by rfl) (fun w0 hS => ?_) ?_
  rotate_left
  · have e9 := HC1.out w0 hS
    go_simp
    try with_reducible rfl
  try simp only [Act.put, List.setIfInBounds_toArray, List.set_cons_zero, List.set_cons_succ]
  refine mixP_take ?_ rfl (by rfl) (fun w0 hS => ?_) ?_
  rotate_left
  · go_simp
    try with_reducible rfl
  try simp only [Act.put, List.setIfInBounds_toArray, List.set_cons_zero, List.set_cons_succ]
  refine mixP_take ?_ rfl (by rfl) (fun w0 hS => ?_) ?_
  rotate_left
  · have e9 := HC2.out w0 hS
    go_simp
    try with_reducible rfl
  try simp only [Act.put, List.setIfInBounds_toArray, List.set_cons_zero, List.set_cons_succ]
  refine mixP_take ?_ rfl (by rfl) (fun w0 hS => ?_) ?_
  rotate_left
  · go_simp
    try with_reducible rfl
  try simp only [Act.put, List.setIfInBounds_toArray, List.set_cons_zero, List.set_cons_succ]
  refine mixP_take ?_ rfl (by rfl) (fun w0 hS => ?_) ?_
  rotate_left
  · have e9 := HC3.out w0 hS
    go_simp
    try with_reducible rfl
  try simp only [Act.put, List.setIfInBounds_toArray, List.set_cons_zero, List.set_cons_succ]
  refine mixP_alone rfl (by rfl) (fun K hK => ?_)
  go_simp
  have hB2 : Blk (w1.alloc (.cells #[.int .i64 k, .int .i64 s, .int .i64 q] 3)).drew w1.heap.size 3 #[.int .i64 k, .int .i64 s, .int .i64 q] := (Blk.new w1 _ _).drew
  have hF2 : Frm NoB w1 (w1.alloc (.cells #[.int .i64 k, .int .i64 s, .int .i64 q] 3)).drew := ((Frm.refl NoB w1).alloc _).drew
  refine hK _ _ hF2 trivial ?_
  clear hK K
  try simp only [Act.put, List.setIfInBounds_toArray, List.set_cons_zero, List.set_cons_succ]
  generalize (w1.alloc (.cells #[.int .i64 k, .int .i64 s, .int .i64 q] 3)).drew = w2 at *
  have hrd : Rd w2 (some ⟨w1.heap.size, 0, none⟩) (ints .i64 (nats [k, s, q])) := fun _ => ⟨w1.heap.size, 0, rfl, fun i v hv => by
    rw [Nat.zero_add, hB2.cell i]
    match i, hv with
    | 0, hv => exact hv
    | 1, hv => exact hv
    | 2, hv => exact hv
    | i + 3, hv => simp [ints, nats] at hv⟩
  have KU := hide (uints_is w2 (some ⟨w1.heap.size, 0, none⟩) 3 3 [k, s, q] rfl hrd (by simp; omega) (by decide))
  have HF2 := hide hF2
  clear hrd hB2 hF2
  refine mixP_alone rfl (by rfl) (fun K hK => ?_)
  go_simp
  go_at_call 41
  refine KU.out.mono ?_
  rintro e w3 ⟨v3, rfl, hO3, hf3⟩
  have HO3 := hide hO3
  have HF3 : Hid (Frm NoB w1 w3) := HF2.out.trans hf3
  have HG3 := hide hf3
  show K _ w3
  refine hK _ _ HF3.out trivial ?_
  clear hK K hO3 hf3 KU
  try simp only [Act.put, List.setIfInBounds_toArray, List.set_cons_zero, List.set_cons_succ]
  have hd : body ≠ [] → ∀ i, RowB (.slice A n c) i → ¬ RowB v3 i := fun hne i hi hj => by
    have h1 := by_rlt HY.out hne hi
    have h2 := (HO3.out.lo hj).1
    have h3 := HF2.out.size
    omega
  have KB := hide (bblob_is HO3.out (HY.out.frm0 HF3.out) hd (by rw [HN.out]; have := uvs_len [k, s, q]; simp only [List.length_cons, List.length_nil] at this; omega) HG3.out.size)
  clear hd
  refine mixP_alone rfl (by rfl) (fun K hK => ?_)
  go_simp
  go_at_call 40
  refine KB.out.mono ?_
  rintro e w4 ⟨v4, rfl, hG⟩
  have HF4 : Hid (Frm NoB w1 w4) := HF3.out.then_ hG.f (fun i hi hk => by
    have h2 := (HO3.out.lo hk).1
    have h3 := HF2.out.size
    omega)
  have HO4 := hide hG.o
  show K _ w4
  refine hK _ _ HF4.out trivial ?_
  clear hK K hG KB
  try simp only [Act.put, List.setIfInBounds_toArray, List.set_cons_zero, List.set_cons_succ]
  refine mixP_take ?_ rfl (by rfl) (fun w0 hS => ?_) ?_
  rotate_left
  · go_simp
    try with_reducible rfl
  try simp only [Act.put, List.setIfInBounds_toArray, List.set_cons_zero, List.set_cons_succ]
  refine mixP_nil ?_
  refine NoPanic.normal ?_
  go_wp2
  go_ret
  have h2 := HF2.out.size
  have h1 := HF1.out.size
  exact ⟨_, rfl, HO4.out.lower (by omega), HF1.out.trans HF4.out⟩
end Go.Proofs.Ytmahaihcmmmhbaa
