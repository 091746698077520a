/-
  A fall as an argument: how it lies in memory; what it does to a tally.
-/
import Derived.Test.YtmeegehmbphooaaTalOwn
import Derived.Test.YtmeegehmbphooaaTalF
import Derived.Test.YtmeegehmbphooaaArgs
import Derived.Test.YtmeegehmbphooaaOpenRows
namespace Go.Proofs.Ytmeegehmbphooaa
open Go.RowKit
structure FalS where
  ahead : Int
  arm : Int
  keeps : List Bool
structure FalIs (w : World) (B : Nat) (o : FalS) (AK : Option Addr) (cK : Nat) : Prop where
  rk : Rd w AK (bools o.keeps)
  bk : o.keeps ≠ [] → ∀ a, AK = some a → a.block < B
  a0 : 0 ≤ o.ahead
  a1 : o.ahead < 65536
  m0 : 0 ≤ o.arm
  m1 : o.arm < 256
  kl : (o.keeps.length : Int) ≤ 9223372036854775807
theorem FalIs.frm {S : Nat → Prop} {w w' : World} {B : Nat} {o : FalS} {AK : Option Addr} {cK : Nat} (h : FalIs w B o AK cK) (hf : Frm S w w') (hs : ∀ k, k < B → ¬ S k) : FalIs w' B o AK cK :=
  ⟨by
    by_cases e : o.keeps = []
    · rw [e]; exact Rd.nil _ _
    · exact h.rk.frm hf (fun a ha => hs _ (h.bk e a ha)), h.bk, h.a0, h.a1, h.m0, h.m1, h.kl⟩
structure FalsAt (w : World) (B : Nat) (A : Option Addr) (fs : List FalS) : Prop where
  at_ : ∀ i (h : i < fs.length), ∃ b x AK cK, A = some ⟨b, x, none⟩ ∧ b < B ∧ FalIs w B (fs[i]'h) AK cK ∧
    w.cell? ⟨b, x + i * 3, none⟩ = some (.int .u16 (fs[i]'h).ahead) ∧ w.cell? ⟨b, x + i * 3 + 1, none⟩ = some (.int .u8 (fs[i]'h).arm) ∧ w.cell? ⟨b, x + i * 3 + 2, none⟩ = some (.slice AK (fs[i]'h).keeps.length cK)
theorem FalsAt.frm {S : Nat → Prop} {w w' : World} {B : Nat} {A : Option Addr} {fs : List FalS} (h : FalsAt w B A fs) (hf : Frm S w w') (hs : ∀ k, k < B → ¬ S k) : FalsAt w' B A fs := by
  refine ⟨fun i hi => ?_⟩
  obtain ⟨b, x, AK, cK, rfl, hb, h0, h1, h2, h3⟩ := h.at_ i hi
  have hc : ∀ {n : Nat} {v : Value}, w.cell? ⟨b, n, none⟩ = some v → w'.cell? ⟨b, n, none⟩ = some v := fun {n v} hv => by
    rw [hf.cell (World.block_lt_of_cell? w _ hv) (show ¬ S b from hs b hb)]; exact hv
  exact ⟨b, x, AK, cK, rfl, hb, h0.frm hf hs, hc h1, hc h2, hc h3⟩
section
variable {w0 w w' : World} {p q c gd g : Nat} {d : DrvS} {s : NorS}
theorem arms_n (k : Int) : (s.arms k).n = s.n := by unfold NorS.arms; split <;> rfl
theorem ownt_arm (k : Int) (h : OwnT w0 w p q c gd g d s) (hk : k ≤ 9223372036854775807) :
    Calls Try.prog 19 #[.pointer (some ⟨p, 0, none⟩), .int .i64 k] w fun e w' => e = .returned (.tuple #[]) ∧ OwnT w0 w' p q c gd g d (s.arms k) := by
  refine (arm_is k h.o.n hk).mono ?_
  rintro e w' ⟨rfl, hn, hf⟩
  have hne := h.dr.ne h.o.n
  refine ⟨rfl, h.o.step hn hf, h.dr.frm hf (fun e => e.elim hne.1 hne.2), ?_, h.g0, ⟨h.dk.m, by rw [arms_n]; exact h.dk.n⟩, h.m⟩
  unfold TalIn
  rw [DrvS.arms_fn]
  exact TalAt.frm h.t hf (h.t.two h.o.n)
theorem ownt_fall (h : OwnT w0 w p q c gd g d s) :
    Calls Try.prog 10 #[.pointer (some ⟨g, 0, none⟩)] w fun e w' => e = .returned (.int .i64 (d.stp s).2) ∧ Own w0 w' p q c (d.stp s).1 ∧ DrvAt w' gd p d := by
  refine (tstep_is h.t h.dr h.o.n h.dk h.m).mono ?_
  rintro e w' ⟨rfl, hN, -, -, hF⟩
  exact ⟨rfl, ⟨hN, h.o.tri hF h.g0, h.o.p0, h.o.q0⟩, h.dr.frm hF (h.dr.tri h.o.n h.t)⟩
theorem owndr_crash (A : Option Addr) (cp : Nat) (ks : List Bool) (h : Own w0 w p q c s) (hd : DrvAt w gd p d) (hx : Rd w A (bools ks)) (hA : ks ≠ [] → ∀ a, A = some a → a.block < w0.heap.size) (hm : (ks.length : Int) ≤ 9223372036854775807) :
    Calls Try.prog 20 #[.pointer (some ⟨p, 0, none⟩), .slice A ks.length cp] w fun e w' => e = .returned (.tuple #[]) ∧ Own w0 w' p q c (s.crash ks) ∧ DrvAt w' gd p d := by
  have h1 := h.p0; have h2 := h.q0
  have hne := hd.ne h.n
  refine (crash_is A cp ks h.n hx (fun hne a ha e => ?_) hm).mono ?_
  · have := hA hne a ha
    rcases e with e | e <;> omega
  · rintro e w' ⟨rfl, hn, hf⟩
    exact ⟨rfl, h.step hn hf, hd.frm hf (fun e => e.elim hne.1 hne.2)⟩
end
/-- the flash, and the drive, of the statement -/
def tr0 : NorS := NorS.new 2 2
def tR : DrvS := ⟨0, 2⟩
theorem tR_ok : tR.Ok tr0 := ⟨by decide, by decide⟩
theorem tr0_ok : tr0.Ok := by
  refine ⟨by show (List.replicate (64 * 2) _).length = _; rw [List.length_replicate]; rfl, by decide, by decide, by decide, by decide, by decide, by decide, by decide, by decide, fun x hx => ?_⟩
  have hx : x ∈ List.replicate (64 * 2) (4294967295 : Int) := hx
  rw [List.eq_of_mem_replicate hx]; omega
theorem tr0_fn (i : Nat) (h : i < 128) : tR.fn tr0 i = 4294967295 := by
  show tr0.wd (0 * 64 + i) = _
  unfold NorS.wd
  rw [show tr0.l = List.replicate (64 * 2) 4294967295 from rfl, List.getD_eq_getElem?_getD, List.getElem?_replicate, if_pos (by omega)]; rfl
structure RInv (s : NorS) (cn : Int) : Prop where
  c : DrvS.Calm s
  h : s.half = -1
  b : DrvS.Based (tR.fn s)
  l : (look (tR.fn s)).2 = cn
  m : cn ≤ 2147483648
  z : 0 ≤ cn
  ok : s.Ok
  dk : tR.Ok s
theorem rinv0 : RInv tr0 0 := by
  refine ⟨⟨rfl, rfl⟩, rfl, ⟨by rw [tr0_fn 0 (by omega)]; decide, by rw [tr0_fn 64 (by omega)]; decide⟩, ?_, by decide, by decide, tr0_ok, tR_ok⟩
  have h0 : cntOk (tR.fn tr0) 0 = false := by unfold cntOk; rw [tr0_fn 0 (by omega)]; rfl
  have h1 : cntOk (tR.fn tr0) 64 = false := by unfold cntOk; rw [tr0_fn 64 (by omega)]; rfl
  unfold look
  rw [h0, h1]; rfl
theorem rinvB {b : Int} (h1 : 0 < b) (h2 : b < 2147483648) : tR.wrE tr0 0 [b, 4294967295 - b] = 0 ∧ RInv (tR.wr tr0 0 [b, 4294967295 - b]) b := by
  have hC : DrvS.Calm tr0 := ⟨rfl, rfl⟩
  have key := DrvS.calm_wr hC tr0_ok tR_ok (a := 0) (l := [b, 4294967295 - b]) (by simp only [List.length_cons, List.length_nil]; decide) (fun i hi => by
    simp only [List.length_cons, List.length_nil] at hi
    have e : tr0.wd (tR.base + 0 + i) = 4294967295 := by
      have := tr0_fn i (by omega)
      rw [Nat.add_zero]; exact this
    rw [e]
    rcases (by omega : i = 0 ∨ i = 1) with rfl | rfl
    · exact wand_full (show 0 ≤ b by omega) (by show b < _; omega)
    · exact wand_full (show 0 ≤ 4294967295 - b by omega) (by show 4294967295 - b < _; omega))
  have hok := DrvS.wr_ok tr0_ok tR_ok key.1
  have hO := key.2.2.2.1
  have hE := key.1
  have hCC := key.2.1
  have hn := key.2.2.1
  clear key
  refine ⟨hE, ?_⟩
  have hf := hok.2.2.2.2.2
  have hh := hok.2.2.2.2.1
  show RInv (tR.wr tr0 ((0 : Nat) : Int) [b, 4294967295 - b]) b
  generalize tR.wr tr0 ((0 : Nat) : Int) [b, 4294967295 - b] = s at hCC hn hO hf hh
  have f0 : tR.fn s 0 = b := by rw [hf]; rfl
  have f1 : tR.fn s 1 = 4294967295 - b := by rw [hf]; rfl
  have fr : ∀ i, 2 ≤ i → i < 128 → tR.fn s i = 4294967295 := fun i hi1 hi2 => by
    rw [hf]
    unfold laidF
    rw [if_neg (by simp only [List.length_cons, List.length_nil]; omega)]
    exact tr0_fn i hi2
  refine ⟨hCC, hh, ⟨by rw [f0]; omega, by rw [fr 64 (by omega) (by omega)]; decide⟩, ?_, by omega, by omega, hO, ⟨by decide, by rw [hn]; decide⟩⟩
  have h0 : cntOk (tR.fn s) 0 = true := by unfold cntOk; rw [f0, Nat.zero_add, f1]; exact decide_eq_true ⟨by omega, rfl⟩
  have h1 : cntOk (tR.fn s) 64 = false := by unfold cntOk; rw [fr 64 (by omega) (by omega)]; rfl
  have hz : zsum (tR.fn s) 0 62 = 0 := zsum_ones 62 (fun i hi => fr _ (by omega) (by omega))
  unfold look
  rw [h0, h1, if_pos rfl, if_neg (fun h => by cases h.1)]
  show cntN (tR.fn s) 0 = b
  unfold cntN
  rw [hz, f0]; simp
theorem RInv.step {s : NorS} {c : Int} (h : RInv s c) (hc : c < 2147483648) : (tR.stp s).2 = 0 ∧ RInv (tR.stp s).1 (c + 1) := by
  have hl := h.l
  have hh := (DrvS.calm_stp h.c h.ok h.dk rfl (by omega)).2.2.1
  obtain ⟨h1, h2, h3⟩ := DrvS.calm_count h.c h.ok h.dk rfl (by omega)
  have hz := h.z
  exact ⟨h1, h2, by rw [hh]; exact h.h, DrvS.calm_based h.c h.ok h.dk rfl h.b (by omega), by rw [h3, hl], by omega, by omega, DrvS.stp_Ok h.ok, ⟨h.dk.m, by rw [DrvS.stp_n]; exact h.dk.n⟩⟩
theorem RInv.fall {s : NorS} {c : Int} (h : RInv s c) {m : Nat} (hm : m ≤ 4) (hok : (s.arms m).Ok) (ks : List Bool) (hok' : ((tR.stp (s.arms m)).1.crash ks).Ok) :
    ∃ c', RInv ((tR.stp (s.arms m)).1.crash ks) c' ∧ c ≤ c' ∧ c' ≤ c + 1 ∧ ((tR.stp (s.arms m)).2 = 0 → c' = c + 1) := by
  have hl := h.l
  have hcm := h.m
  have hz := h.z
  obtain ⟨h1, h2, h3, h4, h5⟩ := DrvS.fall h.c h.h h.ok h.dk rfl h.b (by omega) (m := m) (by omega) hok ks
  rw [hl] at h2 h3 h5
  refine ⟨_, ⟨DrvS.calm_crash _ _, rfl, h1, rfl, h4, by omega, hok', ⟨h.dk.m, ?_⟩⟩, h2, h3, h5⟩
  have e : ((tR.stp (s.arms m)).1.crash ks).n = s.n := by
    show (tR.stp (s.arms m)).1.n = s.n
    rw [DrvS.stp_n, arms_n]
  rw [e]; exact h.dk.n
end Go.Proofs.Ytmeegehmbphooaa
/-
  An argument of falls, opened.
-/
namespace Go.Proofs.Ytmeegehmbphooaa
open Go.ChangeShapes Go.WideShapes Go.ChangeAt Go.RowKit Go.Deep
section
variable {H : Type} {enc : TypeId × Value → H} {W : World}
theorem open_threeF {P : Program} {base : Nat} {spare : Nat → Bool} {held : Bool} {t : TypeId} {f0 f1 f2 : Field} {fuel : Nat} {cs : List Value} {x : DataW H × List MemPlace} (ht : P.underlying t = some (.struct #[f0, f1, f2])) (hone : oneCellFields P #[f0, f1, f2] = true) (hC : P.cellsOf t = 3)
    (h : DataW.trod enc P W base spare held fuel t cs = some x) :
    ∃ (v0 v1 v2 : Value) (n : Nat) (y0 y1 y2 : DataW H × List MemPlace), cs = [v0, v1, v2] ∧ DataW.trod enc P W base spare held n f0.type [v0] = some y0 ∧ DataW.trod enc P W base spare held n f1.type [v1] = some y1 ∧ DataW.trod enc P W base spare held n f2.type [v2] = some y2 := by
  obtain ⟨xs, n, _, _, hl, hx, hf⟩ := DataW.trod_struct ht h
  rw [hC] at hl
  match cs, hl with
  | [v0, v1, v2], _ =>
    match xs, hx with
    | [y0, y1, y2], _ =>
      obtain ⟨o0, k0⟩ := hone_of hone 0 f0 rfl
      obtain ⟨o1, k1⟩ := hone_of hone 1 f1 rfl
      obtain ⟨o2, k2⟩ := hone_of hone 2 f2 rfl
      exact ⟨v0, v1, v2, n, y0, y1, y2, rfl, by simpa [o0, k0] using hf 0 f0 rfl, by simpa [o1, k1] using hf 1 f1 rfl, by simpa [o2, k2] using hf 2 f2 rfl⟩
theorem fall_cells : Try.prog.cellsOf 55 = 3 := by kernel_rfl
theorem fall_one : ∃ f0 f1 f2, Try.prog.underlying 55 = some (.struct #[f0, f1, f2]) ∧ oneCellFields Try.prog #[f0, f1, f2] = true ∧ f0.type = 28 ∧ f1.type = 5 ∧ f2.type = 53 :=
  ⟨_, _, _, Try.underlying55, by kernel_rfl, by kernel_rfl, by kernel_rfl, by kernel_rfl⟩
/-- one fall -/
theorem open_fall {fuel : Nat} {cs : List Value} {x : DataW H × List MemPlace} (h : DataW.trod enc Try.prog W 0 (fun _ => true) true fuel 55 cs = some x) :
    ∃ (o : FalS) (AK : Option Addr) (cK : Nat), cs = [.int .u16 o.ahead, .int .u8 o.arm, .slice AK o.keeps.length cK] ∧ FalIs W W.heap.size o AK cK := by
  obtain ⟨f0, f1, f2, hu, hone, t0, t1, t2⟩ := fall_one
  obtain ⟨v0, v1, v2, n, y0, y1, y2, rfl, h0, h1, h2⟩ := open_threeF hu hone fall_cells h
  rw [t0] at h0; rw [t1] at h1; rw [t2] at h2
  obtain ⟨k, rfl, wk⟩ := open_one_int Try.underlying28 h0
  obtain ⟨s, rfl, ws⟩ := open_one_int Try.underlying5 h1
  obtain ⟨AK, cK, ks, rfl, rk, lk, km⟩ := open_brow Try.underlying53 Try.underlying4 bool_one h2
  have bk := bounds_u16 wk; have bs := bounds_u8 ws
  have hc2 := cap_i64 km
  exact ⟨⟨k, s, ks⟩, AK, cK, rfl, ⟨rk, fun hne => rk.below (bools_ne hne), by show 0 ≤ k; omega, by show k < _; omega, by show 0 ≤ s; omega, by show s < _; omega, by show (ks.length : Int) ≤ _; omega⟩⟩
/-- an argument of falls -/
theorem open_falls {A0 : Option Addr} {len0 cap0 : Nat} {d : DataW H} {p : List MemPlace} (h : DataW.Trod enc Try.prog W 0 (fun _ => true) true 47 (.slice A0 len0 cap0) d p) :
    ∃ (A : Option Addr) (c : Nat) (ops : List FalS), Value.slice A0 len0 cap0 = .slice A ops.length c ∧ FalsAt W W.heap.size A ops ∧ (ops.length : Int) ≤ 9223372036854775807 := by
  obtain ⟨fuel, hf⟩ := h
  rcases open_slice Try.underlying47 hf with ⟨hcs, _⟩ | ⟨a, len, cap, m, n, D, Pl, hcs, _, hl, hm, hmm, _, hi⟩
  · simp [Value.cells] at hcs
    exact ⟨none, 0, [], by simp [hcs], ⟨fun i hi => by simp at hi⟩, by simp⟩
  · simp only [if_true] at hmm
    subst hmm
    have hc := cap_i64 hm
    have hex : ∀ i, i < m → ∃ (o : FalS) (AK : Option Addr) (cK : Nat), FalIs W W.heap.size o AK cK ∧ ∀ j u, [Value.int .u16 o.ahead, .int .u8 o.arm, .slice AK o.keeps.length cK][j]? = some u → W.cell? ((a.add (i * 3)).add j) = some u := fun i him => by
      obtain ⟨cs', hcell, ht⟩ := hi i him
      rw [fall_cells] at hcell
      obtain ⟨o, AK, cK, rfl, ho⟩ := open_fall ht
      refine ⟨o, AK, cK, ho, fun j u hju => ?_⟩
      obtain ⟨_, hlen, hat⟩ := World.cells?_some hcell
      have hj : j < 3 := by
        have := (List.getElem?_eq_some_iff.1 hju).1
        simpa using this
      rw [hat j hj, hju]
    classical
    let F : Nat → FalS := fun i => if him : i < m then (hex i him).choose else ⟨0, 0, []⟩
    refine ⟨some a, m, (List.range len).map F, ?_, ⟨fun i hi' => ?_⟩, by simp; omega⟩
    · simp [Value.cells] at hcs
      simp [hcs]
    · have hil : i < len := by simpa using hi'
      have him : i < m := by omega
      have e : ((List.range len).map F)[i]'hi' = (hex i him).choose := by
        simp [F, him]
      obtain ⟨AK, cK, ho, hcells⟩ := (hex i him).choose_spec
      have h0 := hcells 0 _ rfl
      have hab : a = ⟨a.block, a.off, none⟩ := by
        obtain ⟨_, _, _, _, hc0⟩ := hex 0 (by omega)
        have h1 := hc0 0 _ rfl
        rw [show (a.add (0 * 3)).add 0 = a from by simp [Addr.add]] at h1
        obtain ⟨b, o, ha⟩ := spot_none h1
        rw [ha]
      have hadd : ∀ j, (a.add (i * 3)).add j = ⟨a.block, a.off + i * 3 + j, none⟩ := fun j => by
        rw [hab, addr_add, addr_add]
      refine ⟨a.block, a.off, AK, cK, by rw [← hab], ?_, by rw [e]; exact ho, ?_, ?_, ?_⟩
      · have := World.block_lt_of_cell? W _ h0
        rw [hadd] at this; exact this
      all_goals rw [e]
      · have := hcells 0 _ rfl; rw [hadd] at this; exact this
      · have := hcells 1 _ rfl; rw [hadd] at this; exact this
      · have := hcells 2 _ rfl; rw [hadd] at this; exact this
end
end Go.Proofs.Ytmeegehmbphooaa
