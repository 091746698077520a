/-
  A tally of a call's own; made, awake.
-/
import Derived.Test.YtmeegehmbphooaaTal9
import Derived.Test.YtmeegehmbphooaaTalR
import Derived.Test.YtmeegehmbphooaaDrvRd06
namespace Go.Proofs.Ytmeegehmbphooaa
open Go.RowKit
/-- a flash, a drive of it, and a tally, all of a call's own; the tally tells what the drive has -/
structure OwnT (w0 w : World) (p q c gd g : Nat) (d : DrvS) (s : NorS) : Prop where
  o : Own w0 w p q c s
  dr : DrvAt w gd p d
  t : TalIn w g gd d s
  g0 : w0.heap.size ≤ g
  dk : d.Ok s
  m : d.many = 2
section
variable {w0 w w' : World} {p q c gd g : Nat} {d : DrvS} {s : NorS}
theorem OwnT.frm (h : OwnT w0 w p q c gd g d s) (hf : Frm NoB w w') : OwnT w0 w' p q c gd g d s :=
  ⟨h.o.frm hf, h.dr.frm hf (fun e => e), TalAt.frm h.t hf (fun e => e), h.g0, h.dk, h.m⟩
theorem Own.tri (h : Own w0 w p q c s) (k : Frm (Tri p q g) w w') (hg : w0.heap.size ≤ g) : Frm NoB w0 w' :=
  h.f.then_ k (fun i hi e => by have := h.p0; have := h.q0; rcases e with e | e | e <;> omega)
theorem ownt_step (h : OwnT w0 w p q c gd g d s) (hz : (d.stp s).2 = 0) :
    Calls Try.prog 10 #[.pointer (some ⟨g, 0, none⟩)] w fun e w' => e = .returned (.int .i64 0) ∧ OwnT w0 w' p q c gd g d (d.stp s).1 ∧ Frm (Tri p q g) w w' := by
  refine (tstep_is h.t h.dr h.o.n h.dk h.m).mono ?_
  rintro e w' ⟨rfl, hN, hT, -, hF⟩
  refine ⟨by rw [hz], ⟨⟨hN, h.o.tri hF h.g0, h.o.p0, h.o.q0⟩, h.dr.frm hF (h.dr.tri h.o.n h.t), hT (.inl hz), h.g0, ⟨h.dk.m, by rw [DrvS.stp_n]; exact h.dk.n⟩, h.m⟩, hF⟩
theorem ownt_count (h : OwnT w0 w p q c gd g d s) :
    Calls Try.prog 13 #[.pointer (some ⟨g, 0, none⟩)] w fun e w' => e = .returned (.int .i64 (look (d.fn s)).2) ∧ w = w' := tcount_is h.t
theorem ownt_open (h : Own w0 w p q c s) (hd : DrvAt w gd p d) (hk : d.Ok s) (hm : d.many = 2) (hdn : s.down = false) :
    Calls Try.prog 12 #[.pointer (some ⟨gd, 0, none⟩)] w fun e w' => ∃ g, e = .returned (.tuple #[.pointer (some ⟨g, 0, none⟩), .int .i64 0]) ∧ OwnT w0 w' p q c gd g d s ∧ w.heap.size ≤ g ∧ Frm NoB w w' := by
  refine (topen_is hd h.n hk hm hdn).mono ?_
  rintro e w' ⟨g, rfl, hT, hg, hF⟩
  exact ⟨g, rfl, ⟨h.frm hF, hd.frm hF (fun e => e), hT, Nat.le_trans h.f.size hg, hk, hm⟩, hg, hF⟩
end
/-- the flash, and the drive, of made -/
def tm0 : NorS := NorS.new 3 0
def tmD : DrvS := ⟨1, 2⟩
theorem tmD_ok : tmD.Ok tm0 := ⟨by decide, by decide⟩
theorem tm0_ok : tm0.Ok := by
  refine ⟨by show (List.replicate (64 * 3) _).length = _; rw [List.length_replicate]; rfl, by decide, by decide, by decide, by decide, by decide, by decide, by decide, by decide, fun x hx => ?_⟩
  have hx : x ∈ List.replicate (64 * 3) (4294967295 : Int) := hx
  rw [List.eq_of_mem_replicate hx]; omega
theorem tm0_wd (i : Nat) (h : i < 192) : tm0.wd i = 4294967295 := by
  unfold NorS.wd
  rw [show tm0.l = List.replicate (64 * 3) 4294967295 from rfl, List.getD_eq_getElem?_getD, List.getElem?_replicate, if_pos h]; rfl
theorem tm0_fn (i : Nat) (h : i < 128) : tmD.fn tm0 i = 4294967295 := tm0_wd _ (by show 64 + i < 192; omega)
theorem tm0_calm : DrvS.Calm tm0 := ⟨rfl, rfl⟩
theorem tm0_look : look (tmD.fn tm0) = (-1, 0) := by
  have h0 : cntOk (tmD.fn tm0) 0 = false := by unfold cntOk; rw [tm0_fn 0 (by omega)]; rfl
  have h1 : cntOk (tmD.fn tm0) 64 = false := by unfold cntOk; rw [tm0_fn 64 (by omega)]; rfl
  unfold look
  rw [h0, h1]; rfl
def MadePost (w : World) (e : Ending) (w' : World) : Prop := ∃ p q c gd g, e = .returned (.tuple #[.pointer (some ⟨p, 0, none⟩), .pointer (some ⟨gd, 0, none⟩), .pointer (some ⟨g, 0, none⟩), .bool true]) ∧ OwnT w w' p q c gd g tmD tm0 ∧ w.heap.size ≤ gd
theorem made_is (w : World) : Calls Try.prog 9 #[] w (MadePost w) := by
  go_enter Try.func9, Try.ntmps9
  go_wp2_with fail
  refine (own_new 3 0 (Frm.refl NoB w) (by omega) (by omega) (by omega)).mono ?_
  rintro e w1 ⟨p, q, c, rfl, hN, hp, hq, hF⟩
  have HN : Hid (Own w w1 p q c tm0) := hN
  clear hN hp hq hF
  go_wp2_with fail
  refine (ownd_open 1 2 HN.out (by omega) (by decide)).mono ?_
  rintro e w2 ⟨gd, rfl, hG, hN, hg, hF⟩
  have HN2 : Hid (Own w w2 p q c tm0) := hN
  have HG2 : Hid (DrvAt w2 gd p tmD) := hG
  have hgd : w.heap.size ≤ gd := Nat.le_trans HN.out.f.size hg
  have HGD := hide hgd
  clear hG hN hg hF HN hgd
  go_wp2_with fail
  refine (ownt_open HN2.out HG2.out tmD_ok rfl rfl).mono ?_
  rintro e w3 ⟨g, rfl, hT, hg, hF⟩
  have HT := hide hT
  clear hT hg hF
  go_wp2
  exact bodyPost_ret (v := .tuple #[.pointer (some ⟨p, 0, none⟩), .pointer (some ⟨gd, 0, none⟩), .pointer (some ⟨g, 0, none⟩), .bool true]) (by simp [results, Try.results9, go_sem]) rfl ⟨p, q, c, gd, g, rfl, HT.out, HGD.out⟩
/-- the flash behind one step, and two -/
def tm1 : NorS := (tmD.stp tm0).1
def tm2 : NorS := (tmD.stp tm1).1
theorem tm1_facts : (tmD.stp tm0).2 = 0 ∧ DrvS.Calm tm1 ∧ look (tmD.fn tm1) = (0, 1) ∧ (∀ k, k < 128 → tmD.fn tm1 k = if k = 0 then 1 else if k = 1 then 4294967294 else 4294967295) := by
  have hc : (look (tmD.fn tm0)).2 < 2147483648 := by rw [tm0_look]; decide
  obtain ⟨h1, h2, -, h3⟩ := DrvS.calm_stp tm0_calm tm0_ok tmD_ok rfl hc
  have hT : DrvS.StpT tmD tm0 tm1 := by
    rcases h3 with ⟨o, r, ho, -⟩ | h3
    · rw [tm0_look] at ho; simp at ho
    · exact h3
  have hl := DrvS.stpT_look tm0_ok hc hT
  have hn : DrvS.nextS (tmD.fn tm0) = 0 := by unfold DrvS.nextS; rw [tm0_look]; rfl
  rw [hn, tm0_look] at hl
  refine ⟨h1, h2, hl, fun k hk => ?_⟩
  rw [hT.2 k, hn, tm0_look]
  unfold laidF
  simp only [List.length_cons, List.length_nil]
  rcases (by omega : k = 0 ∨ k = 1 ∨ 2 ≤ k) with rfl | rfl | h
  · rfl
  · rfl
  · rw [if_neg (by omega), if_neg (by omega), if_neg (by omega)]
    unfold onesTo
    split
    · rfl
    · exact tm0_fn k hk
theorem tm1_ok : tm1.Ok := DrvS.stp_Ok tm0_ok
theorem tmD_ok1 : tmD.Ok tm1 := ⟨by decide, by rw [show tm1.n = 3 from DrvS.stp_n]; decide⟩
theorem tm2_facts : (tmD.stp tm1).2 = 0 ∧ DrvS.Calm tm2 ∧ look (tmD.fn tm2) = (0, 2) ∧ tmD.fn tm2 2 = 2147483647 := by
  obtain ⟨-, hC, hl, hf⟩ := tm1_facts
  have hc : (look (tmD.fn tm1)).2 < 2147483648 := by rw [hl]; decide
  obtain ⟨h1, h2, -, h3⟩ := DrvS.calm_stp hC tm1_ok tmD_ok1 rfl hc
  have hW : DrvS.StpW tmD tm1 tm2 := by
    rcases h3 with h3 | h3
    · exact h3
    · rcases h3.1 with h | h
      · rw [hl] at h; cases h
      · have := h 2 (by omega) (by omega)
        rw [hl] at this
        rw [show offOf 0 + 2 = 2 from rfl, hf 2 (by omega)] at this
        cases this
  have hl2 := DrvS.stpW_look tm1_ok hW
  rw [hl] at hl2
  refine ⟨h1, h2, hl2, ?_⟩
  obtain ⟨o, r, ho, r2, r64, hne, hz, hw⟩ := hW
  have ho0 : o = 0 := by rw [hl] at ho; simp at ho; omega
  subst ho0
  have hr2 : r = 2 := by
    rcases Nat.lt_or_ge 2 r with h | h
    · have := hz 2 (by omega) h
      rw [hf _ (by omega)] at this; cases this
    · omega
  subst hr2
  rw [hw 2, if_pos rfl, Nat.zero_add, hf 2 (by omega)]
  decide +kernel
theorem tm2_ok : tm2.Ok := DrvS.stp_Ok tm1_ok
theorem tmD_ok2 : tmD.Ok tm2 := ⟨by decide, by rw [show tm2.n = 3 from DrvS.stp_n]; decide⟩
/-- words of a drive, by what its words are -/
theorem words_of {d : DrvS} {s : NorS} (hs : s.Ok) (hd : d.Ok s) {a : Nat} {l : List Int} (hl : a + l.length ≤ d.many * 64) (hf : ∀ i, i < l.length → d.fn s (a + i) = l.getD i 0) : d.words s a l.length = l := by
  have h1 := DrvS.words_length hs hd (a := a) (m := l.length) hl
  apply NorS.ext_getD h1
  intro j hj
  rw [h1] at hj
  rw [DrvS.words_get hj, Nat.add_assoc]
  exact hf j hj
theorem reads_true {d : DrvS} {s : NorS} (hs : s.Ok) (hd : d.Ok s) (hdn : s.down = false) {a : Nat} {l : List Int} (hl : a + l.length ≤ d.many * 64) (hf : ∀ i, i < l.length → d.fn s (a + i) = l.getD i 0) :
    decide (d.rdE s (a : Int) l.length = 0 ∧ d.rd s (a : Int) l.length = l) = true := by
  have hE : d.rdE s (a : Int) l.length = 0 := DrvS.rdE_ok hdn ⟨by omega, by omega, by omega, by omega⟩
  refine decide_eq_true ⟨hE, ?_⟩
  unfold DrvS.rd
  rw [if_pos hE, Int.toNat_natCast, Int.toNat_natCast]
  exact words_of hs hd hl hf
set_option maxRecDepth 100000 in
set_option maxHeartbeats 4000000 in
theorem awake_is (w : World) : Calls Try.prog 14 #[] w fun e w' => e = .returned (.bool true) ∧ Frm NoB w w' := by
  go_enter Try.func14, Try.ntmps14
  go_wp2_with fail
  refine (made_is w).mono ?_
  rintro e w1 ⟨p, q, c, gd, g, rfl, hT, -⟩
  have HT := hide hT
  clear hT
  go_wp2_with fail
  refine (ownt_count HT.out).mono ?_
  rintro e w' ⟨he, rfl⟩
  rw [show (look (tmD.fn tm0)).2 = 0 from by rw [tm0_look]] at he
  subst he
  go_wp2_with fail
  refine (ownt_step HT.out tm1_facts.1).mono ?_
  rintro e w2 ⟨rfl, hT, -⟩
  have HT1 : Hid (OwnT w w2 p q c gd g tmD tm1) := hT
  clear hT HT
  go_wp2_with fail
  refine (ownd_reads 0 [1, 4294967294] HT1.out.o HT1.out.dr HT1.out.dk (by simp) _ rfl _ rfl true (reads_true (a := 0) tm1_ok tmD_ok1 tm1_facts.2.1.dn (by decide) (fun i hi => by
    simp only [List.length_cons, List.length_nil] at hi
    rw [Nat.zero_add, tm1_facts.2.2.2 i (by omega)]
    rcases (by omega : i = 0 ∨ i = 1) with rfl | rfl <;> rfl))).mono ?_
  rintro e w3 ⟨rfl, -, hF⟩
  have HT3 : Hid (OwnT w w3 p q c gd g tmD tm1) := HT1.out.frm hF
  clear hF HT1
  go_wp2_with fail
  refine (ownt_count HT3.out).mono ?_
  rintro e w' ⟨he, rfl⟩
  rw [show (look (tmD.fn tm1)).2 = 1 from by rw [tm1_facts.2.2.1]] at he
  subst he
  go_wp2_with fail
  refine (ownt_step HT3.out tm2_facts.1).mono ?_
  rintro e w4 ⟨rfl, hT, -⟩
  have HT4 : Hid (OwnT w w4 p q c gd g tmD tm2) := hT
  clear hT HT3
  go_wp2_with fail
  refine (ownd_reads 2 [2147483647] HT4.out.o HT4.out.dr HT4.out.dk (by simp) _ rfl _ rfl true (reads_true (a := 2) tm2_ok tmD_ok2 tm2_facts.2.1.dn (by decide) (fun i hi => by
    simp only [List.length_cons, List.length_nil] at hi
    obtain rfl : i = 0 := by omega
    exact tm2_facts.2.2.2))).mono ?_
  rintro e w5 ⟨rfl, -, hF⟩
  have HT5 : Hid (OwnT w w5 p q c gd g tmD tm2) := HT4.out.frm hF
  clear hF HT4
  go_wp2_with fail
  refine (ownt_count HT5.out).mono ?_
  rintro e w' ⟨he, rfl⟩
  rw [show (look (tmD.fn tm2)).2 = 2 from by rw [tm2_facts.2.2.1]] at he
  subst he
  go_wp2
  go_ret
  exact ⟨rfl, HT5.out.o.f⟩
end Go.Proofs.Ytmeegehmbphooaa
