/-
  What is programmed twice is as once: the walk.
-/
import Derived.Test.YtlbnhmcejbidnaaNorUp
import Derived.Test.YtlbnhmcejbidnaaNorAwake
import Derived.Test.YtlbnhmcejbidnaaNorApart
import Derived.Test.YtlbnhmcejbidnaaArgs
namespace Go.Proofs.Ytlbnhmcejbidnaa
open Go.RowKit
section
variable {w0 w : World} {p q c : Nat} {s : NorS}
/-- words of an argument are programmed -/
theorem own_program_arg (sec k : Int) (A : Option Addr) (cp n : Nat) (xs : List Int) (hn : xs.length = n) (h : Own w0 w p q c s) (hx : Rd w A (ints .u32 xs)) (hA : xs ≠ [] → ∀ a, A = some a → a.block < w0.heap.size) (ux : U32 xs) (hm : (xs.length : Int) ≤ 9223372036854775807) :
    Calls Try.prog 20 #[.pointer (some ⟨p, 0, none⟩), .int .i64 sec, .int .i64 k, .slice A n cp] w fun e w' => e = .returned (.int .i64 (s.programE sec k xs)) ∧ Own w0 w' p q c (s.program sec k xs) ∧ Frm (Two p q) w w' := by
  have h1 := h.p0; have h2 := h.q0
  refine (program_at sec k A cp n xs hn h.n hx (fun hne a ha e => ?_) ux hm).mono ?_
  · have := hA hne a ha
    rcases e with e | e <;> omega
  · rintro e w' ⟨rfl, hn, hf⟩
    exact ⟨rfl, h.step hn hf, hf⟩
theorem own_crash_arg (A : Option Addr) (cp : Nat) (ks : List Bool) (h : Own w0 w p q c s) (hx : Rd w A (bools ks)) (hA : ks ≠ [] → ∀ a, A = some a → a.block < w0.heap.size) (hm : (ks.length : Int) ≤ 9223372036854775807) :
    Calls Try.prog 21 #[.pointer (some ⟨p, 0, none⟩), .slice A ks.length cp] w fun e w' => e = .returned (.tuple #[]) ∧ Own w0 w' p q c (s.crash ks) ∧ Frm (Two p q) w w' := by
  have h1 := h.p0; have h2 := h.q0
  refine (crash_is A cp ks h.n hx (fun hne a ha e => ?_) hm).mono ?_
  · have := hA hne a ha
    rcases e with e | e <;> omega
  · rintro e w' ⟨rfl, hn, hf⟩
    exact ⟨rfl, h.step hn hf, hf⟩
theorem own_made (A : Option Addr) (cp : Nat) (ops : List OpS) (hf : Frm NoB w0 w) (h : OpsAt w w0.heap.size A ops) (hm : (ops.length : Int) ≤ 9223372036854775807) :
    Calls Try.prog 16 #[.slice A ops.length cp] w fun e w' => ∃ p q c, e = .returned (.tuple #[.pointer (some ⟨p, 0, none⟩), .bool true]) ∧ Own w0 w' p q c (((NorS.new 4 2).runs ops).crash []) ∧ w.heap.size ≤ p ∧ w.heap.size ≤ q ∧ Frm NoB w w' := by
  refine (made_is A cp ops h hf.size hm).mono ?_
  rintro e w' ⟨p, q, c, rfl, hn, hp, hq, hF⟩
  have := hf.size
  exact ⟨p, q, c, rfl, ⟨hn, hf.trans hF, by omega, by omega⟩, hp, hq, hF⟩
theorem own_same {p' q' c' : Nat} {t : NorS} (h : Own w0 w p q c s) (h' : Own w0 w p' q' c' t) (b : Bool) (hb : s.same t = b) :
    Calls Try.prog 23 #[.pointer (some ⟨p, 0, none⟩), .pointer (some ⟨p', 0, none⟩)] w fun e w' => e = .returned (.bool b) ∧ Frm NoB w w' := by
  subst hb
  exact sameNors_is h.n h'.n
end

set_option maxRecDepth 100000 in
set_option maxHeartbeats 4000000 in
theorem norTwice_is (w : World) (A : Option Addr) (cp : Nat) (ops : List OpS) (sec k : Int) (AL : Option Addr) (cL : Nat) (xs : List Int) (AM : Option Addr) (cM : Nat) (ys : List Int) (AK : Option Addr) (cK : Nat) (ks : List Bool)
    (h : OpsAt w w.heap.size A ops) (hm : (ops.length : Int) ≤ 9223372036854775807) (hs : -9223372036854775808 ≤ sec ∧ sec ≤ 9223372036854775807) (hk : -9223372036854775808 ≤ k ∧ k ≤ 9223372036854775807)
    (hx : RowArg w w.heap.size AL cL xs) (hy : RowArg w w.heap.size AM cM ys) (hb : BoolArg w w.heap.size AK ks) :
    Calls Try.prog 6 #[.slice A ops.length cp, .int .i64 sec, .int .i64 k, .slice AL xs.length cL, .slice AM ys.length cM, .slice AK ks.length cK] w fun e w' => e = .returned (.bool true) ∧ Frm NoB w w' := by
  have HO := hide h
  have HX := hide hx
  have HY := hide hy
  have HB := hide hb
  have lx := hx.l; have mx := hx.m; have ly := hy.l; have my := hy.m
  have hs0 := pick_lo sec (n := 4) (by omega)
  have hs1 := pick_hi sec (n := 4) (by omega)
  have hk0 := pick_lo k (n := 64) (by omega)
  have hk1 := pick_hi k (n := 64) (by omega)
  clear h hx hy hb
  go_enter Try.func6, Try.ntmps6
  go_wp2_with fail
  refine (pick_is sec 4 _ (by omega) (by omega) hs.1 hs.2).mono ?_
  rintro e w' ⟨rfl, rfl⟩
  go_wp2_with fail
  refine (pick_is k 64 _ (by omega) (by omega) hk.1 hk.2).mono ?_
  rintro e w' ⟨rfl, rfl⟩
  have hs0 : 0 ≤ pick sec ((4 : Nat) : Int) := hs0
  have hk0' : 0 ≤ pick k ((64 : Nat) : Int) := hk0
  have hk1' : pick k ((64 : Nat) : Int) < 64 := hk1
  generalize hS : pick sec ((4 : Nat) : Int) = S at *
  generalize hK : pick k ((64 : Nat) : Int) = K at *
  clear hS hK
  obtain ⟨K, rfl⟩ := Int.eq_ofNat_of_zero_le hk0'
  have HX' := hide (HX.out.take (64 - K))
  have HY' := hide (HY.out.take (64 - K))
  have hxl : Hid ((xs.take (64 - K)).length = min (64 - K) xs.length) := List.length_take
  have hyl : Hid ((ys.take (64 - K)).length = min (64 - K) ys.length) := List.length_take
  have hTn : Hid ((((NorS.new 4 2).runs ops).crash []).n = 4) := (NorS.runs_n (ops.take 40) (NorS.new 4 2)).1
  have hTu : Hid ((((NorS.new 4 2).runs ops).crash []).Up) := NorS.crash_up _ _
  rcases Nat.lt_or_ge (64 - K) xs.length with c1 | c1
  all_goals
    rcases Nat.lt_or_ge (64 - K) ys.length with c2 | c2
    all_goals
      go_wp2_with fail
      go_quiet (fail)
      go_wp2_with fail
      refine (own_made A cp ops ((Frm.refl NoB w).drewN nq) (HO.out.frm ((Frm.refl NoB w).drewN nq) (fun _ _ e => e)) hm).mono ?_
      rintro e w1 ⟨p, q, c, rfl, hA, -, -, hF1⟩
      have HA0 := hide hA
      have F1 := hide (((Frm.refl NoB w).drewN nq).trans hF1)
      clear hA hF1
      go_wp2_with fail
      refine (own_made A cp ops F1.out (HO.out.frm F1.out (fun _ _ e => e)) hm).mono ?_
      rintro e w2 ⟨p', q', c', rfl, hB, hp', hq', hF2⟩
      have HAp : Hid (Apart p q p' q') := by
        have := (Hid.out HA0).n.ltp; have := (Hid.out HA0).n.ltq
        exact ⟨by omega, by omega, by omega, by omega⟩
      have HA1 := hide ((Hid.out HA0).frm hF2)
      have HB1 := hide hB
      clear hB hp' hq' hF2 HA0
      generalize (((NorS.new 4 2).runs ops).crash []) = T at HA1 HB1 hTn hTu
      have hTh := hide (hTu.out.thrice S K (xs.take (64 - K)) (ys.take (64 - K)) (by rw [hxl.out]; omega) (by rw [hyl.out]; omega) hs0 (by rw [hTn.out]; exact hs1) (by omega) (by have e1 := (Hid.out HA1).n.ok.len; have e2 := hTn.out; rw [e2] at e1; unfold NorS.at_; omega))
      go_wp2_with fail
      refine (own_program_arg _ _ AL cL _ (xs.take (64 - K)) (hxl.out.trans (by omega)) (Hid.out HA1) (HX'.out.frm (Hid.out HA1).f (fun _ _ e => e)).r HX'.out.b HX'.out.u HX'.out.len).mono ?_
      rintro e w3 ⟨he, hA, hF⟩
      rw [hTh.out.e1] at he
      subst he
      have HA3 := hide hA
      have HB3 := hide ((Hid.out HB1).beside hF (Hid.out HA1) HAp.out.symm)
      clear hA hF
      go_wp2_with fail
      refine (own_program_arg _ _ AM cM _ (ys.take (64 - K)) (hyl.out.trans (by omega)) (Hid.out HA3) (HY'.out.frm (Hid.out HA3).f (fun _ _ e => e)).r HY'.out.b HY'.out.u HY'.out.len).mono ?_
      rintro e w4 ⟨he, hA, hF⟩
      rw [hTh.out.e2] at he
      subst he
      have HA4 := hide hA
      have HB4 := hide ((Hid.out HB3).beside hF (Hid.out HA3) HAp.out.symm)
      clear hA hF
      go_wp2_with fail
      refine (own_program_arg _ _ AL cL _ (xs.take (64 - K)) (hxl.out.trans (by omega)) (Hid.out HA4) (HX'.out.frm (Hid.out HA4).f (fun _ _ e => e)).r HX'.out.b HX'.out.u HX'.out.len).mono ?_
      rintro e w5 ⟨he, hA, hF⟩
      rw [hTh.out.e3] at he
      subst he
      have HA5 := hide hA
      have HB5 := hide ((Hid.out HB4).beside hF (Hid.out HA4) HAp.out.symm)
      clear hA hF
      go_wp2_with fail
      refine (own_program_arg _ _ AM cM _ (ys.take (64 - K)) (hyl.out.trans (by omega)) (Hid.out HB5) (HY'.out.frm (Hid.out HB5).f (fun _ _ e => e)).r HY'.out.b HY'.out.u HY'.out.len).mono ?_
      rintro e w6 ⟨he, hA, hF⟩
      rw [hTh.out.d1] at he
      subst he
      have HB6 := hide hA
      have HA6 := hide ((Hid.out HA5).beside hF (Hid.out HB5) HAp.out)
      clear hA hF
      go_wp2_with fail
      refine (own_program_arg _ _ AL cL _ (xs.take (64 - K)) (hxl.out.trans (by omega)) (Hid.out HB6) (HX'.out.frm (Hid.out HB6).f (fun _ _ e => e)).r HX'.out.b HX'.out.u HX'.out.len).mono ?_
      rintro e w7 ⟨he, hA, hF⟩
      rw [hTh.out.d2] at he
      subst he
      have HB7 := hide hA
      have HA7 := hide ((Hid.out HA6).beside hF (Hid.out HB6) HAp.out)
      clear hA hF
      go_wp2_with fail
      refine (own_same (Hid.out HA7) (Hid.out HB7) true hTh.out.same).mono ?_
      rintro e w8 ⟨rfl, hF⟩
      have HA8 := hide ((Hid.out HA7).frm hF)
      have HB8 := hide ((Hid.out HB7).frm hF)
      clear hF
      go_wp2_with fail
      refine (own_crash_arg AK cK ks (Hid.out HA8) (HB.out.frm (Hid.out HA8).f (fun _ _ e => e)).r HB.out.b HB.out.m).mono ?_
      rintro e w9 ⟨rfl, hA, hF⟩
      rw [hTh.out.c1] at hA
      have HA9 := hide hA
      have HB9 := hide ((Hid.out HB8).beside hF (Hid.out HA8) HAp.out.symm)
      clear hA hF
      go_wp2_with fail
      refine (own_crash_arg AK cK ks (Hid.out HA9) (HB.out.frm (Hid.out HA9).f (fun _ _ e => e)).r HB.out.b HB.out.m).mono ?_
      rintro e w10 ⟨rfl, hA, hF⟩
      rw [hTh.out.c1] at hA
      have HA10 := hide hA
      have HB10 := hide ((Hid.out HB9).beside hF (Hid.out HA9) HAp.out.symm)
      clear hA hF
      go_wp2_with fail
      refine (own_same (Hid.out HA10) (Hid.out HB10) true hTh.out.same).mono ?_
      rintro e w11 ⟨rfl, hF⟩
      have HA11 := hide ((Hid.out HA10).frm hF)
      have HB11 := hide ((Hid.out HB10).frm hF)
      clear hF
      go_wp2_with fail
      refine (awake_is _).mono ?_
      rintro e wz ⟨rfl, hFz⟩
      go_wp2
      go_ret
      exact ⟨rfl, (Hid.out HA11).f.trans hFz⟩
end Go.Proofs.Ytlbnhmcejbidnaa
