/-
  Opening writes nothing, and changes nothing: the walk.
-/
import Derived.Test.YtmeegehmbphooaaTalOwn
import Derived.Test.YtmeegehmbphooaaArgs
namespace Go.Proofs.Ytmeegehmbphooaa
open Go.RowKit
/-- behind k steps -/
def TCalm (s : NorS) (k : Nat) : Prop := DrvS.Calm s ∧ (look (tmD.fn s)).2 = k
theorem TCalm.step {s : NorS} {k : Nat} (h : TCalm s k) (hs : s.Ok) (hd : tmD.Ok s) (hk : (k : Int) < 2147483648) : (tmD.stp s).2 = 0 ∧ TCalm (tmD.stp s).1 (k + 1) := by
  obtain ⟨h1, h2, h3⟩ := DrvS.calm_count h.1 hs hd rfl (by rw [h.2]; exact hk)
  exact ⟨h1, h2, by rw [h3, h.2]; rfl⟩
theorem tcalm0 : TCalm tm0 0 := ⟨tm0_calm, by rw [tm0_look]; rfl⟩
/-- a row of numbers of 16 bits -/
structure Row16 (w : World) (B : Nat) (A : Option Addr) (xs : List Int) : Prop where
  r : Rd w A (ints .u16 xs)
  b : xs ≠ [] → ∀ a, A = some a → a.block < B
  u : ∀ x ∈ xs, 0 ≤ x ∧ x < 65536
  m : (xs.length : Int) ≤ 9223372036854775807
theorem Row16.frm {w w' : World} {B : Nat} {A : Option Addr} {xs : List Int} (h : Row16 w B A xs) (hf : Frm NoB w w') : Row16 w' B A xs :=
  ⟨by
    by_cases e : xs = []
    · rw [e]; exact Rd.nil _ _
    · exact h.r.frm hf (fun a ha e => e), h.b, h.u, h.m⟩
def ToRel1 (w : World) (xs : List Int) (p q c gd : Nat) (x5 x7 x8 : Value) (wr : World) : Prop := ∃ (j k g : Nat) (s : NorS), j ≤ xs.length ∧ j ≤ 10 ∧ k ≤ 400 * j ∧ x8 = .int .i64 j ∧ x7 = .int .i64 k ∧ x5 = .pointer (some ⟨g, 0, none⟩) ∧ OwnT w wr p q c gd g tmD s ∧ TCalm s k
def ToRel2 (w : World) (p q c gd g k0 n : Nat) (x7 x9 : Value) (wr : World) : Prop := ∃ (i : Nat) (s : NorS), i ≤ n ∧ x9 = .int .i64 i ∧ x7 = .int .i64 ((k0 + i : Nat) : Int) ∧ OwnT w wr p q c gd g tmD s ∧ TCalm s (k0 + i)
def ToRel3 (wq : World) (x : Value) (wr : World) : Prop := ∃ i : Nat, i ≤ 128 ∧ x = .int .i64 i ∧ Frm NoB wq wr
set_option maxRecDepth 100000 in
set_option maxHeartbeats 8000000 in
theorem tallyOpens_is (w : World) (A : Option Addr) (cp : Nat) (xs : List Int) (hx : Row16 w w.heap.size A xs) :
    Calls Try.prog 3 #[.slice A xs.length cp] w fun e w' => e = .returned (.bool true) ∧ Frm NoB w w' := by
  have HX := hide hx
  have hxm := hx.m
  clear hx
  go_enter Try.func3, Try.ntmps3
  go_wp2_with fail
  refine (made_is w).mono ?_
  rintro e w1 ⟨p, q, c, gd, g, rfl, hT, -⟩
  have HT := hide hT
  clear hT
  go_wp2_with fail
  go_loopw [5, 7, 8] (fun x5 x7 x8 wr => ToRel1 w xs p q c gd x5 x7 x8 wr) (fun _ _ i _ => xs.length - (intOf i).toNat)
  case atStart => exact ⟨0, 0, g, tm0, by omega, by omega, by omega, rfl, rfl, rfl, HT.out, tcalm0⟩
  case round =>
    clear HT
    obtain ⟨j, k, g1, s, hj, hj10, hk, rfl, rfl, rfl, hT, hC⟩ := hrel
    have HT := hide hT
    have HC := hide hC
    obtain ⟨wo, rfl⟩ : ∃ wo : World, wo = wr := ⟨_, rfl⟩
    clear hT hC
    by_cases hlt : j < xs.length
    · by_cases hlt10 : j < 10
      · obtain ⟨b, o, rfl, hc⟩ := (HX.out.frm HT.out.o.f).r (by intro e; have := congrArg List.length e; rw [ints_length] at this; simp only [List.length_nil] at this; omega)
        have hc := hide hc
        have hxu : 0 ≤ xs.getD j 0 ∧ xs.getD j 0 < 65536 := by
          rw [List.getD_eq_getElem?_getD, List.getElem?_eq_getElem hlt]; exact HX.out.u _ (List.getElem_mem hlt)
        obtain ⟨x, hx⟩ : ∃ x, xs.getD j 0 = x := ⟨_, rfl⟩
        rw [hx] at hxu
        have HXJ := hide hx
        obtain ⟨n, hn⟩ : ∃ n : Nat, x % 400 = n := ⟨(x % 400).toNat, by omega⟩
        have hn' : Int.tmod x 400 = (n : Int) := by rw [Int.tmod_eq_emod_of_nonneg hxu.1]; exact hn
        have hn4 : n < 400 := by omega
        have HB : Hid (∀ W, Frm NoB w W → W.cell? ⟨b, o + j, none⟩ = some (.int .u16 x)) := fun W hf => by
          have h1 := (HX.out.frm hf).r (by intro e; have := congrArg List.length e; rw [ints_length] at this; simp only [List.length_nil] at this; omega)
          obtain ⟨b', o', e, h2⟩ := h1
          injection e with e
          injection e with e1 e2
          subst e1 e2
          have h3 := h2 j _ (ints_get hlt)
          rwa [HXJ.out] at h3
        have i0 : (0 : Int) ≤ (j : Int) := by omega
        have i1 : (j : Int) < (xs.length : Int) := by omega
        have t10 : decide ((j : Int) < 10) = true := decide_eq_true (by omega)
        clear hx
        go_wp2_with fail
        go_loopw [7, 9] (fun x7 x9 wr => ToRel2 w p q c gd g1 k n x7 x9 wr) (fun _ i _ => n - (intOf i).toNat)
        case atStart => exact ⟨0, s, by omega, rfl, rfl, HT.out, HC.out⟩
        case round =>
          clear HT HC
          obtain ⟨i, s1, hi, rfl, rfl, hT, hC⟩ := hrel
          have HT := hide hT
          have HC := hide hC
          have cx := HB.out wr hT.o.f
          clear hT hC
          by_cases hin : i < n
          · have hst := (Hid.out HC).step (Hid.out HT).o.n.ok (Hid.out HT).dk (by omega)
            have HST := hide hst
            clear hst
            go_wp2_with fail
            refine (ownt_step (Hid.out HT) HST.out.1).mono ?_
            rintro e w2 ⟨rfl, hT2, -⟩
            have HT2 := hide hT2
            clear hT2 cx
            go_wp2
            go_roundw
            case rel => exact ⟨i + 1, _, by omega, by go_num, by go_num, HT2.out, HST.out.2⟩
            case measure => simp [intOf]; omega
          · obtain rfl : i = n := by omega
            obtain ⟨wq, rfl⟩ : ∃ wq : World, wq = wr := ⟨_, rfl⟩
            have HRD : Hid (∀ W, OwnT w W p q c gd g1 tmD s1 → Calls Try.prog 11 #[.pointer (some ⟨gd, 0, none⟩), .int .i64 0, .int .i64 128] W fun e w' => ∃ b o cp, e = .returned (.tuple #[.slice (some ⟨b, o, none⟩) 128 cp, .int .i64 0]) ∧ (∀ i, i < 128 → w'.cell? ⟨b, o + i, none⟩ = some (.int .u32 (tmD.fn s1 i))) ∧ Frm NoB W w') := fun W hW => by
              have hE : tmD.rdE s1 0 128 = 0 := DrvS.rdE_ok (Hid.out HC).1.dn (by decide)
              have hlw : (tmD.words s1 0 128).length = 128 := DrvS.words_length hW.o.n.ok hW.dk (by decide)
              have e1 : tmD.rd s1 0 128 = tmD.words s1 0 128 := by unfold DrvS.rd; rw [if_pos hE]; rfl
              refine (dread_is 0 128 hW.dr hW.o.n hW.dk).mono ?_
              rintro e w' ⟨A, cp, rfl, h1, h2, h3, h4⟩
              rw [e1] at h1 ⊢
              obtain ⟨b, o, rfl, h5⟩ := h1 (by intro e; have := congrArg List.length e; rw [ints_length, hlw] at this; simp at this)
              refine ⟨b, o, cp, by rw [hlw, hE], fun i hi => ?_, h4⟩
              have := h5 i _ (ints_get (by rw [hlw]; exact hi))
              rwa [DrvS.words_get hi] at this
            go_wp2_with fail
            clear cx
            refine (HRD.out _ (Hid.out HT)).mono ?_
            rintro e w2 ⟨b1, o1, cp1, rfl, hR1, hF2⟩
            have HT2 := hide ((Hid.out HT).frm hF2)
            have HR1 := hide hR1
            clear hR1 hF2
            go_wp2_with fail
            refine (ownt_open HT2.out.o HT2.out.dr HT2.out.dk rfl (Hid.out HC).1.dn).mono ?_
            rintro e w3 ⟨g2, rfl, hT3, -, hF3⟩
            have HT3 := hide hT3
            have HT3' := hide (HT2.out.frm hF3)
            have HR1' : Hid (∀ i, i < 128 → w3.cell? ⟨b1, o1 + i, none⟩ = some (.int .u32 (tmD.fn s1 i))) := fun i hi => by
              have := HR1.out i hi
              rw [hF3.cell (World.block_lt_of_cell? w2 _ this) (fun e => e)]; exact this
            clear hT3 hF3 HR1 HT2 HT
            go_wp2_with fail
            refine (HRD.out _ HT3'.out).mono ?_
            rintro e w4 ⟨b2, o2, cp2, rfl, hR2, hF4⟩
            have HT4 := hide (HT3.out.frm hF4)
            have HT4' := hide (HT3'.out.frm hF4)
            have HR2 := hide hR2
            have HR1'' : Hid (∀ i, i < 128 → w4.cell? ⟨b1, o1 + i, none⟩ = some (.int .u32 (tmD.fn s1 i))) := fun i hi => by
              have := HR1'.out i hi
              rw [hF4.cell (World.block_lt_of_cell? w3 _ this) (fun e => e)]; exact this
            clear hR2 hF4 HR1' HT3 HT3' HRD
            have HCC := hide (Hid.out HC).2
            go_wp2_with fail
            refine (ownt_count HT4.out).mono ?_
            rintro e w' ⟨he, rfl⟩
            rw [HCC.out] at he
            subst he
            go_wp2_with fail
            refine (ownt_count HT4'.out).mono ?_
            rintro e w' ⟨he, rfl⟩
            rw [HCC.out] at he
            subst he
            go_wp2_with fail
            go_loopw [95] (fun x wr => ToRel3 w4 x wr) (fun i _ => 128 - (intOf i).toNat)
            case atStart => exact ⟨0, by omega, rfl, Frm.refl _ _⟩
            case round =>
              obtain ⟨m, hm, rfl, hF5⟩ := hrel
              have HF5 := hide hF5
              by_cases hml : m < 128
              · have c1 := HR1''.out m hml
                have c2 := HR2.out m hml
                rw [← hF5.cell (World.block_lt_of_cell? w4 _ c1) (fun e => e)] at c1
                rw [← hF5.cell (World.block_lt_of_cell? w4 _ c2) (fun e => e)] at c2
                generalize tmD.fn s1 m = y at c1 c2
                have m0 : (0 : Int) ≤ (m : Int) := by omega
                have m1 : (m : Int) < 128 := by omega
                have ty : (y != y) = false := by simp
                clear hF5
                go_wp2_with fail
                go_quiet (fail)
                go_wp2
                go_roundw
                case rel => exact ⟨m + 1, by omega, by go_num, HF5.out.drewN _⟩
                case measure => simp [intOf]; omega
              · obtain rfl : m = 128 := by omega
                clear hF5
                go_wp2
                go_roundw
                case rel => exact ⟨j + 1, k + i, g2, s1, by omega, by omega, by omega, by go_num, by go_num, rfl, HT4.out.frm HF5.out, (Hid.out HC)⟩
                case measure => simp [intOf]; omega
      · obtain rfl : j = 10 := by omega
        go_wp2_with fail
        refine (awake_is _).mono ?_
        rintro e wz ⟨rfl, hz⟩
        go_wp2
        go_ret
        exact ⟨rfl, HT.out.o.f.trans hz⟩
    · obtain rfl : j = xs.length := by omega
      go_wp2_with fail
      refine (awake_is _).mono ?_
      rintro e wz ⟨rfl, hz⟩
      go_wp2
      go_ret
      exact ⟨rfl, HT.out.o.f.trans hz⟩
end Go.Proofs.Ytmeegehmbphooaa
