/-
  The flash: Crash.
-/
import Derived.Test.YtmeegehmbphooaaNor7
namespace Go.Proofs.Ytmeegehmbphooaa
open Go.RowKit

namespace NorS
theorem burn_length (ks : List Bool) (base : Nat) : ∀ (m i : Nat) (l : List Int), (burn ks base m i l).length = l.length := by
  intro m
  induction m with
  | zero => intro i l; rfl
  | succ m ih => intro i l; rw [burn, ih]; split <;> simp
theorem burn_u32 (ks : List Bool) (base : Nat) : ∀ (m i : Nat) (l : List Int), U32 l → U32 (burn ks base m i l) := by
  intro m
  induction m with
  | zero => intro i l h; exact h
  | succ m ih =>
    intro i l h
    rw [burn]
    apply ih
    split
    · exact h.set _ (by omega)
    · exact h
/-- behind i places of a crash -/
def burnt (s : NorS) (ks : List Bool) (i : Nat) (l : List Int) : Prop := burn ks (at_ s.half 0) 64 0 s.l = burn ks (at_ s.half 0) (64 - i) i l ∧ l.length = s.l.length
/-- how it stands in the midst -/
def mid (s : NorS) (l : List Int) : NorS := { s with l := l }
theorem Ok.mid {s : NorS} (h : s.Ok) {l : List Int} (hl : l.length = s.l.length) (hu : U32 l) : (s.mid l).Ok := ⟨by show l.length = _; rw [hl]; exact h.len, h.n1, h.n2, h.g0, h.g1, h.a0, h.a1, h.h0, h.h1, hu⟩
theorem Ok.crash {s : NorS} (h : s.Ok) (ks : List Bool) : (s.crash ks).Ok := by
  have h1 := h.n1
  refine ⟨?_, h.n1, h.n2, h.g0, h.g1, by simp [NorS.crash], by simp [NorS.crash], by simp [NorS.crash], by show (-1 : Int) < s.n; omega, ?_⟩
  · show (if 0 ≤ s.half then _ else _ : List Int).length = _
    split
    · rw [burn_length]; exact h.len
    · exact h.len
  · show U32 (if 0 ≤ s.half then _ else _ : List Int)
    split
    · exact burn_u32 _ _ _ _ _ h.u
    · exact h.u
end NorS

section
variable {w : World} {p q c : Nat} {s : NorS}
/-- behind j places -/
def CrashRel (w : World) (p q c : Nat) (s : NorS) (ks : List Bool) (i : Value) (wr : World) : Prop := ∃ (j : Nat) (l : List Int), j ≤ 64 ∧ i = .int .i64 j ∧ NorAt wr p q c (s.mid l) ∧ Frm (Two p q) w wr ∧ (0 ≤ s.half → s.burnt ks j l) ∧ (s.half < 0 → l = s.l)

set_option maxRecDepth 100000 in
set_option maxHeartbeats 1000000 in
theorem crash_is (A : Option Addr) (cp : Nat) (ks : List Bool) (h : NorAt w p q c s) (hx : Rd w A (bools ks)) (hA : ks ≠ [] → ∀ a, A = some a → ¬ Two p q a.block) (hm : (ks.length : Int) ≤ 9223372036854775807) :
    Calls Try.prog 20 #[.pointer (some ⟨p, 0, none⟩), .slice A ks.length cp] w fun e w' => e = .returned (.tuple #[]) ∧ NorAt w' p q c (s.crash ks) ∧ Frm (Two p q) w w' := by
  have hn := h.ok.n2
  have hh0 := h.ok.h0
  have hh1 := h.ok.h1
  have H := hide h
  clear h
  go_enter Try.func20, Try.ntmps20
  go_wp2_with (first
    | (go_at_call 51; refine (none_is H.out).mono ?_; rintro e w' ⟨rfl, rfl⟩))
  go_loopw [7] (fun i wr => CrashRel w p q c s ks i wr) (fun i _ => 64 - (intOf i).toNat)
  case atStart => exact ⟨0, s.l, by omega, rfl, H.out, Frm.refl _ _, fun _ => ⟨rfl, rfl⟩, fun _ => rfl⟩
  case round =>
    obtain ⟨j, l, hj, rfl, hN, hF, hb1, hb2⟩ := hrel
    have c0 := hN.c0
    have c4 := hN.c4
    have f2 := hN.blk.frozen 2
    have f3 := hN.blk.frozen 3
    have f4 := hN.blk.frozen 4
    have c2 := hN.c2
    have c3 := hN.c3
    have HB1 := hide hb1
    have HB2 := hide hb2
    have HN := hide hN
    clear hb1 hb2 hN
    by_cases hlt : j < 64
    · by_cases h0 : 0 ≤ s.half
      · obtain ⟨hb, hl⟩ := HB1.out h0
        obtain ⟨S, hS⟩ := Int.eq_ofNat_of_zero_le h0
        have HS := hide hS
        have HL := hide hl
        have HB := hide hb
        have hlen := (Hid.out H).ok.len
        have hlen2 : S * 64 + 64 ≤ l.length := by omega
        clear hl hb hlen
        have hc := NorAt.cell HN.out (S * 64 + j) (by show _ < l.length; omega)
        have hf := NorAt.free HN.out (S * 64 + j)
        have ea : Hid (NorS.at_ s.half 0 = S * 64) := by show _ = _; rw [hS]; simp [NorS.at_]
        have e64 : Hid (64 - j = (64 - (j + 1)) + 1) := by show _ = _; omega
        have c4' : wr.cell? ⟨p, 4, none⟩ = some (.int .i64 S) := by rw [c4]; show some (Value.int .i64 s.half) = _; rw [hS]
        have c0' : wr.cell? ⟨p, 0, none⟩ = some (.slice (some ⟨q, 0, none⟩) s.n c) := c0
        have hS1 : (S : Int) < s.n := by omega
        clear hS c4 h0 hh0 hh1 c0
        by_cases hk : j < ks.length
        · obtain ⟨b, o, rfl, hcx⟩ := hx (bools_ne (by intro e; subst e; simp at hk))
          have hcj : wr.cell? ⟨b, o + j, none⟩ = some (.bool (ks.getD j false)) := by
            have h1 := hcx j _ (bools_get hk)
            rw [hF.cell (World.block_lt_of_cell? w _ h1) (show ¬ Two p q b from hA (by intro e; subst e; simp at hk) _ rfl)]; exact h1
          clear hx hA hcx
          by_cases hv : ks.getD j false = true
          · rw [hv] at hcj
            have HV := hide hv
            clear hv
            go_wp2
            go_region
            go_wp2
            go_roundw
            case rel =>
              have hN : NorAt wr p q c (s.mid l) := HN.out
              have h1 := (hN.stored (S * 64 + j) (x := 4294967295) (by omega)).drew
              refine ⟨j + 1, l.set (S * 64 + j) 4294967295, by omega, by go_num, h1, (hF.setq _ _).drew, fun _ => ⟨?_, by simpa using HL.out⟩, fun hneg => by have := HS.out; omega⟩
              rw [HB.out, ea.out, e64.out, NorS.burn, if_pos HV.out]
            case measure => simp [intOf]; omega
          · have hv : ks.getD j false = false := by simpa using hv
            rw [hv] at hcj
            have HV := hide hv
            clear hv
            go_wp2
            go_roundw
            case rel =>
              refine ⟨j + 1, l, by omega, by go_num, HN.out, hF, fun _ => ⟨?_, HL.out⟩, fun hneg => by have := HS.out; omega⟩
              rw [HB.out, ea.out, e64.out, NorS.burn, HV.out]; rfl
            case measure => simp [intOf]; omega
        · have hv : Hid (ks.getD j false = false) := by show _ = _; rw [List.getD_eq_getElem?_getD, List.getElem?_eq_none (by omega)]; rfl
          clear hx hA
          go_wp2
          go_roundw
          case rel =>
            refine ⟨j + 1, l, by omega, by go_num, HN.out, hF, fun _ => ⟨?_, HL.out⟩, fun hneg => by have := HS.out; omega⟩
            rw [HB.out, ea.out, e64.out, NorS.burn, hv.out]; rfl
          case measure => simp [intOf]; omega
      · have c4' : wr.cell? ⟨p, 4, none⟩ = some (.int .i64 s.half) := c4
        clear hx hA
        go_wp2
        go_roundw
        case rel =>
          exact ⟨j + 1, l, by omega, by go_num, HN.out, hF, fun hp => by omega, fun _ => HB2.out (by omega)⟩
        case measure => simp [intOf]; omega
    · obtain rfl : j = 64 := by omega
      clear hx hA
      go_wp2
      go_end0
      have hN : NorAt wr p q c (s.mid l) := HN.out
      have e : s.crash ks = { s.mid l with down := false, arm := -1, half := -1 } := by
        unfold NorS.crash NorS.mid
        by_cases h0 : 0 ≤ s.half
        · rw [if_pos h0, (HB1.out h0).1]; rfl
        · rw [if_neg h0, HB2.out (by omega)]
      have o := (Hid.out H).ok.crash ks
      rw [e] at o ⊢
      exact ⟨rfl, hN.turn (((hN.blk.set_ 3 _).set_ 2 _).set_ 4 _) ((((Frm.refl (One p) wr).set1 _ _).set1 _ _).set1 _ _) rfl rfl o, ((hF.setp _ _).setp _ _).setp _ _⟩
theorem crash_no (A : Option Addr) (cp n : Nat) (v : Value) (h : NoNor w v) : Calls Try.prog 20 #[v, .slice A n cp] w fun e w' => e = .returned (.tuple #[]) ∧ w = w' := by
  have H := hide h
  clear h
  go_enter Try.func20, Try.ntmps20
  go_wp2_with (first
    | (go_at_call 51; refine (none_no _ _ H.out).mono ?_; rintro e w' ⟨rfl, rfl⟩))
  refine bodyPost_ret (results_none rfl _ _ _) rfl ?_
  exact ⟨rfl, rfl⟩
end
end Go.Proofs.Ytmeegehmbphooaa
