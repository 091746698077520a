/-
  The flash: Program.
-/
import Derived.Test.YtmeegehmbphooaaNor2
namespace Go.Proofs.Ytmeegehmbphooaa
open Go.RowKit

section
variable {w : World} {p q c : Nat} {s : NorS}
set_option maxHeartbeats 1000000 in
theorem program_is (sec k : Int) (A : Option Addr) (cp : Nat) (xs : List Int) (h : NorAt w p q c s) (hx : Rd w A (ints .u32 xs)) (hA : xs ≠ [] → ∀ a, A = some a → ¬ Two p q a.block) (ux : U32 xs) (hm : (xs.length : Int) ≤ 9223372036854775807) :
    Calls Try.prog 49 #[.pointer (some ⟨p, 0, none⟩), .int .i64 sec, .int .i64 k, .slice A xs.length cp] w fun e w' => e = .returned (.int .i64 (s.programE sec k xs)) ∧ NorAt w' p q c (s.program sec k xs) ∧ Frm (Two p q) w w' := by
  have hn := h.ok.n2
  by_cases hu : s.up sec k xs.length = 0
  · obtain ⟨-, i0, i1, i2, i4⟩ := NorS.up_zero hu
    obtain ⟨S, rfl⟩ := Int.eq_ofNat_of_zero_le i0
    obtain ⟨K, rfl⟩ := Int.eq_ofNat_of_zero_le i2
    have hu0 : (s.up S K xs.length != 0) = false := by rw [hu]; rfl
    have E : Hid (s.program S K xs = s.prog (S * 64 + K) xs) := by show _ = _; unfold NorS.program; rw [if_pos hu]; rfl
    have E' : Hid (s.programE S K xs = if s.progs xs = true then 0 else 40) := by show _ = _; unfold NorS.programE; rw [if_pos hu]
    have H := hide h
    have HU := hide hu
    clear h hu
    go_enter Try.func49, Try.ntmps49
    go_wp2_with (first
      | (go_at_call 70; refine (up_is _ _ _ H.out (by omega) (by omega)).mono ?_; rintro e w' ⟨rfl, rfl⟩))
    go_loopw [23] (fun i wr => ∃ (j : Nat) (s' : NorS), j ≤ xs.length ∧ i = .int .i64 j ∧ NorAt wr p q c s' ∧ Frm (Two p q) w wr ∧ s'.n = s.n ∧ s.prog (S * 64 + K) xs = s'.prog (S * 64 + K + j) (xs.drop j) ∧ s.progs xs = s'.progs (xs.drop j)) (fun i _ => xs.length - (intOf i).toNat)
    case atStart => exact ⟨0, s, by omega, rfl, H.out, Frm.refl _ _, rfl, rfl, rfl⟩
    case round =>
      obtain ⟨j, s', hj, rfl, hN, hF, hns, hp1, hp2⟩ := hrel
      have hns' : s'.n ≤ s.n := by omega
      have hns2 : s.n ≤ s'.n := by omega
      have HP1 := hide hp1
      have HP2 := hide hp2
      have HNs := hide hns
      clear hp1 hp2 hns
      by_cases hlt : j < xs.length
      · obtain ⟨b, o, rfl, hc⟩ := hx (ints_ne (by intro e; subst e; simp at hlt))
        have hcj : wr.cell? ⟨b, o + j, none⟩ = some (.int .u32 (xs.getD j 0)) := by
          have h1 := hc j _ (ints_get hlt)
          rw [hF.cell (World.block_lt_of_cell? w _ h1) (show ¬ Two p q b from hA (by intro e; subst e; simp at hlt) _ rfl)]; exact h1
        have hd : Hid (xs.drop j = xs.getD j 0 :: xs.drop (j + 1)) := by
          show _ = _
          rw [List.drop_eq_getElem_cons hlt]; simp [hlt]
        have hb := ux.get j
        have U := hide ux
        clear hx hA hc ux
        generalize xs.getD j 0 = x at hcj hd hb
        obtain ⟨hb0, hb1⟩ := hb
        have HN := hide hN
        clear hN
        by_cases hs : s'.steps = true
        · have Es : Hid (s'.steps = true) := hs
          have hl' := (HN.out : NorAt wr p q c s').ok.len
          have hi : S * 64 + (K + j) < s'.step.l.length := by rw [NorS.step_l]; omega
          clear hl'
          go_wp2_with (first
            | (go_at_call 71; refine (step_is HN.out).mono ?_; rintro e w1 ⟨rfl, hN1, hF1⟩; have hw0 := hN1.c0; have hcl := hN1.cell (S * 64 + (K + j)) hi; have hfr := hN1.free (S * 64 + (K + j)); have hsn := NorS.step_n s'; rw [hsn] at hw0; have HN1 := hide hN1; clear hN1 hsn))
          go_region
          go_wp2
          go_roundw
          case rel =>
            have hb := (HN1.out : NorAt w1 p q c s'.step).ok.wd (S * 64 + (K + j))
            have eb : bits BinOp.and IntKind.u32 (s'.step.wd (S * 64 + (K + j))) x = wand (s'.wd (S * 64 + K + j)) x := by
              rw [u32_and _ _ hb.1 hb.2 hb0 hb1]
              unfold wand NorS.wd
              rw [NorS.step_l, Nat.add_assoc]
            rw [eb]
            have hw := (HN.out : NorAt wr p q c s').ok.wd (S * 64 + K + j)
            have h1 := ((HN1.out : NorAt w1 p q c s'.step).stored (S * 64 + (K + j)) (wand_u32 hw (b := x))).drew
            refine ⟨j + 1, s'.step.put (S * 64 + (K + j)) (wand (s'.wd (S * 64 + K + j)) x), by omega, by go_num, h1, ((hF.trans hF1).setq _ _).drew, (NorS.step_n s').trans HNs.out, ?_, ?_⟩
            · rw [HP1.out, hd.out]
              show (if s'.steps = true then _ else _) = _
              rw [if_pos Es.out, Nat.add_assoc (S * 64) K j, Nat.add_assoc (S * 64) K (j + 1), Nat.add_assoc (S * 64) (K + j) 1]
              rfl
            · rw [HP2.out, hd.out]
              show (if s'.steps = true then _ else _) = _
              rw [if_pos Es.out, NorS.progs_put]
          case measure => simp [intOf]; omega
        · have hs0 : s'.steps = false := by simpa using hs
          have Es : Hid (s'.steps = false) := hs0
          clear hs
          go_wp2_with (first
            | (go_at_call 71; refine (step_is HN.out).mono ?_; rintro e w1 ⟨rfl, hN1, hF1⟩; have HN1 := hide hN1; clear hN1))
          go_ret
          have e1 : s.prog (S * 64 + K) xs = s'.step := by
            rw [HP1.out, hd.out]
            show (if s'.steps = true then _ else _) = _
            rw [Es.out]; rfl
          have e2 : s.progs xs = false := by
            rw [HP2.out, hd.out]
            show (if s'.steps = true then _ else _) = _
            rw [Es.out]; rfl
          exact ⟨ret_int (by rw [E'.out, e2]; rfl), by rw [E.out, e1]; exact HN1.out, hF.trans hF1⟩
      · have ej : j = xs.length := by omega
        subst ej
        have HN := hide hN
        clear hN hx hA ux
        go_wp2
        go_ret
        have e0 : xs.drop xs.length = [] := List.drop_length
        have e1 : s.prog (S * 64 + K) xs = s' := by rw [HP1.out, e0]; rfl
        have e2 : s.progs xs = true := by rw [HP2.out, e0]; rfl
        exact ⟨ret_int (by rw [E'.out, e2]; rfl), by rw [E.out, e1]; exact HN.out, hF⟩
  · have E : Hid (s.program sec k xs = s) := by show _ = _; unfold NorS.program; rw [if_neg hu]
    have E' : Hid (s.programE sec k xs = s.up sec k xs.length) := by show _ = _; unfold NorS.programE; rw [if_neg hu]
    have hu0 : (s.up sec k xs.length != 0) = true := by simpa using hu
    have H := hide h
    clear h hu hx hA ux
    go_enter Try.func49, Try.ntmps49
    go_wp2_with (first
      | (go_at_call 70; refine (up_is _ _ _ H.out (by omega) (by omega)).mono ?_; rintro e w' ⟨rfl, rfl⟩))
    go_ret
    exact ⟨ret_int E'.out.symm, by rw [E.out]; exact H.out, Frm.refl _ _⟩
theorem program_no (sec k : Int) (A : Option Addr) (cp n : Nat) (v : Value) (h : NoNor w v) :
    Calls Try.prog 49 #[v, .int .i64 sec, .int .i64 k, .slice A n cp] w fun e w' => e = .returned (.int .i64 1) ∧ w = w' := by
  have H := hide h
  clear h
  go_enter Try.func49, Try.ntmps49
  go_wp2_with (first
    | (go_at_call 70; refine (up_no _ _ _ _ H.out).mono ?_; rintro e w' ⟨rfl, rfl⟩))
  go_ret
  exact ⟨rfl, rfl⟩
end
end Go.Proofs.Ytmeegehmbphooaa
