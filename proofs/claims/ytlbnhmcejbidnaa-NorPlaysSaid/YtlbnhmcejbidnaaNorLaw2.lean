/-
  The helpers of the flash's statements: reads, Sector.
-/
import Derived.Test.YtlbnhmcejbidnaaNorLaw1
import Derived.Deep.AppendLies
namespace Go.Proofs.Ytlbnhmcejbidnaa
open Go.RowKit

theorem uint32_info : (Try.prog.info? 36).map (fun i => (i.zero, i.size, i.bytes)) = some (some (.int .u32 0), 1, 4) := by kernel_rfl
/-- one word more behind an own row of words -/
theorem append_word {w : World} {ops : Array Oper} {rest : List Oper} {o : Oper} {a : Act} {Q : Exit → Act → World → Prop} (hgd : o.guard = none) (s x : Operand)
    (ho : o.op = .call { callee := .builtin .append, args := #[s, x], argTypes := #[27, 27] })
    (base n b : Nat) (v : Value) (xs : List Int) (y : Int) (hs : a.eval s = v) (hx : a.eval x = .slice (some ⟨b, 0, none⟩) 1 1)
    (hown : w.ownsRow base 36 1 v n (ints .u32 xs)) (hb : Blk w b 36 #[.int .u32 y]) (hn : n ≤ 16777216) (hbase : base ≤ w.heap.size)
    (h : ∀ g cap w', w'.ownsRow base 36 1 (.slice (some ⟨g, 0, none⟩) (n + 1) cap) (n + 1) (ints .u32 (xs ++ [y])) → w.grownBy w' v.ownBlock → wpList Try.prog ops Q rest (a.put o.dst (.slice (some ⟨g, 0, none⟩) (n + 1) cap)) w') :
    wpList Try.prog ops Q (o :: rest) a w := by
  obtain ⟨i0, hi0, hz0, hz1, hz2⟩ := info_parts uint32_info
  refine wpList_append_lies w hgd s x 27 ho base 36 i0 _ 1 4 Try.underlying27 hi0 hz0 hz1 hz2 rfl (by omega) v n (ints .u32 xs) hs hown ⟨b, 0, none⟩ 1 1 [.int .u32 y] hx rfl (World.news_of_block (cs := #[.int .u32 y]) hb) (by simp [Value.oneCell']) (by omega) (by simp [maxLen]; omega) (by omega) hbase w.heap.size rfl (fun g cap w' h1 h2 _ _ => h g cap w' ?_ h2)
  have e : ints .u32 (xs ++ [y]) = ints .u32 xs ++ [.int .u32 y] := by simp [ints]
  rw [e]
  exact h1

namespace NorS
/-- the words of a sector that can be read -/
def sector (s : NorS) (i : Int) : List Int := if s.up i 0 1 = 0 then (s.l.drop (at_ i 0)).take 64 else []
theorem up_same {s : NorS} {i : Int} {j : Nat} (hj : j < 64) : s.up i j 1 = s.up i 0 1 := by
  unfold up there
  have e1 : decide (0 ≤ (j : Int)) = true := by simp
  have e2 : decide ((j : Int) ≤ 64 - 1) = true := by simp; omega
  have e3 : decide ((0 : Int) ≤ 64 - 1) = true := by simp
  simp only [e1, e2, e3]
  simp
theorem sector_length {s : NorS} (h : s.Ok) {i : Int} (hu : s.up i 0 1 = 0) : (s.sector i).length = 64 := by
  obtain ⟨_, i0, i1, _, _⟩ := up_zero hu
  have hl := h.len
  unfold sector at_
  rw [if_pos hu]
  simp
  omega
theorem sector_get {s : NorS} {i : Int} (hu : s.up i 0 1 = 0) {j : Nat} (hj : j < 64) : s.read i j = (s.sector i).getD j 0 := by
  unfold read sector
  rw [up_same hj, if_pos hu, if_pos hu]
  simp only [wd, List.getD_eq_getElem?_getD]
  rw [List.getElem?_take_of_lt hj, List.getElem?_drop]
  congr 2
end NorS

section
variable {w : World} {p q c : Nat} {s : NorS}
def SectorPost (w : World) (xs : List Int) (e : Ending) (w' : World) : Prop := ∃ A c, e = .returned (.slice A xs.length c) ∧ Rd w' A (ints .u32 xs) ∧ (∀ a, A = some a → w.heap.size ≤ a.block) ∧ Frm NoB w w'
def SectorRel (w : World) (xs : List Int) (v i : Value) (wr : World) : Prop := ∃ j : Nat, j ≤ 64 ∧ i = .int .i64 j ∧ wr.ownsRow w.heap.size 36 1 v j (ints .u32 (xs.take j)) ∧ Frm NoB w wr
theorem Rd.of_own {w : World} {base : Nat} {e : TypeId} {v : Value} {n : Nat} {xs : List Value} (h : w.ownsRow base e 1 v n xs) : ∃ A c, v = .slice A n c ∧ Rd w A xs ∧ (∀ a, A = some a → base ≤ a.block ∧ a.block < w.heap.size) ∧ n ≤ c := by
  rcases h.2 with ⟨rfl, rfl⟩ | ⟨g, cap, cur, rfl, h1, h2, h3, h4, h5, h6⟩
  · refine ⟨none, 0, rfl, ?_, (fun a ha => by cases ha), Nat.le_refl _⟩
    have : xs = [] := List.eq_nil_of_length_eq_zero (by simpa using h.1)
    rw [this]; exact Rd.nil _ _
  · refine ⟨_, _, rfl, (fun _ => ⟨g, 0, rfl, fun i v hv => ?_⟩), (fun a ha => ?_), h3⟩
    · have hi : i < xs.length := (List.getElem?_eq_some_iff.1 hv).1
      have := h.cellAt i (by rw [← h.1]; exact hi)
      rw [Nat.zero_add, this]; exact hv
    · injection ha with ha; subst ha; exact ⟨h1, (h.lt g rfl).2⟩

set_option maxHeartbeats 400000 in
theorem sector_is (i : Int) (h : NorAt w p q c s) :
    Calls Try.prog 13 #[.pointer (some ⟨p, 0, none⟩), .int .i64 i] w (SectorPost w (s.sector i)) := by
  by_cases hu : s.up i 0 1 = 0
  · have hlen := NorS.sector_length h.ok hu
    have HU := hide hu
    have HL := hide hlen
    have H := hide h
    clear h hu hlen
    go_enter Try.func13, Try.ntmps13
    go_wp2
    go_loopw [5, 6] (fun v i' wr => SectorRel w (s.sector i) v i' wr) (fun _ i' _ => 64 - (intOf i').toNat)
    case atStart => exact ⟨0, by omega, rfl, by simpa [ints] using World.ownsRow_nil w _ _ _, Frm.refl _ _⟩
    case round =>
      obtain ⟨j, hj, rfl, hown, hF⟩ := hrel
      have HO := hide hown
      have HN := hide ((Hid.out H).frm hF (fun e => e) (fun e => e))
      have hsz := hF.size
      clear hown
      by_cases hlt : j < 64
      · have hup : (s.up i j 1 != 0) = false := by rw [NorS.up_same hlt, HU.out]; rfl
        have hg := hide (NorS.sector_get HU.out hlt)
        go_wp2_with (first
          | (go_at_call 27; refine (read_is _ _ HN.out).mono ?_; rintro e w' ⟨rfl, rfl⟩)
          | (at_builtin; refine append_word rfl (.tmp 22) (.tmp 24) rfl w.heap.size j wr.heap.size _ ((s.sector i).take j) (s.read i j) rfl rfl ((Hid.out HO).alloc _) (Blk.new _ _ _) (by omega) (by simp; omega) ?_; intro g2 cap w2 hown2 hgrow2))
        have HO2 := hide hown2
        have HG2 := hide hgrow2
        clear hown2 hgrow2
        go_roundw
        case rel =>
          refine ⟨j + 1, by omega, by go_num, ?_, (hF.alloc _).grown HG2.out (fun b hb hlt' => ?_)⟩
          · have e : (s.sector i).take (j + 1) = (s.sector i).take j ++ [s.read i j] := by
              have hl : (s.sector i).length = 64 := HL.out
              rw [List.take_succ_eq_append_getElem (by omega), hg.out]
              simp [hl, hlt]
            rw [e]
            exact HO2.out
          · have := ((Hid.out HO).lt b hb).1; omega
        case measure => simp [intOf]; omega
      · obtain rfl : j = 64 := by omega
        go_wp2
        go_ret
        have hl : (s.sector i).length = 64 := HL.out
        have ho := HO.out
        rw [List.take_of_length_le (by omega)] at ho
        obtain ⟨A, c2, rfl, h1, h2, _⟩ := Rd.of_own ho
        exact ⟨A, c2, by simp [hl], h1, fun a ha => (h2 a ha).1, hF⟩
  · have E : Hid (s.sector i = []) := by show _ = _; unfold NorS.sector; rw [if_neg hu]
    have hup : (s.up i 0 1 != 0) = true := by simpa using hu
    have H := hide h
    clear h hu
    go_enter Try.func13, Try.ntmps13
    go_wp2
    refine wp_loop_once ?_
    go_wp2_with (first
      | (go_at_call 27; refine (read_is _ _ H.out).mono ?_; rintro e w' ⟨rfl, rfl⟩))
    go_ret
    exact ⟨none, 0, by rw [E.out]; rfl, by rw [E.out]; exact Rd.nil _ _, fun a ha => (by cases ha), Frm.refl _ _⟩
end
end Go.Proofs.Ytlbnhmcejbidnaa
