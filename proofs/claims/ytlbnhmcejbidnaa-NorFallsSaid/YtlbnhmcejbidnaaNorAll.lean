/-
  all: each sector's words.
-/
import Derived.Test.YtlbnhmcejbidnaaNorOwn
import Derived.Test.YtlbnhmcejbidnaaNorUp
namespace Go.Proofs.Ytlbnhmcejbidnaa
open Go.RowKit
theorem rows_info : (Try.prog.info? 27).map (fun i => (i.zero, i.size, i.bytes)) = some (some (.slice none 0 0), 1, 24) := by kernel_rfl
/-- one row more behind an own row of rows -/
theorem append_rows {w : World} {ops : Array Oper} {rest : List Oper} {o : Oper} {a : Act} {Q : Exit → Act → World → Prop} (hgd : o.guard = none) (s x : Operand)
    (ho : o.op = .call { callee := .builtin .append, args := #[s, x], argTypes := #[41, 41] })
    (base n b : Nat) (v : Value) (xs : List Value) (y : Value) (hy : y.oneCell' = true) (hs : a.eval s = v) (hx : a.eval x = .slice (some ⟨b, 0, none⟩) 1 1)
    (hown : w.ownsRow base 27 1 v n xs) (hb : Blk w b 27 #[y]) (hn : n ≤ 16777216) (hbase : base ≤ w.heap.size)
    (h : ∀ g cap w', w'.ownsRow base 27 1 (.slice (some ⟨g, 0, none⟩) (n + 1) cap) (n + 1) (xs ++ [y]) → w.grownBy w' v.ownBlock → (v.ownBlock = some g ∨ g = w.heap.size) → wpList Try.prog ops Q rest (a.put o.dst (.slice (some ⟨g, 0, none⟩) (n + 1) cap)) w') :
    wpList Try.prog ops Q (o :: rest) a w := by
  obtain ⟨i0, hi0, hz0, hz1, hz2⟩ := info_parts rows_info
  exact wpList_append_lies w hgd s x 41 ho base 27 i0 _ 1 24 Try.underlying41 hi0 hz0 hz1 hz2 rfl (by omega) v n xs hs hown ⟨b, 0, none⟩ 1 1 [y] hx rfl (World.news_of_block (cs := #[y]) hb) (by simp [hy]) (by omega) (by simp [maxLen]; omega) (by omega) hbase w.heap.size rfl (fun g cap w' h1 h2 h3 _ => h g cap w' h1 h2 h3)

/-- the rows of all sectors -/
structure AllAt (w : World) (H : Nat) (A : Option Addr) (s : NorS) : Prop where
  ex : ∃ b, A = some ⟨b, 0, none⟩ ∧ H ≤ b ∧ b < w.heap.size ∧ ∀ i : Nat, i < 4 → ∃ r x cap, w.cell? ⟨b, i, none⟩ = some (.slice (some ⟨r, x, none⟩) 64 cap) ∧ Rd w (some ⟨r, x, none⟩) (ints .u32 (s.sector i)) ∧ H ≤ r ∧ r < w.heap.size
theorem AllAt.frm {S : Nat → Prop} {w w' : World} {H : Nat} {A : Option Addr} {s : NorS} (h : AllAt w H A s) (hf : Frm S w w') (hs : ∀ k, H ≤ k → ¬ S k) : AllAt w' H A s := by
  obtain ⟨b, rfl, h1, h2, h3⟩ := h.ex
  refine ⟨b, rfl, h1, Nat.lt_of_lt_of_le h2 hf.size, fun i hi => ?_⟩
  obtain ⟨r, x, cap, c1, c2, c3, c4⟩ := h3 i hi
  exact ⟨r, x, cap, by rw [hf.cell (World.block_lt_of_cell? w _ c1) (hs b h1)]; exact c1, c2.frm hf (fun a ha => by injection ha with ha; subst ha; exact hs r c3), c3, Nat.lt_of_lt_of_le c4 hf.size⟩
/-- the rows so far -/
def RowsSo (w : World) (H : Nat) (s : NorS) (v : Value) (vals : List Value) (j : Nat) : Prop := ∀ k : Nat, k < j → ∃ b x cap, vals[k]? = some (.slice (some ⟨b, x, none⟩) 64 cap) ∧ Rd w (some ⟨b, x, none⟩) (ints .u32 (s.sector k)) ∧ H ≤ b ∧ b < w.heap.size ∧ v.ownBlock ≠ some b
def AllRel (w : World) (s : NorS) (v i : Value) (wr : World) : Prop := ∃ (j : Nat) (vals : List Value), j ≤ 4 ∧ i = .int .i64 j ∧ wr.ownsRow w.heap.size 27 1 v j vals ∧ RowsSo wr w.heap.size s v vals j ∧ Frm NoB w wr
section
variable {w0 w : World} {p q c : Nat} {s : NorS}
theorem RowsSo.frm {H : Nat} {w' : World} {v : Value} {vals : List Value} {j : Nat} (h : RowsSo w H s v vals j) (hf : Frm NoB w w') : RowsSo w' H s v vals j := fun k hk => by
  obtain ⟨b, x, cap, h1, h2, h3, h4, h5⟩ := h k hk
  exact ⟨b, x, cap, h1, h2.frm hf (fun _ _ e => e), h3, Nat.lt_of_lt_of_le h4 hf.size, h5⟩
theorem RowsSo.more {H : Nat} {w' : World} {v v' : Value} {vals : List Value} {j b x cap g : Nat} (h : RowsSo w H s v vals j) (hl : vals.length = j) (hr : Rd w (some ⟨b, x, none⟩) (ints .u32 (s.sector j))) (hb : H ≤ b) (hb2 : b < w.heap.size) (hb3 : v.ownBlock ≠ some b)
    (hg : w.grownBy w' v.ownBlock) (hv : v'.ownBlock = some g) (hg2 : v.ownBlock = some g ∨ g = w.heap.size) : RowsSo w' H s v' (vals ++ [.slice (some ⟨b, x, none⟩) 64 cap]) (j + 1) := fun k hk => by
  have hf : Frm (fun k => v.ownBlock = some k) w w' := (Frm.refl _ w).grown hg (fun g hg _ => hg)
  have hsz := hf.size
  by_cases e : k = j
  · subst e
    refine ⟨b, x, cap, by rw [← hl]; simp, hr.frm hf (fun a ha => by injection ha with ha; subst ha; exact hb3), hb, by omega, ?_⟩
    rw [hv]; intro e; injection e with e
    rcases hg2 with h | h
    · rw [h, e] at hb3; exact hb3 rfl
    · omega
  · obtain ⟨b', x', cap', h1, h2, h3, h4, h5⟩ := h k (by omega)
    refine ⟨b', x', cap', by rw [List.getElem?_append_left (by omega)]; exact h1, h2.frm hf (fun a ha => by injection ha with ha; subst ha; exact h5), h3, by omega, ?_⟩
    rw [hv]; intro e; injection e with e
    rcases hg2 with h | h
    · rw [h, e] at h5; exact h5 rfl
    · omega
def AllPost (w : World) (s : NorS) (e : Ending) (w' : World) : Prop := ∃ A cap, e = .returned (.slice A 4 cap) ∧ AllAt w' w.heap.size A s ∧ Frm NoB w w'
set_option maxHeartbeats 1000000 in
theorem all_is (h : NorAt w p q c s) (hd : s.down = false) (hn : s.n = 4) :
    Calls Try.prog 18 #[.pointer (some ⟨p, 0, none⟩)] w (AllPost w s) := by
  have hu : Hid (∀ i : Nat, i < 4 → s.up i 0 1 = 0) := fun i hi => by
    unfold NorS.up NorS.there
    rw [hd, hn]
    simp; omega
  have hnn : (s.n : Int) = 4 := by omega
  have H := hide h
  have HN := hide hn
  clear h hd hn
  go_enter Try.func18, Try.ntmps18
  go_wp2_with fail
  go_loopw [3, 4] (fun v i wr => AllRel w s v i wr) (fun _ i _ => 4 - (intOf i).toNat)
  case atStart => exact ⟨0, [], by omega, rfl, World.ownsRow_nil _ _ _ _, fun k hk => by omega, Frm.refl _ _⟩
  case round =>
    obtain ⟨j, vals, hj, rfl, ho, hr, hF⟩ := hrel
    have HO := hide ho
    have HR := hide hr
    have HF := hide hF
    have H1 : Hid (NorAt wr p q c s) := (Hid.out H).frm hF (fun e => e) (fun e => e)
    obtain ⟨wo, rfl⟩ : ∃ wo : World, wo = wr := ⟨_, rfl⟩
    clear ho hr hF
    go_wp2_with fail
    refine (sectors_is H1.out).mono ?_
    rintro e w' ⟨he, rfl⟩
    rw [hnn] at he
    subst he
    by_cases hlt : j < 4
    · go_wp2_with fail
      refine (sector_is _ H1.out).mono ?_
      rintro e w1 ⟨A, c1, rfl, h1, hA, hF1⟩
      have hl : (s.sector j).length = 64 := NorS.sector_length H1.out.ok (hu.out j hlt)
      rw [hl]
      obtain ⟨a3, e3, hb3⟩ := h1.lt (ints_ne (by intro e; rw [e] at hl; simp at hl))
      obtain ⟨b, o, rfl, -⟩ := h1 (ints_ne (by intro e; rw [e] at hl; simp at hl))
      have hb1 : wo.heap.size ≤ b := hA _ rfl
      injection e3 with e3
      subst e3
      have hb2 : b < w1.heap.size := hb3
      have H2 := hide h1
      have HF1 := hide hF1
      have hsz := hF1.size
      have HB : Hid (b < w1.heap.size ∧ wo.heap.size ≤ b ∧ wo.heap.size ≤ w1.heap.size) := ⟨hb2, hb1, hsz⟩
      have hvl : Hid (vals.length = j) := by have := (Hid.out HO).1; show _ = _; simpa using this
      have hown : Hid (u3.ownBlock ≠ some b) := fun e => by have := ((Hid.out HO).lt _ e).2; omega
      have HO1 : Hid (w1.ownsRow w.heap.size 27 1 u3 j vals) := own_frm (S := NoB) (w := wo) (Hid.out HO) hF1 (fun _ _ e => e)
      have hbase : w.heap.size ≤ w1.heap.size := Nat.le_trans HF.out.size hsz
      clear h1 hF1 hA hl hb1 hb2 hb3 hsz
      go_wp2_with (first
        | (at_builtin; refine append_rows rfl (.tmp 11) (.tmp 15) rfl w.heap.size j w1.heap.size u3 vals (.slice (some ⟨b, o, none⟩) 64 c1) rfl rfl rfl ((Hid.out HO1).alloc _) (Blk.new _ _ _) (by omega) (by simp; omega) ?_; intro g2 cap w2 hown2 hgrow2 hg2))
      have HO2 := hide hown2
      have HG2 := hide hgrow2
      have HK := hide hg2
      clear hown2 hgrow2 hg2
      go_roundw
      case rel =>
        have hal : Frm NoB w1 (w1.alloc (.cells #[.slice (some ⟨b, o, none⟩) 64 c1] 27)) := (Frm.refl NoB w1).alloc _
        refine ⟨j + 1, _, by omega, by go_num, HO2.out, ?_, ((HF.out.trans HF1.out).alloc _).grown HG2.out (fun b hb hlt' => ?_)⟩
        · have hr := (HR.out.frm HF1.out).frm hal
          have hrd := (H2.out.frm hal (fun _ _ e => e))
          exact hr.more hvl.out hrd (Nat.le_trans HF.out.size HB.out.2.1) (by have := HB.out.1; have := hal.size; omega) hown.out HG2.out rfl HK.out
        · have := ((Hid.out HO1).lt b hb).1; omega
      case measure => simp [intOf]; omega
    · obtain rfl : j = 4 := by omega
      go_wp2
      go_ret
      obtain ⟨g, cap, rfl, hg, hg2⟩ := (Hid.out HO).form (by omega)
      refine ⟨_, _, rfl, ⟨g, rfl, hg, hg2, fun i hi => ?_⟩, HF.out⟩
      obtain ⟨r, x, cp, h1, h2, h3, h4, _⟩ := HR.out i hi
      have hl : vals.length = 4 := by have := (Hid.out HO).1; simpa using this
      exact ⟨r, x, cp, by rw [(Hid.out HO).cellAt i (by omega)]; exact h1, h2, h3, h4⟩
end
end Go.Proofs.Ytlbnhmcejbidnaa
