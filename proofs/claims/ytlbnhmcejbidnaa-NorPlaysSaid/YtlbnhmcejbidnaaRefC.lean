/-
  The document's flash, by value: its contracts, out of the printed ones.
-/
import Derived.Test.YtlbnhmcejbidnaaRefP
import Derived.Test.YtlbnhmcejbidnaaArgs
import Derived.Laws.ResultCell
namespace Go.Proofs.Ytlbnhmcejbidnaa
open Go.RowKit Go.Proofs.YtlbnhmcejbidnaaW.PrintWords Go.Proofs.Ytlbnhmcejbidnaa.PNorPlays

/-- the document's flash, its words at v -/
def refV (v : Value) (s : NorS) : Value := .agg #[v, .int .i64 s.guard, .int .i64 s.arm, .bool s.down, .int .i64 s.half]
/-- it is a flash: its words are of the call's own (made since w0), in blocks that P lets -/
structure Rf (w0 w : World) (P : Nat → Prop) (v : Value) (s : NorS) : Prop where
  r : Kd.R (Kd.int .u32) 36 w w0.heap.size P v s.l
  ok : s.Ok
def RfPost (w0 w : World) (P : Nat → Prop) (s' : NorS) (e : Ending) (w' : World) : Prop := ∃ v', e = .returned (refV v' s') ∧ Rf w0 w' (fun k => P k ∨ w.heap.size ≤ k) v' s' ∧ Below w0.heap.size w0 w' ∧ Frm P w w'
def RfPostE (w0 w : World) (P : Nat → Prop) (s' : NorS) (x : Int) (e : Ending) (w' : World) : Prop := ∃ v', e = .returned (.tuple #[refV v' s', .int .i64 x]) ∧ Rf w0 w' (fun k => P k ∨ w.heap.size ≤ k) v' s' ∧ Below w0.heap.size w0 w' ∧ Frm P w w'

theorem frm_kept {w0 w w' : World} {P : Nat → Prop} (h : Below w0.heap.size w0 w) (h' : Below w0.heap.size w0 w') (k : Kept w w' P) : Frm P w w' :=
  ⟨h'.os.trans h.os.symm, h'.tape.trans h.tape.symm, h'.output.trans h.output.symm, k.1, k.2⟩
theorem kd_of_rd {w : World} {A : Option Addr} {xs : List Int} (h : Rd w A (ints .u32 xs)) (hm : (xs.length : Int) ≤ 9223372036854775807) : Kd.C (Kd.int .u32) w A xs.length xs := by
  refine ⟨rfl, by omega, fun hn => ?_⟩
  obtain ⟨b, o, rfl, hc⟩ := h (ints_ne (by intro e; subst e; simp at hn))
  refine ⟨_, rfl, fun j p hj => ⟨[.int .u32 p], rfl, rfl, fun i u hu => ?_⟩⟩
  obtain ⟨hl, hp⟩ := List.getElem?_eq_some_iff.1 hj
  have h1 := hc j (.int .u32 p) (by simp [ints, hj])
  have hi : i = 0 := by
    have := (List.getElem?_eq_some_iff.1 hu).1
    simp at this; exact this
  subst hi
  simp at hu
  subst hu
  rw [addr_add]
  simpa [Kd.int, Kd.scalar] using h1
theorem kd_of_rd_bool {w : World} {A : Option Addr} {ks : List Bool} (h : Rd w A (bools ks)) (hm : (ks.length : Int) ≤ 9223372036854775807) : Kd.C Kd.bool w A ks.length ks := by
  refine ⟨rfl, by omega, fun hn => ?_⟩
  obtain ⟨b, o, rfl, hc⟩ := h (bools_ne (by intro e; subst e; simp at hn))
  refine ⟨_, rfl, fun j p hj => ⟨[.bool p], rfl, rfl, fun i u hu => ?_⟩⟩
  have h1 := hc j (.bool p) (by simp [bools, hj])
  have hi : i = 0 := by
    have := (List.getElem?_eq_some_iff.1 hu).1
    simp at this; exact this
  subst hi
  simp at hu
  subst hu
  rw [addr_add]
  simpa [Kd.bool, Kd.scalar] using h1
theorem calls_eq {P : Program} {f : Nat} {a : Array Value} {w : World} {Q Q' : Ending → World → Prop} (h : Calls P f a w Q) (hq : ∀ e w', Q e w' → Q' e w') : Calls P f a w Q' := h.mono hq

section
variable {w0 w : World} {P : Nat → Prop} {v : Value} {s : NorS}
theorem Rf.frm {S : Nat → Prop} {w' : World} (h : Rf w0 w P v s) (hf : Frm S w w') (hs : ∀ k, P k → ¬ S k) : Rf w0 w' P v s := ⟨Kd.R_step h.r (fun k hk hlt => hf.block k hlt (hs k hk)), h.ok⟩
theorem Rf.mono {Q : Nat → Prop} (h : Rf w0 w P v s) (hs : ∀ k, P k → Q k) : Rf w0 w Q v s := ⟨Kd.R_mono h.r hs, h.ok⟩
theorem Rf.small (h : Rf w0 w P v s) : Rf w0 w (fun k => P k ∧ k < w.heap.size) v s := ⟨Kd.R_mono (Kd.R_bound h.r) (fun _ hk => ⟨hk.1, hk.2.2.1⟩), h.ok⟩

theorem rd_kept {w W : World} {A : Option Addr} {vs : List Value} (h : Rd w A vs) (hk : Kept w W P) (hn : vs ≠ [] → ∀ a, A = some a → ¬ P a.block) : Rd W A vs := fun hv => by
  obtain ⟨b, o, rfl, hc⟩ := h hv
  refine ⟨b, o, rfl, fun i v hi => ?_⟩
  have h1 := hc i v hi
  have h2 := World.block_lt_of_cell? w _ h1
  rw [World.cell?_of_block (hk.2 b h2 (hn hv _ rfl))]
  exact h1
theorem ref_program (sec k : Int) (A : Option Addr) (c n : Nat) (xs : List Int) (hn : xs.length = n) (h : Rf w0 w P v s) (hB : Below w0.heap.size w0 w) (hx : RowArg w w0.heap.size A c xs) (hP : ∀ k, P k → w0.heap.size ≤ k) (hok : (s.program sec k xs).Ok) :
    Calls Try.prog 29 #[refV v s, .int .i64 sec, .int .i64 k, .slice A n c] w (RfPostE w0 w P (s.program sec k xs) (s.programE sec k xs)) := by
  subst hn
  obtain ⟨m, hf⟩ := rf_program h.ok sec k xs hx.u
  refine (blockhouseref04_Nor_Program.calls m P v s.l s.guard s.arm s.down s.half sec k A c xs _ _ _ _ _ _ w0 w hB h.r (fun W hW => kd_of_rd (rd_kept hx.r hW (fun hv a ha hp => ?_)) hx.len) hx.l hf).mono ?_
  · have h1 := hP _ hp
    have h2 := hx.b (fun e => hv (by rw [e]; rfl)) a ha
    omega
  · rintro e w' ⟨v', rfl, hr, hb, hk⟩
    exact ⟨v', rfl, ⟨hr, hok⟩, hb, frm_kept hB hb hk⟩
theorem ref_rewrite (sec k : Int) (A : Option Addr) (c n : Nat) (xs : List Int) (hn : xs.length = n) (h : Rf w0 w P v s) (hB : Below w0.heap.size w0 w) (hx : RowArg w w0.heap.size A c xs) (hP : ∀ k, P k → w0.heap.size ≤ k) (hok : (s.rewrite sec k xs).Ok) :
    Calls Try.prog 31 #[refV v s, .int .i64 sec, .int .i64 k, .slice A n c] w (RfPostE w0 w P (s.rewrite sec k xs) (s.rewriteE sec k xs)) := by
  subst hn
  obtain ⟨m, hf⟩ := rf_rewrite h.ok sec k xs
  refine (blockhouseref04_Nor_Rewrite.calls m P v s.l s.guard s.arm s.down s.half sec k A c xs _ _ _ _ _ _ w0 w hB h.r (fun W hW => kd_of_rd (rd_kept hx.r hW (fun hv a ha hp => ?_)) hx.len) hx.l hf).mono ?_
  · have h1 := hP _ hp
    have h2 := hx.b (fun e => hv (by rw [e]; rfl)) a ha
    omega
  · rintro e w' ⟨v', rfl, hr, hb, hk⟩
    exact ⟨v', rfl, ⟨hr, hok⟩, hb, frm_kept hB hb hk⟩
theorem ref_arm (k : Int) (h : Rf w0 w P v s) (hB : Below w0.heap.size w0 w) (hok : (s.arms k).Ok) :
    Calls Try.prog 32 #[refV v s, .int .i64 k] w (RfPost w0 w P (s.arms k)) := by
  refine (blockhouseref04_Nor_Arm.calls P v s.l s.guard s.arm s.down s.half k _ _ _ _ _ w0 w hB h.r (rf_arm k)).mono ?_
  rintro e w' ⟨v', rfl, hr, hb, hk⟩
  exact ⟨v', rfl, ⟨hr, hok⟩, hb, frm_kept hB hb hk⟩
theorem ref_crash (A : Option Addr) (c n : Nat) (ks : List Bool) (hn : ks.length = n) (hc : ks.length ≤ c) (h : Rf w0 w P v s) (hB : Below w0.heap.size w0 w) (hx : BoolArg w w0.heap.size A ks) (hok : (s.crash ks).Ok) :
    Calls Try.prog 33 #[refV v s, .slice A n c] w (RfPost w0 w P (s.crash ks)) := by
  subst hn
  obtain ⟨m, hf⟩ := rf_crash h.ok ks
  obtain ⟨A0, c0, rfl⟩ := Kd.R_slice h.r
  obtain ⟨-, hl, hC⟩ := Kd.R_reads' h.r
  refine (blockhouseref04_Nor_Crash.calls m A0 c0 s.l s.guard s.arm s.down s.half A c ks _ _ _ _ _ w hC hl (kd_of_rd_bool hx.r hx.m) hc hf).mono ?_
  rintro e w' ⟨v', rfl, hr, hb⟩
  exact ⟨v', rfl, ⟨Kd.R_lower (Kd.R_mono (Kd.R_bound hr) (fun k hk => .inr hk.2.1)) hB.size, hok⟩, below_step hB hb, Frm.of_below hb P⟩
theorem ref_sectors (h : Rf w0 w P v s) :
    Calls Try.prog 44 #[refV v s] w fun e w' => e = .returned (.int .i64 s.n) ∧ Below w.heap.size w w' := by
  obtain ⟨A0, c0, rfl⟩ := Kd.R_slice h.r
  obtain ⟨-, hl, hC⟩ := Kd.R_reads' h.r
  exact blockhouseref04_Nor_Sectors.calls A0 c0 s.l s.guard s.arm s.down s.half _ w hC hl (rf_sectors h.ok _ _ _ _)
theorem ref_read (sec k : Int) (h : Rf w0 w P v s) :
    Calls Try.prog 34 #[refV v s, .int .i64 sec, .int .i64 k] w fun e w' => e = .returned (.tuple #[.int .u32 (s.read sec k), .int .i64 (s.up sec k 1)]) ∧ Below w.heap.size w w' := by
  obtain ⟨A0, c0, rfl⟩ := Kd.R_slice h.r
  obtain ⟨-, hl, hC⟩ := Kd.R_reads' h.r
  exact blockhouseref04_Nor_Read.calls A0 c0 s.l s.guard s.arm s.down s.half sec k _ _ w hC hl (rf_read h.ok _ _)
theorem ref_new (n g : Nat) (h1 : 1 ≤ n) (h2 : n ≤ 1024) (hg : g ≤ n) (hB : Below w0.heap.size w0 w) (hok : (NorS.new n g).Ok) :
    Calls Try.prog 28 #[.int .i64 n, .int .i64 g] w (RfPostE w0 w (fun _ => False) (NorS.new n g) 0) := by
  obtain ⟨m, hf⟩ := rf_new n g h1 h2 hg
  refine (blockhouseref04_New.calls m n g _ _ _ _ _ _ w hf).mono ?_
  rintro e w' ⟨v', rfl, hr, hb⟩
  exact ⟨v', rfl, ⟨Kd.R_lower (Kd.R_mono (Kd.R_bound hr) (fun k hk => .inr hk.2.1)) hB.size, hok⟩, below_step hB hb, Frm.of_below hb _⟩
theorem ref_new_bad (n g : Int) (h : n < 1 ∨ 1024 < n ∨ g < 0 ∨ n < g) (w : World) :
    Calls Try.prog 28 #[.int .i64 n, .int .i64 g] w fun e w' => ∃ A c, e = .returned (.tuple #[.agg #[.slice A 0 c, .int .i64 0, .int .i64 0, .bool false, .int .i64 0], .int .i64 2]) ∧ Below w.heap.size w w' := by
  obtain ⟨m, hf⟩ := rf_new_bad n g h
  refine (blockhouseref04_New.calls m n g _ _ _ _ _ _ w hf).mono ?_
  rintro e w' ⟨v', rfl, hr, hb⟩
  obtain ⟨A0, c0, rfl⟩ := Kd.R_slice hr
  exact ⟨_, _, rfl, hb⟩
end
end Go.Proofs.Ytlbnhmcejbidnaa
