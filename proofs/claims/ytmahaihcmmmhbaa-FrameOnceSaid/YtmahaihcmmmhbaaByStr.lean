/-
  Bytes: the string of bytes.
-/
import Derived.Test.YtmahaihcmmmhbaaBytW
import Derived.Laws.BytesArg
import Derived.Lib.Bytes
import Derived.Deep.OwnRows
namespace Go.Proofs.Ytmahaihcmmmhbaa
open Go.RowKit
set_option maxRecDepth 100000 in
/-- the string of bytes -/
theorem By.string {w : World} {v : Value} {xs : List Int} (h : By w v xs) : (convert 32 9 v).run Try.prog w = .ok (.string (strOfNums xs)) w := by
  obtain ⟨A, c, rfl, hr, hz, hlc, hc, hu⟩ := h
  cases A with
  | none =>
    have h0 : xs.length = 0 := by have := hz rfl; omega
    obtain rfl : xs = [] := List.eq_nil_of_length_eq_zero h0
    exact run_convert_bytes_nil w 32 5 Try.underlying32 Try.underlying5 0 c 9 Try.underlying9
  | some a =>
    by_cases he : xs = []
    · subst he
      have hl : (loadCells a 0).run Try.prog w = .ok (([] : List Int).map (Value.int .u8)).toArray w := by
        simpa using run_loadCells_list (P := Try.prog) w a [] (fun j v hj => by cases hj)
      show (convert 32 9 (.slice (some a) 0 c)).run Try.prog w = _
      rw [run_convert_bytes_string w 32 9 5 _ 0 c Try.underlying32 Try.underlying5 Try.underlying9, run_bytesToString w a 0 c [] hl, foldl_push_bytes]
      rfl
    · obtain ⟨b, o, e, hcl⟩ := hr (ints_ne he)
      injection e with e
      subst e
      exact run_convert_bytes_arg w 32 5 Try.underlying32 Try.underlying5 b o xs.length c xs rfl (fun i hi => hcl i _ (ints_get hi)) 9 Try.underlying9
end Go.Proofs.Ytmahaihcmmmhbaa
