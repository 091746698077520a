/-
  No cell of these rows narrows 'for every input' (looked for: loops, veiled, ifaces, maps, wideKeys, modest, calm, conditions, laid).
  DERIVED. THE GIVEN ROWS OF THIS SEAT. 6 by the template 'for every input the law returns true; each argument reads behind the call as it read before'; 0 by the template 'total and deterministic' (their statements: YtdhcgghdimkdbaaTotals.lean).
  GIVEN WITH THE SEED: the statements are not yours to turn. If you find one false, say at which input.
  Laid BY PROGRAM, IN A SANDBOX (cutbox-rows.mjs): the forced cells as the released guide's own fill.sh prints them over the translation c50646b624476790… (all of the seat's roots in one cut). By AI agents, Wed Nov 11 2026. No macro, syntax, notation, axiom, sorry.
-/
import Derived.Test.YtdhcgghdimkdbaaChecked
import GoSem.Claim
import GoSem.ClaimJoined
import GoSem.ClaimMapViews
import Derived.JoinedTies
import Derived.KernelRfl
namespace Go.Proofs.Ytdhcgghdimkdbaa
/- THE CELL 'sum', in the pinned program and in every row, IS THE sha256 OF THE DUMP (.gsa) THAT YtdhcgghdimkdbaaProg.lean LOADS. Nothing in Lean hashes anything: it is a label: what it is worth is what the hold of that sum in a sandbox is worth. -/
noncomputable def Try.pinned : Pinned := { name := "ytdhcgghdimkdbaa", sum := "c50646b6244767904fdb9e6cdd27e0a3c8b89b20128d81d7d02c752c879584c5", checked := Try.checked }
namespace Rows
def none {H : Type} : Left H := { results := [], args := [] }

/-- 'blockhouselaw01.BytesShorter': WHATEVER THE INPUT: true; the input reads as it did. -/
def bytesShorterSpec : ChangeSpec := { name := "bytesShorter", fn := fun _ => fun
  | [d1, d2, d3, d4] => { results := [.lit (.bool true)], args := [d1, d2, d3, d4] }
  | _ => none }
def bytesShorterRow : OpenClaim := { program := "ytdhcgghdimkdbaa", sum := "c50646b6244767904fdb9e6cdd27e0a3c8b89b20128d81d7d02c752c879584c5", func := "blockhouse/blockhouselaw01.BytesShorter", spec := "bytesShorter", unfollowed := true, recurses := true, apart := false }
def BytesShorterSaid : Prop := bytesShorterRow.holds Try.pinned (OpenSpec.ofChange bytesShorterSpec)

/-- ITS FALSE NEIGHBOUR: 'it returns false'. Refute it at one input. -/
def bytesShorterWrong : ChangeSpec := { name := "bytesShorter", fn := fun _ => fun
  | [d1, d2, d3, d4] => { results := [.lit (.bool false)], args := [d1, d2, d3, d4] }
  | _ => none }
def BytesShorterWrongFalsely : Prop := bytesShorterRow.holds Try.pinned (OpenSpec.ofChange bytesShorterWrong)

/-- 'blockhouselaw01.BytesFlash': WHATEVER THE INPUT: true; the input reads as it did. -/
def bytesFlashSpec : ChangeSpec := { name := "bytesFlash", fn := fun _ => fun
  | [d1, d2, d3] => { results := [.lit (.bool true)], args := [d1, d2, d3] }
  | _ => none }
def bytesFlashRow : OpenClaim := { program := "ytdhcgghdimkdbaa", sum := "c50646b6244767904fdb9e6cdd27e0a3c8b89b20128d81d7d02c752c879584c5", func := "blockhouse/blockhouselaw01.BytesFlash", spec := "bytesFlash", unfollowed := true, recurses := true, apart := false }
def BytesFlashSaid : Prop := bytesFlashRow.holds Try.pinned (OpenSpec.ofChange bytesFlashSpec)

/-- ITS FALSE NEIGHBOUR: 'it returns false'. Refute it at one input. -/
def bytesFlashWrong : ChangeSpec := { name := "bytesFlash", fn := fun _ => fun
  | [d1, d2, d3] => { results := [.lit (.bool false)], args := [d1, d2, d3] }
  | _ => none }
def BytesFlashWrongFalsely : Prop := bytesFlashRow.holds Try.pinned (OpenSpec.ofChange bytesFlashWrong)

/-- 'blockhouselaw01.BytesNumbers': WHATEVER THE INPUT: true; the input reads as it did. -/
def bytesNumbersSpec : ChangeSpec := { name := "bytesNumbers", fn := fun _ => fun
  | [] => { results := [.lit (.bool true)], args := [] }
  | _ => none }
def bytesNumbersRow : OpenClaim := { program := "ytdhcgghdimkdbaa", sum := "c50646b6244767904fdb9e6cdd27e0a3c8b89b20128d81d7d02c752c879584c5", func := "blockhouse/blockhouselaw01.BytesNumbers", spec := "bytesNumbers", unfollowed := true, recurses := true, apart := false }
def BytesNumbersSaid : Prop := bytesNumbersRow.holds Try.pinned (OpenSpec.ofChange bytesNumbersSpec)

/-- ITS FALSE NEIGHBOUR: 'it returns false'. Refute it at one input. -/
def bytesNumbersWrong : ChangeSpec := { name := "bytesNumbers", fn := fun _ => fun
  | [] => { results := [.lit (.bool false)], args := [] }
  | _ => none }
def BytesNumbersWrongFalsely : Prop := bytesNumbersRow.holds Try.pinned (OpenSpec.ofChange bytesNumbersWrong)

/-- 'blockhouselaw01.BytesTells': WHATEVER THE INPUT: true; the input reads as it did. -/
def bytesTellsSpec : ChangeSpec := { name := "bytesTells", fn := fun _ => fun
  | [d1, d2, d3, d4, d5] => { results := [.lit (.bool true)], args := [d1, d2, d3, d4, d5] }
  | _ => none }
def bytesTellsRow : OpenClaim := { program := "ytdhcgghdimkdbaa", sum := "c50646b6244767904fdb9e6cdd27e0a3c8b89b20128d81d7d02c752c879584c5", func := "blockhouse/blockhouselaw01.BytesTells", spec := "bytesTells", unfollowed := true, recurses := true, apart := false }
def BytesTellsSaid : Prop := bytesTellsRow.holds Try.pinned (OpenSpec.ofChange bytesTellsSpec)

/-- ITS FALSE NEIGHBOUR: 'it returns false'. Refute it at one input. -/
def bytesTellsWrong : ChangeSpec := { name := "bytesTells", fn := fun _ => fun
  | [d1, d2, d3, d4, d5] => { results := [.lit (.bool false)], args := [d1, d2, d3, d4, d5] }
  | _ => none }
def BytesTellsWrongFalsely : Prop := bytesTellsRow.holds Try.pinned (OpenSpec.ofChange bytesTellsWrong)

/-- 'blockhouselaw01.BytesRound': WHATEVER THE INPUT: true; the input reads as it did. -/
def bytesRoundSpec : ChangeSpec := { name := "bytesRound", fn := fun _ => fun
  | [d1, d2, d3] => { results := [.lit (.bool true)], args := [d1, d2, d3] }
  | _ => none }
def bytesRoundRow : OpenClaim := { program := "ytdhcgghdimkdbaa", sum := "c50646b6244767904fdb9e6cdd27e0a3c8b89b20128d81d7d02c752c879584c5", func := "blockhouse/blockhouselaw01.BytesRound", spec := "bytesRound", unfollowed := true, recurses := true, apart := false }
def BytesRoundSaid : Prop := bytesRoundRow.holds Try.pinned (OpenSpec.ofChange bytesRoundSpec)

/-- ITS FALSE NEIGHBOUR: 'it returns false'. Refute it at one input. -/
def bytesRoundWrong : ChangeSpec := { name := "bytesRound", fn := fun _ => fun
  | [d1, d2, d3] => { results := [.lit (.bool false)], args := [d1, d2, d3] }
  | _ => none }
def BytesRoundWrongFalsely : Prop := bytesRoundRow.holds Try.pinned (OpenSpec.ofChange bytesRoundWrong)

/-- 'blockhouselaw01.BytesEnds': WHATEVER THE INPUT: true; the input reads as it did. -/
def bytesEndsSpec : ChangeSpec := { name := "bytesEnds", fn := fun _ => fun
  | [d1, d2, d3] => { results := [.lit (.bool true)], args := [d1, d2, d3] }
  | _ => none }
def bytesEndsRow : OpenClaim := { program := "ytdhcgghdimkdbaa", sum := "c50646b6244767904fdb9e6cdd27e0a3c8b89b20128d81d7d02c752c879584c5", func := "blockhouse/blockhouselaw01.BytesEnds", spec := "bytesEnds", unfollowed := true, recurses := true, apart := false }
def BytesEndsSaid : Prop := bytesEndsRow.holds Try.pinned (OpenSpec.ofChange bytesEndsSpec)

/-- ITS FALSE NEIGHBOUR: 'it returns false'. Refute it at one input. -/
def bytesEndsWrong : ChangeSpec := { name := "bytesEnds", fn := fun _ => fun
  | [d1, d2, d3] => { results := [.lit (.bool false)], args := [d1, d2, d3] }
  | _ => none }
def BytesEndsWrongFalsely : Prop := bytesEndsRow.holds Try.pinned (OpenSpec.ofChange bytesEndsWrong)

/- THE SECOND FORM. 'bulk': how many values and letters a reading holds, each counted each time it is reached (what is shared counts as often as it is met; a slice's spare places count too). A statement '..UptoSaid' is the law's where the arguments, and the package variables that the reading takes, are together of bulk at most 1048576: NARROWER than '..Said'. Prove '..Said' where nothing that the law and all that it calls make is longer than what came in: it says more and counts as full. Else prove '..UptoSaid'. A law counts once. -/
mutual
def uptoBulk {H : Type} : DataW H → Nat
  | .lit (.string bytes) => bytes.length + 1
  | .lit _ => 1
  | .nil => 1
  | .ptr d => uptoBulk d + 1
  | .slice elems spare => uptoBulkAll elems + uptoBulkAll spare + 1
  | .agg parts => uptoBulkAll parts + 1
  | .iface _ d => uptoBulk d + 1
  | .map entries => uptoBulkEntries entries + 1
  | .held _ => 1
def uptoBulkAll {H : Type} : List (DataW H) → Nat
  | [] => 0
  | d :: r => uptoBulk d + uptoBulkAll r
def uptoBulkEntries {H : Type} : List (Lit × DataW H) → Nat
  | [] => 0
  | x :: r => uptoBulkEntry x + uptoBulkEntries r
def uptoBulkEntry {H : Type} : Lit × DataW H → Nat
  | (.string bytes, d) => bytes.length + uptoBulk d + 1
  | (_, d) => uptoBulk d + 1
 end
def uptoSmall : (H : Type) → List (DataW H) → Bool := fun _ ds => decide (uptoBulkAll ds ≤ 1048576)
def OpenSpec.upto (s : _root_.Go.ChangeSpec) : _root_.Go.OpenSpec := { _root_.Go.OpenSpec.ofChange s with cond := some uptoSmall }

/-- 'blockhouselaw01.BytesShorter', WHERE WHAT IT READS IS OF BULK AT MOST 1048576: true; the input reads as it did. -/
def bytesShorterUptoRow : OpenClaim := { program := "ytdhcgghdimkdbaa", sum := "c50646b6244767904fdb9e6cdd27e0a3c8b89b20128d81d7d02c752c879584c5", func := "blockhouse/blockhouselaw01.BytesShorter", spec := "bytesShorter", unfollowed := true, recurses := true, apart := false, narrowed := true }
def BytesShorterUptoSaid : Prop := bytesShorterUptoRow.holds Try.pinned (OpenSpec.upto bytesShorterSpec)

/-- 'blockhouselaw01.BytesFlash', WHERE WHAT IT READS IS OF BULK AT MOST 1048576: true; the input reads as it did. -/
def bytesFlashUptoRow : OpenClaim := { program := "ytdhcgghdimkdbaa", sum := "c50646b6244767904fdb9e6cdd27e0a3c8b89b20128d81d7d02c752c879584c5", func := "blockhouse/blockhouselaw01.BytesFlash", spec := "bytesFlash", unfollowed := true, recurses := true, apart := false, narrowed := true }
def BytesFlashUptoSaid : Prop := bytesFlashUptoRow.holds Try.pinned (OpenSpec.upto bytesFlashSpec)

/-- 'blockhouselaw01.BytesNumbers', WHERE WHAT IT READS IS OF BULK AT MOST 1048576: true; the input reads as it did. -/
def bytesNumbersUptoRow : OpenClaim := { program := "ytdhcgghdimkdbaa", sum := "c50646b6244767904fdb9e6cdd27e0a3c8b89b20128d81d7d02c752c879584c5", func := "blockhouse/blockhouselaw01.BytesNumbers", spec := "bytesNumbers", unfollowed := true, recurses := true, apart := false, narrowed := true }
def BytesNumbersUptoSaid : Prop := bytesNumbersUptoRow.holds Try.pinned (OpenSpec.upto bytesNumbersSpec)

/-- 'blockhouselaw01.BytesTells', WHERE WHAT IT READS IS OF BULK AT MOST 1048576: true; the input reads as it did. -/
def bytesTellsUptoRow : OpenClaim := { program := "ytdhcgghdimkdbaa", sum := "c50646b6244767904fdb9e6cdd27e0a3c8b89b20128d81d7d02c752c879584c5", func := "blockhouse/blockhouselaw01.BytesTells", spec := "bytesTells", unfollowed := true, recurses := true, apart := false, narrowed := true }
def BytesTellsUptoSaid : Prop := bytesTellsUptoRow.holds Try.pinned (OpenSpec.upto bytesTellsSpec)

/-- 'blockhouselaw01.BytesRound', WHERE WHAT IT READS IS OF BULK AT MOST 1048576: true; the input reads as it did. -/
def bytesRoundUptoRow : OpenClaim := { program := "ytdhcgghdimkdbaa", sum := "c50646b6244767904fdb9e6cdd27e0a3c8b89b20128d81d7d02c752c879584c5", func := "blockhouse/blockhouselaw01.BytesRound", spec := "bytesRound", unfollowed := true, recurses := true, apart := false, narrowed := true }
def BytesRoundUptoSaid : Prop := bytesRoundUptoRow.holds Try.pinned (OpenSpec.upto bytesRoundSpec)

/-- 'blockhouselaw01.BytesEnds', WHERE WHAT IT READS IS OF BULK AT MOST 1048576: true; the input reads as it did. -/
def bytesEndsUptoRow : OpenClaim := { program := "ytdhcgghdimkdbaa", sum := "c50646b6244767904fdb9e6cdd27e0a3c8b89b20128d81d7d02c752c879584c5", func := "blockhouse/blockhouselaw01.BytesEnds", spec := "bytesEnds", unfollowed := true, recurses := true, apart := false, narrowed := true }
def BytesEndsUptoSaid : Prop := bytesEndsUptoRow.holds Try.pinned (OpenSpec.upto bytesEndsSpec)

end Rows
end Go.Proofs.Ytdhcgghdimkdbaa
