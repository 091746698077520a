/-
  No cell of these rows narrows 'for every input' (looked for: loops, veiled, ifaces, maps, wideKeys, modest, calm, conditions, laid).
  DERIVED. THE GIVEN ROWS OF THIS SEAT. 6 by the template 'for every input the law returns true; each argument reads behind the call as it read before'; 0 by the template 'total and deterministic' (their statements: YtplngfphklpicaaTotals.lean).
  GIVEN WITH THE SEED: the statements are not yours to turn. If you find one false, say at which input.
  Laid BY PROGRAM, IN A SANDBOX (cutbox-rows.mjs): the forced cells as the released guide's own fill.sh prints them over the translation 61154a3e81418d3f… (all of the seat's roots in one cut). By AI agents, Wed Nov 11 2026. No macro, syntax, notation, axiom, sorry.
-/
import Derived.Test.YtplngfphklpicaaChecked
import GoSem.Claim
import GoSem.ClaimJoined
import GoSem.ClaimMapViews
import Derived.JoinedTies
import Derived.KernelRfl
namespace Go.Proofs.Ytplngfphklpicaa
/- THE CELL 'sum', in the pinned program and in every row, IS THE sha256 OF THE DUMP (.gsa) THAT YtplngfphklpicaaProg.lean LOADS. Nothing in Lean hashes anything: it is a label: what it is worth is what the hold of that sum in a sandbox is worth. -/
noncomputable def Try.pinned : Pinned := { name := "ytplngfphklpicaa", sum := "61154a3e81418d3fae02e3335c65082084eeb05e99e85fd137e7042c576c10dc", checked := Try.checked }
namespace Rows
def none {H : Type} : Left H := { results := [], args := [] }

/-- 'blockhouselaw05.DriveNone': WHATEVER THE INPUT: true; the input reads as it did. -/
def driveNoneSpec : ChangeSpec := { name := "driveNone", fn := fun _ => fun
  | [d1, d2, d3] => { results := [.lit (.bool true)], args := [d1, d2, d3] }
  | _ => none }
def driveNoneRow : OpenClaim := { program := "ytplngfphklpicaa", sum := "61154a3e81418d3fae02e3335c65082084eeb05e99e85fd137e7042c576c10dc", func := "blockhouse/blockhouselaw05.DriveNone", spec := "driveNone", unfollowed := true, recurses := true, apart := false }
def DriveNoneSaid : Prop := driveNoneRow.holds Try.pinned (OpenSpec.ofChange driveNoneSpec)

/-- ITS FALSE NEIGHBOUR: 'it returns false'. Refute it at one input. -/
def driveNoneWrong : ChangeSpec := { name := "driveNone", fn := fun _ => fun
  | [d1, d2, d3] => { results := [.lit (.bool false)], args := [d1, d2, d3] }
  | _ => none }
def DriveNoneWrongFalsely : Prop := driveNoneRow.holds Try.pinned (OpenSpec.ofChange driveNoneWrong)

/-- 'blockhouselaw05.DriveKeeps': WHATEVER THE INPUT: true; the input reads as it did. -/
def driveKeepsSpec : ChangeSpec := { name := "driveKeeps", fn := fun _ => fun
  | [d1, d2, d3, d4, d5] => { results := [.lit (.bool true)], args := [d1, d2, d3, d4, d5] }
  | _ => none }
def driveKeepsRow : OpenClaim := { program := "ytplngfphklpicaa", sum := "61154a3e81418d3fae02e3335c65082084eeb05e99e85fd137e7042c576c10dc", func := "blockhouse/blockhouselaw05.DriveKeeps", spec := "driveKeeps", unfollowed := true, recurses := true, apart := false }
def DriveKeepsSaid : Prop := driveKeepsRow.holds Try.pinned (OpenSpec.ofChange driveKeepsSpec)

/-- ITS FALSE NEIGHBOUR: 'it returns false'. Refute it at one input. -/
def driveKeepsWrong : ChangeSpec := { name := "driveKeeps", fn := fun _ => fun
  | [d1, d2, d3, d4, d5] => { results := [.lit (.bool false)], args := [d1, d2, d3, d4, d5] }
  | _ => none }
def DriveKeepsWrongFalsely : Prop := driveKeepsRow.holds Try.pinned (OpenSpec.ofChange driveKeepsWrong)

/-- 'blockhouselaw05.DriveNumbers': WHATEVER THE INPUT: true; the input reads as it did. -/
def driveNumbersSpec : ChangeSpec := { name := "driveNumbers", fn := fun _ => fun
  | [] => { results := [.lit (.bool true)], args := [] }
  | _ => none }
def driveNumbersRow : OpenClaim := { program := "ytplngfphklpicaa", sum := "61154a3e81418d3fae02e3335c65082084eeb05e99e85fd137e7042c576c10dc", func := "blockhouse/blockhouselaw05.DriveNumbers", spec := "driveNumbers", unfollowed := true, recurses := true, apart := false }
def DriveNumbersSaid : Prop := driveNumbersRow.holds Try.pinned (OpenSpec.ofChange driveNumbersSpec)

/-- ITS FALSE NEIGHBOUR: 'it returns false'. Refute it at one input. -/
def driveNumbersWrong : ChangeSpec := { name := "driveNumbers", fn := fun _ => fun
  | [] => { results := [.lit (.bool false)], args := [] }
  | _ => none }
def DriveNumbersWrongFalsely : Prop := driveNumbersRow.holds Try.pinned (OpenSpec.ofChange driveNumbersWrong)

/-- 'blockhouselaw05.DriveApart': WHATEVER THE INPUT: true; the input reads as it did. -/
def driveApartSpec : ChangeSpec := { name := "driveApart", fn := fun _ => fun
  | [d1, d2] => { results := [.lit (.bool true)], args := [d1, d2] }
  | _ => none }
def driveApartRow : OpenClaim := { program := "ytplngfphklpicaa", sum := "61154a3e81418d3fae02e3335c65082084eeb05e99e85fd137e7042c576c10dc", func := "blockhouse/blockhouselaw05.DriveApart", spec := "driveApart", unfollowed := true, recurses := true, apart := false }
def DriveApartSaid : Prop := driveApartRow.holds Try.pinned (OpenSpec.ofChange driveApartSpec)

/-- ITS FALSE NEIGHBOUR: 'it returns false'. Refute it at one input. -/
def driveApartWrong : ChangeSpec := { name := "driveApart", fn := fun _ => fun
  | [d1, d2] => { results := [.lit (.bool false)], args := [d1, d2] }
  | _ => none }
def DriveApartWrongFalsely : Prop := driveApartRow.holds Try.pinned (OpenSpec.ofChange driveApartWrong)

/-- 'blockhouselaw05.DriveErases': WHATEVER THE INPUT: true; the input reads as it did. -/
def driveErasesSpec : ChangeSpec := { name := "driveErases", fn := fun _ => fun
  | [d1, d2, d3] => { results := [.lit (.bool true)], args := [d1, d2, d3] }
  | _ => none }
def driveErasesRow : OpenClaim := { program := "ytplngfphklpicaa", sum := "61154a3e81418d3fae02e3335c65082084eeb05e99e85fd137e7042c576c10dc", func := "blockhouse/blockhouselaw05.DriveErases", spec := "driveErases", unfollowed := true, recurses := true, apart := false }
def DriveErasesSaid : Prop := driveErasesRow.holds Try.pinned (OpenSpec.ofChange driveErasesSpec)

/-- ITS FALSE NEIGHBOUR: 'it returns false'. Refute it at one input. -/
def driveErasesWrong : ChangeSpec := { name := "driveErases", fn := fun _ => fun
  | [d1, d2, d3] => { results := [.lit (.bool false)], args := [d1, d2, d3] }
  | _ => none }
def DriveErasesWrongFalsely : Prop := driveErasesRow.holds Try.pinned (OpenSpec.ofChange driveErasesWrong)

/-- 'blockhouselaw05.DrivePlays': WHATEVER THE INPUT: true; the input reads as it did. -/
def drivePlaysSpec : ChangeSpec := { name := "drivePlays", fn := fun _ => fun
  | [d1, d2, d3, d4, d5] => { results := [.lit (.bool true)], args := [d1, d2, d3, d4, d5] }
  | _ => none }
def drivePlaysRow : OpenClaim := { program := "ytplngfphklpicaa", sum := "61154a3e81418d3fae02e3335c65082084eeb05e99e85fd137e7042c576c10dc", func := "blockhouse/blockhouselaw05.DrivePlays", spec := "drivePlays", unfollowed := true, recurses := true, apart := false }
def DrivePlaysSaid : Prop := drivePlaysRow.holds Try.pinned (OpenSpec.ofChange drivePlaysSpec)

/-- ITS FALSE NEIGHBOUR: 'it returns false'. Refute it at one input. -/
def drivePlaysWrong : ChangeSpec := { name := "drivePlays", fn := fun _ => fun
  | [d1, d2, d3, d4, d5] => { results := [.lit (.bool false)], args := [d1, d2, d3, d4, d5] }
  | _ => none }
def DrivePlaysWrongFalsely : Prop := drivePlaysRow.holds Try.pinned (OpenSpec.ofChange drivePlaysWrong)

/- THE SECOND FORM. 'bulk': how many values and letters a reading holds, each counted each time it is reached (what is shared counts as often as it is met; a slice's spare places count too). A statement '..UptoSaid' is the law's where the arguments, and the package variables that the reading takes, are together of bulk at most 1048576: NARROWER than '..Said'. Prove '..Said' where nothing that the law and all that it calls make is longer than what came in: it says more and counts as full. Else prove '..UptoSaid'. A law counts once. -/
mutual
def uptoBulk {H : Type} : DataW H → Nat
  | .lit (.string bytes) => bytes.length + 1
  | .lit _ => 1
  | .nil => 1
  | .ptr d => uptoBulk d + 1
  | .slice elems spare => uptoBulkAll elems + uptoBulkAll spare + 1
  | .agg parts => uptoBulkAll parts + 1
  | .iface _ d => uptoBulk d + 1
  | .map entries => uptoBulkEntries entries + 1
  | .held _ => 1
def uptoBulkAll {H : Type} : List (DataW H) → Nat
  | [] => 0
  | d :: r => uptoBulk d + uptoBulkAll r
def uptoBulkEntries {H : Type} : List (Lit × DataW H) → Nat
  | [] => 0
  | x :: r => uptoBulkEntry x + uptoBulkEntries r
def uptoBulkEntry {H : Type} : Lit × DataW H → Nat
  | (.string bytes, d) => bytes.length + uptoBulk d + 1
  | (_, d) => uptoBulk d + 1
 end
def uptoSmall : (H : Type) → List (DataW H) → Bool := fun _ ds => decide (uptoBulkAll ds ≤ 1048576)
def OpenSpec.upto (s : _root_.Go.ChangeSpec) : _root_.Go.OpenSpec := { _root_.Go.OpenSpec.ofChange s with cond := some uptoSmall }

/-- 'blockhouselaw05.DriveNone', WHERE WHAT IT READS IS OF BULK AT MOST 1048576: true; the input reads as it did. -/
def driveNoneUptoRow : OpenClaim := { program := "ytplngfphklpicaa", sum := "61154a3e81418d3fae02e3335c65082084eeb05e99e85fd137e7042c576c10dc", func := "blockhouse/blockhouselaw05.DriveNone", spec := "driveNone", unfollowed := true, recurses := true, apart := false, narrowed := true }
def DriveNoneUptoSaid : Prop := driveNoneUptoRow.holds Try.pinned (OpenSpec.upto driveNoneSpec)

/-- 'blockhouselaw05.DriveKeeps', WHERE WHAT IT READS IS OF BULK AT MOST 1048576: true; the input reads as it did. -/
def driveKeepsUptoRow : OpenClaim := { program := "ytplngfphklpicaa", sum := "61154a3e81418d3fae02e3335c65082084eeb05e99e85fd137e7042c576c10dc", func := "blockhouse/blockhouselaw05.DriveKeeps", spec := "driveKeeps", unfollowed := true, recurses := true, apart := false, narrowed := true }
def DriveKeepsUptoSaid : Prop := driveKeepsUptoRow.holds Try.pinned (OpenSpec.upto driveKeepsSpec)

/-- 'blockhouselaw05.DriveNumbers', WHERE WHAT IT READS IS OF BULK AT MOST 1048576: true; the input reads as it did. -/
def driveNumbersUptoRow : OpenClaim := { program := "ytplngfphklpicaa", sum := "61154a3e81418d3fae02e3335c65082084eeb05e99e85fd137e7042c576c10dc", func := "blockhouse/blockhouselaw05.DriveNumbers", spec := "driveNumbers", unfollowed := true, recurses := true, apart := false, narrowed := true }
def DriveNumbersUptoSaid : Prop := driveNumbersUptoRow.holds Try.pinned (OpenSpec.upto driveNumbersSpec)

/-- 'blockhouselaw05.DriveApart', WHERE WHAT IT READS IS OF BULK AT MOST 1048576: true; the input reads as it did. -/
def driveApartUptoRow : OpenClaim := { program := "ytplngfphklpicaa", sum := "61154a3e81418d3fae02e3335c65082084eeb05e99e85fd137e7042c576c10dc", func := "blockhouse/blockhouselaw05.DriveApart", spec := "driveApart", unfollowed := true, recurses := true, apart := false, narrowed := true }
def DriveApartUptoSaid : Prop := driveApartUptoRow.holds Try.pinned (OpenSpec.upto driveApartSpec)

/-- 'blockhouselaw05.DriveErases', WHERE WHAT IT READS IS OF BULK AT MOST 1048576: true; the input reads as it did. -/
def driveErasesUptoRow : OpenClaim := { program := "ytplngfphklpicaa", sum := "61154a3e81418d3fae02e3335c65082084eeb05e99e85fd137e7042c576c10dc", func := "blockhouse/blockhouselaw05.DriveErases", spec := "driveErases", unfollowed := true, recurses := true, apart := false, narrowed := true }
def DriveErasesUptoSaid : Prop := driveErasesUptoRow.holds Try.pinned (OpenSpec.upto driveErasesSpec)

/-- 'blockhouselaw05.DrivePlays', WHERE WHAT IT READS IS OF BULK AT MOST 1048576: true; the input reads as it did. -/
def drivePlaysUptoRow : OpenClaim := { program := "ytplngfphklpicaa", sum := "61154a3e81418d3fae02e3335c65082084eeb05e99e85fd137e7042c576c10dc", func := "blockhouse/blockhouselaw05.DrivePlays", spec := "drivePlays", unfollowed := true, recurses := true, apart := false, narrowed := true }
def DrivePlaysUptoSaid : Prop := drivePlaysUptoRow.holds Try.pinned (OpenSpec.upto drivePlaysSpec)

end Rows
end Go.Proofs.Ytplngfphklpicaa
