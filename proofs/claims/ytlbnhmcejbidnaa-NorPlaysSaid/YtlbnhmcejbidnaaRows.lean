/-
  No cell of these rows narrows 'for every input' (looked for: loops, veiled, ifaces, maps, wideKeys, modest, calm, conditions, laid).
  DERIVED. THE GIVEN ROWS OF THIS SEAT. 6 by the template 'for every input the law returns true; each argument reads behind the call as it read before'; 0 by the template 'total and deterministic' (their statements: YtlbnhmcejbidnaaTotals.lean).
  GIVEN WITH THE SEED: the statements are not yours to turn. If you find one false, say at which input.
  Laid BY PROGRAM, IN A SANDBOX (cutbox-rows.mjs): the forced cells as the released guide's own fill.sh prints them over the translation 54f2ced030b673a5… (all of the seat's roots in one cut). By AI agents, Wed Nov 11 2026. No macro, syntax, notation, axiom, sorry.
-/
import Derived.Test.YtlbnhmcejbidnaaChecked
import GoSem.Claim
import GoSem.ClaimJoined
import GoSem.ClaimMapViews
import Derived.JoinedTies
import Derived.KernelRfl
namespace Go.Proofs.Ytlbnhmcejbidnaa
/- THE CELL 'sum', in the pinned program and in every row, IS THE sha256 OF THE DUMP (.gsa) THAT YtlbnhmcejbidnaaProg.lean LOADS. Nothing in Lean hashes anything: it is a label: what it is worth is what the hold of that sum in a sandbox is worth. -/
noncomputable def Try.pinned : Pinned := { name := "ytlbnhmcejbidnaa", sum := "54f2ced030b673a5f863955cef115010a23d9263a1ab6f155c4f34ad49c6596d", checked := Try.checked }
namespace Rows
def none {H : Type} : Left H := { results := [], args := [] }

/-- 'blockhouselaw04.NorGuard': WHATEVER THE INPUT: true; the input reads as it did. -/
def norGuardSpec : ChangeSpec := { name := "norGuard", fn := fun _ => fun
  | [d] => { results := [.lit (.bool true)], args := [d] }
  | _ => none }
def norGuardRow : OpenClaim := { program := "ytlbnhmcejbidnaa", sum := "54f2ced030b673a5f863955cef115010a23d9263a1ab6f155c4f34ad49c6596d", func := "blockhouse/blockhouselaw04.NorGuard", spec := "norGuard", apart := false }
def NorGuardSaid : Prop := norGuardRow.holds Try.pinned (OpenSpec.ofChange norGuardSpec)

/-- ITS FALSE NEIGHBOUR: 'it returns false'. Refute it at one input. -/
def norGuardWrong : ChangeSpec := { name := "norGuard", fn := fun _ => fun
  | [d] => { results := [.lit (.bool false)], args := [d] }
  | _ => none }
def NorGuardWrongFalsely : Prop := norGuardRow.holds Try.pinned (OpenSpec.ofChange norGuardWrong)

/-- 'blockhouselaw04.NorFalls': WHATEVER THE INPUT: true; the input reads as it did. -/
def norFallsSpec : ChangeSpec := { name := "norFalls", fn := fun _ => fun
  | [d1, d2, d3, d4, d5, d6] => { results := [.lit (.bool true)], args := [d1, d2, d3, d4, d5, d6] }
  | _ => none }
def norFallsRow : OpenClaim := { program := "ytlbnhmcejbidnaa", sum := "54f2ced030b673a5f863955cef115010a23d9263a1ab6f155c4f34ad49c6596d", func := "blockhouse/blockhouselaw04.NorFalls", spec := "norFalls", apart := false }
def NorFallsSaid : Prop := norFallsRow.holds Try.pinned (OpenSpec.ofChange norFallsSpec)

/-- ITS FALSE NEIGHBOUR: 'it returns false'. Refute it at one input. -/
def norFallsWrong : ChangeSpec := { name := "norFalls", fn := fun _ => fun
  | [d1, d2, d3, d4, d5, d6] => { results := [.lit (.bool false)], args := [d1, d2, d3, d4, d5, d6] }
  | _ => none }
def NorFallsWrongFalsely : Prop := norFallsRow.holds Try.pinned (OpenSpec.ofChange norFallsWrong)

/-- 'blockhouselaw04.NorSteps': WHATEVER THE INPUT: true; the input reads as it did. -/
def norStepsSpec : ChangeSpec := { name := "norSteps", fn := fun _ => fun
  | [d1, d2] => { results := [.lit (.bool true)], args := [d1, d2] }
  | _ => none }
def norStepsRow : OpenClaim := { program := "ytlbnhmcejbidnaa", sum := "54f2ced030b673a5f863955cef115010a23d9263a1ab6f155c4f34ad49c6596d", func := "blockhouse/blockhouselaw04.NorSteps", spec := "norSteps", apart := false }
def NorStepsSaid : Prop := norStepsRow.holds Try.pinned (OpenSpec.ofChange norStepsSpec)

/-- ITS FALSE NEIGHBOUR: 'it returns false'. Refute it at one input. -/
def norStepsWrong : ChangeSpec := { name := "norSteps", fn := fun _ => fun
  | [d1, d2] => { results := [.lit (.bool false)], args := [d1, d2] }
  | _ => none }
def NorStepsWrongFalsely : Prop := norStepsRow.holds Try.pinned (OpenSpec.ofChange norStepsWrong)

/-- 'blockhouselaw04.NorTwice': WHATEVER THE INPUT: true; the input reads as it did. -/
def norTwiceSpec : ChangeSpec := { name := "norTwice", fn := fun _ => fun
  | [d1, d2, d3, d4, d5, d6] => { results := [.lit (.bool true)], args := [d1, d2, d3, d4, d5, d6] }
  | _ => none }
def norTwiceRow : OpenClaim := { program := "ytlbnhmcejbidnaa", sum := "54f2ced030b673a5f863955cef115010a23d9263a1ab6f155c4f34ad49c6596d", func := "blockhouse/blockhouselaw04.NorTwice", spec := "norTwice", apart := false }
def NorTwiceSaid : Prop := norTwiceRow.holds Try.pinned (OpenSpec.ofChange norTwiceSpec)

/-- ITS FALSE NEIGHBOUR: 'it returns false'. Refute it at one input. -/
def norTwiceWrong : ChangeSpec := { name := "norTwice", fn := fun _ => fun
  | [d1, d2, d3, d4, d5, d6] => { results := [.lit (.bool false)], args := [d1, d2, d3, d4, d5, d6] }
  | _ => none }
def NorTwiceWrongFalsely : Prop := norTwiceRow.holds Try.pinned (OpenSpec.ofChange norTwiceWrong)

/-- 'blockhouselaw04.NorNumbers': WHATEVER THE INPUT: true; the input reads as it did. -/
def norNumbersSpec : ChangeSpec := { name := "norNumbers", fn := fun _ => fun
  | [] => { results := [.lit (.bool true)], args := [] }
  | _ => none }
def norNumbersRow : OpenClaim := { program := "ytlbnhmcejbidnaa", sum := "54f2ced030b673a5f863955cef115010a23d9263a1ab6f155c4f34ad49c6596d", func := "blockhouse/blockhouselaw04.NorNumbers", spec := "norNumbers", apart := false }
def NorNumbersSaid : Prop := norNumbersRow.holds Try.pinned (OpenSpec.ofChange norNumbersSpec)

/-- ITS FALSE NEIGHBOUR: 'it returns false'. Refute it at one input. -/
def norNumbersWrong : ChangeSpec := { name := "norNumbers", fn := fun _ => fun
  | [] => { results := [.lit (.bool false)], args := [] }
  | _ => none }
def NorNumbersWrongFalsely : Prop := norNumbersRow.holds Try.pinned (OpenSpec.ofChange norNumbersWrong)

/-- 'blockhouselaw04.NorPlays': WHATEVER THE INPUT: true; the input reads as it did. -/
def norPlaysSpec : ChangeSpec := { name := "norPlays", fn := fun _ => fun
  | [d1, d2, d3] => { results := [.lit (.bool true)], args := [d1, d2, d3] }
  | _ => none }
def norPlaysRow : OpenClaim := { program := "ytlbnhmcejbidnaa", sum := "54f2ced030b673a5f863955cef115010a23d9263a1ab6f155c4f34ad49c6596d", func := "blockhouse/blockhouselaw04.NorPlays", spec := "norPlays", apart := false }
def NorPlaysSaid : Prop := norPlaysRow.holds Try.pinned (OpenSpec.ofChange norPlaysSpec)

/-- ITS FALSE NEIGHBOUR: 'it returns false'. Refute it at one input. -/
def norPlaysWrong : ChangeSpec := { name := "norPlays", fn := fun _ => fun
  | [d1, d2, d3] => { results := [.lit (.bool false)], args := [d1, d2, d3] }
  | _ => none }
def NorPlaysWrongFalsely : Prop := norPlaysRow.holds Try.pinned (OpenSpec.ofChange norPlaysWrong)

/- THE SECOND FORM. 'bulk': how many values and letters a reading holds, each counted each time it is reached (what is shared counts as often as it is met; a slice's spare places count too). A statement '..UptoSaid' is the law's where the arguments, and the package variables that the reading takes, are together of bulk at most 1048576: NARROWER than '..Said'. Prove '..Said' where nothing that the law and all that it calls make is longer than what came in: it says more and counts as full. Else prove '..UptoSaid'. A law counts once. -/
mutual
def uptoBulk {H : Type} : DataW H → Nat
  | .lit (.string bytes) => bytes.length + 1
  | .lit _ => 1
  | .nil => 1
  | .ptr d => uptoBulk d + 1
  | .slice elems spare => uptoBulkAll elems + uptoBulkAll spare + 1
  | .agg parts => uptoBulkAll parts + 1
  | .iface _ d => uptoBulk d + 1
  | .map entries => uptoBulkEntries entries + 1
  | .held _ => 1
def uptoBulkAll {H : Type} : List (DataW H) → Nat
  | [] => 0
  | d :: r => uptoBulk d + uptoBulkAll r
def uptoBulkEntries {H : Type} : List (Lit × DataW H) → Nat
  | [] => 0
  | x :: r => uptoBulkEntry x + uptoBulkEntries r
def uptoBulkEntry {H : Type} : Lit × DataW H → Nat
  | (.string bytes, d) => bytes.length + uptoBulk d + 1
  | (_, d) => uptoBulk d + 1
 end
def uptoSmall : (H : Type) → List (DataW H) → Bool := fun _ ds => decide (uptoBulkAll ds ≤ 1048576)
def OpenSpec.upto (s : _root_.Go.ChangeSpec) : _root_.Go.OpenSpec := { _root_.Go.OpenSpec.ofChange s with cond := some uptoSmall }

/-- 'blockhouselaw04.NorGuard', WHERE WHAT IT READS IS OF BULK AT MOST 1048576: true; the input reads as it did. -/
def norGuardUptoRow : OpenClaim := { program := "ytlbnhmcejbidnaa", sum := "54f2ced030b673a5f863955cef115010a23d9263a1ab6f155c4f34ad49c6596d", func := "blockhouse/blockhouselaw04.NorGuard", spec := "norGuard", apart := false, narrowed := true }
def NorGuardUptoSaid : Prop := norGuardUptoRow.holds Try.pinned (OpenSpec.upto norGuardSpec)

/-- 'blockhouselaw04.NorFalls', WHERE WHAT IT READS IS OF BULK AT MOST 1048576: true; the input reads as it did. -/
def norFallsUptoRow : OpenClaim := { program := "ytlbnhmcejbidnaa", sum := "54f2ced030b673a5f863955cef115010a23d9263a1ab6f155c4f34ad49c6596d", func := "blockhouse/blockhouselaw04.NorFalls", spec := "norFalls", apart := false, narrowed := true }
def NorFallsUptoSaid : Prop := norFallsUptoRow.holds Try.pinned (OpenSpec.upto norFallsSpec)

/-- 'blockhouselaw04.NorSteps', WHERE WHAT IT READS IS OF BULK AT MOST 1048576: true; the input reads as it did. -/
def norStepsUptoRow : OpenClaim := { program := "ytlbnhmcejbidnaa", sum := "54f2ced030b673a5f863955cef115010a23d9263a1ab6f155c4f34ad49c6596d", func := "blockhouse/blockhouselaw04.NorSteps", spec := "norSteps", apart := false, narrowed := true }
def NorStepsUptoSaid : Prop := norStepsUptoRow.holds Try.pinned (OpenSpec.upto norStepsSpec)

/-- 'blockhouselaw04.NorTwice', WHERE WHAT IT READS IS OF BULK AT MOST 1048576: true; the input reads as it did. -/
def norTwiceUptoRow : OpenClaim := { program := "ytlbnhmcejbidnaa", sum := "54f2ced030b673a5f863955cef115010a23d9263a1ab6f155c4f34ad49c6596d", func := "blockhouse/blockhouselaw04.NorTwice", spec := "norTwice", apart := false, narrowed := true }
def NorTwiceUptoSaid : Prop := norTwiceUptoRow.holds Try.pinned (OpenSpec.upto norTwiceSpec)

/-- 'blockhouselaw04.NorNumbers', WHERE WHAT IT READS IS OF BULK AT MOST 1048576: true; the input reads as it did. -/
def norNumbersUptoRow : OpenClaim := { program := "ytlbnhmcejbidnaa", sum := "54f2ced030b673a5f863955cef115010a23d9263a1ab6f155c4f34ad49c6596d", func := "blockhouse/blockhouselaw04.NorNumbers", spec := "norNumbers", apart := false, narrowed := true }
def NorNumbersUptoSaid : Prop := norNumbersUptoRow.holds Try.pinned (OpenSpec.upto norNumbersSpec)

/-- 'blockhouselaw04.NorPlays', WHERE WHAT IT READS IS OF BULK AT MOST 1048576: true; the input reads as it did. -/
def norPlaysUptoRow : OpenClaim := { program := "ytlbnhmcejbidnaa", sum := "54f2ced030b673a5f863955cef115010a23d9263a1ab6f155c4f34ad49c6596d", func := "blockhouse/blockhouselaw04.NorPlays", spec := "norPlays", apart := false, narrowed := true }
def NorPlaysUptoSaid : Prop := norPlaysUptoRow.holds Try.pinned (OpenSpec.upto norPlaysSpec)

end Rows
end Go.Proofs.Ytlbnhmcejbidnaa
