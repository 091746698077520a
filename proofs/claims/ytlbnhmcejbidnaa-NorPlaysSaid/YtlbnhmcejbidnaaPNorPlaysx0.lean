-- PRINTED BY print.sh 35421559b90ae4d0a3588c463048766b98c2df88dd9212a6774a882060cdf62d: not written by this session
import Derived.Test.YtlbnhmcejbidnaaProg
import Derived.Below
import Derived.Deep.Draws
import Derived.Deep.AppendLies
import Derived.Maps.AppendAt
import Derived.OwnWalk
import Derived.Laws.BytesArg
import Derived.Laws.MakeOwn
import Derived.Laws.OwnMore
import Derived.Deep.OwnRows
import Derived.Tactics
import Derived.Lib.ConvBytes
import Derived.Laws.Slices
import Derived.WalkKit
import Derived.KernelRfl
import Derived.RowKit3
import Derived.Deep.LoopGhost
import Derived.Deep.QuietTactic
import Derived.BigQuiet
import Derived.WideLaws
import Derived.Deep.DeepCutAuto
import Derived.Deep.CutBlock
import Derived.Deep.RegionHeld3
import Derived.Laws.Rows
import Derived.Lib.AppendStr
import Derived.ArgAppend
import Derived.Laws.IdiomCopy
import Derived.OrdersHeld
import Derived.Laws.BitsLemmas
import Derived.RowKit
import Derived.Test.YtlbnhmcejbidnaaWWords
import Derived.Test.YtlbnhmcejbidnaaWLast
import Derived.Test.YtlbnhmcejbidnaaWTab
import Derived.Test.YtlbnhmcejbidnaaWFour
import Derived.Test.YtlbnhmcejbidnaaWQPut
import Derived.Test.YtlbnhmcejbidnaaWApart
import Derived.Test.YtlbnhmcejbidnaaWArr
import Derived.Test.YtlbnhmcejbidnaaWZeros
import Derived.Test.YtlbnhmcejbidnaaWFoot
import Derived.Test.YtlbnhmcejbidnaaWKept
import Derived.Test.YtlbnhmcejbidnaaWShare
import Derived.Test.YtlbnhmcejbidnaaWN
import Derived.Test.YtlbnhmcejbidnaaWFootNe
import Derived.Test.YtlbnhmcejbidnaaWAt
import Derived.Test.YtlbnhmcejbidnaaWEqStruct
import Derived.Test.YtlbnhmcejbidnaaWRepsOne
import Derived.Test.YtlbnhmcejbidnaaWInv
import Derived.Test.YtlbnhmcejbidnaaWInvWords
import Derived.Test.YtlbnhmcejbidnaaWGuard
import Derived.Test.YtlbnhmcejbidnaaWNEv
import Derived.Test.YtlbnhmcejbidnaaWMore
namespace Go.Proofs.Ytlbnhmcejbidnaa.PNorPlays
open Go.RowKit Go.Proofs.YtlbnhmcejbidnaaW.PrintWords Go.Proofs.YtlbnhmcejbidnaaW.PrintLast Go.Proofs.YtlbnhmcejbidnaaW.PrintMore
attribute [local go_sem] max2_int min2_int max_two min_two max_three min_three max_four min_four   -- for this text's walks alone
set_option linter.unusedVariables false
set_option linter.unusedSimpArgs false



def errW : Option Int → Value
  | none => .nilIface
  | some c => .iface 0 (.int .i64 c)
theorem errW_none : errW none = .nilIface := rfl
theorem errW_some (c : Int) : errW (some c) = .iface 0 (.int .i64 c) := rfl

theorem info36 : (Try.prog.info? 36).map (fun i => (i.zero, i.size, i.bytes)) = some (some (.int .u32 0), 1, 4) := by kernel_rfl
-- the values' own types

end Go.Proofs.Ytlbnhmcejbidnaa.PNorPlays
