-- PRINTED BY print.sh 35421559b90ae4d0a3588c463048766b98c2df88dd9212a6774a882060cdf62d: not written by this session
import Derived.Test.YtplngfphklpicaaProg
import Derived.Below
import Derived.Deep.Draws
import Derived.Deep.AppendLies
import Derived.Maps.AppendAt
import Derived.OwnWalk
import Derived.Laws.BytesArg
import Derived.Laws.MakeOwn
import Derived.Laws.OwnMore
import Derived.Deep.OwnRows
import Derived.Tactics
import Derived.Lib.ConvBytes
import Derived.Laws.Slices
import Derived.WalkKit
import Derived.KernelRfl
import Derived.RowKit3
import Derived.Deep.LoopGhost
import Derived.Deep.QuietTactic
import Derived.BigQuiet
import Derived.WideLaws
import Derived.Deep.DeepCutAuto
import Derived.Deep.CutBlock
import Derived.Deep.RegionHeld3
import Derived.Laws.Rows
import Derived.Lib.AppendStr
import Derived.ArgAppend
import Derived.Laws.IdiomCopy
import Derived.OrdersHeld
import Derived.Laws.BitsLemmas
import Derived.RowKit
import Derived.Test.YtplngfphklpicaaWWords
import Derived.Test.YtplngfphklpicaaWLast
import Derived.Test.YtplngfphklpicaaWTab
import Derived.Test.YtplngfphklpicaaWFour
import Derived.Test.YtplngfphklpicaaWQPut
import Derived.Test.YtplngfphklpicaaWApart
import Derived.Test.YtplngfphklpicaaWArr
import Derived.Test.YtplngfphklpicaaWZeros
import Derived.Test.YtplngfphklpicaaWFoot
import Derived.Test.YtplngfphklpicaaWKept
import Derived.Test.YtplngfphklpicaaWShare
import Derived.Test.YtplngfphklpicaaWN
import Derived.Test.YtplngfphklpicaaWFootNe
import Derived.Test.YtplngfphklpicaaWAt
import Derived.Test.YtplngfphklpicaaWEqStruct
import Derived.Test.YtplngfphklpicaaWRepsOne
import Derived.Test.YtplngfphklpicaaWInv
import Derived.Test.YtplngfphklpicaaWInvWords
import Derived.Test.YtplngfphklpicaaWGuard
import Derived.Test.YtplngfphklpicaaWNEv
import Derived.Test.YtplngfphklpicaaWMore
namespace Go.Proofs.Ytplngfphklpicaa.PDrivePlays
open Go.RowKit Go.Proofs.YtplngfphklpicaaW.PrintWords Go.Proofs.YtplngfphklpicaaW.PrintLast Go.Proofs.YtplngfphklpicaaW.PrintMore
attribute [local go_sem] max2_int min2_int max_two min_two max_three min_three max_four min_four   -- for this text's walks alone
set_option linter.unusedVariables false
set_option linter.unusedSimpArgs false



def errW : Option Int → Value
  | none => .nilIface
  | some c => .iface 0 (.int .i64 c)
theorem errW_none : errW none = .nilIface := rfl
theorem errW_some (c : Int) : errW (some c) = .iface 0 (.int .i64 c) := rfl

theorem info48 : (Try.prog.info? 48).map (fun i => (i.zero, i.size, i.bytes)) = some (some (.int .u32 0), 1, 4) := by kernel_rfl
-- the values' own types

end Go.Proofs.Ytplngfphklpicaa.PDrivePlays
