/-
  The helpers of the flash's statements: Pick, SameWords.
-/
import Derived.Test.YtplngfphklpicaaNorGen
import Derived.Test.YtplngfphklpicaaLowP
import Derived.Test.YtplngfphklpicaaLowS
namespace Go.Proofs.Ytplngfphklpicaa
end Go.Proofs.Ytplngfphklpicaa
