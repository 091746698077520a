/-
  CopyWords.
-/
import Derived.Test.YtplngfphklpicaaDrvOps
import Derived.Test.YtplngfphklpicaaLowC
namespace Go.Proofs.Ytplngfphklpicaa
end Go.Proofs.Ytplngfphklpicaa
