/- Functions of specs that hold them against each other and copy them. No conditions: a kit of our own. -/
import Derived.Test.YtnjpfoblmomnlaaFnA1
import Derived.Test.YtnjpfoblmomnlaaIrB
namespace Go.Proofs.Ytnjpfoblmomnlaa.Sx
open Go Go.RowKit
set_option linter.unusedVariables false
set_option linter.unusedSimpArgs false
set_option maxHeartbeats 8000000

end Go.Proofs.Ytnjpfoblmomnlaa.Sx
