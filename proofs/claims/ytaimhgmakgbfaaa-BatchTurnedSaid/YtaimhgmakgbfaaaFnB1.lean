/- Functions of specs that hold them against each other and copy them. No conditions: a kit of our own. -/
import Derived.Test.YtaimhgmakgbfaaaFnA1
import Derived.Test.YtaimhgmakgbfaaaIrB
namespace Go.Proofs.Ytaimhgmakgbfaaa.Sx
open Go Go.RowKit
set_option linter.unusedVariables false
set_option linter.unusedSimpArgs false

end Go.Proofs.Ytaimhgmakgbfaaa.Sx
