/- Package graph: nodes told in order, by the closure of another caller. No conditions: a kit of our own. -/
import Derived.Test.YtaimhgmakgbfaaaFnGr4
namespace Go.Proofs.Ytaimhgmakgbfaaa.Sx
open Go Go.RowKit
open Hp (mget mput mdel HpS)
set_option linter.unusedVariables false
set_option linter.unusedSimpArgs false

end Go.Proofs.Ytaimhgmakgbfaaa.Sx
