/- Laws of graphs: the document's reach, what must come at any rate, orders, reach and levels. No conditions: a kit of our own. -/
import Derived.Test.YtnjpfoblmomnlaaFnGr9
import Derived.Test.YtnjpfoblmomnlaaFnI2
namespace Go.Proofs.Ytnjpfoblmomnlaa.Sx
open Go Go.RowKit
open Hp (mget mput mdel HpS)
set_option linter.unusedVariables false
set_option linter.unusedSimpArgs false

end Go.Proofs.Ytnjpfoblmomnlaa.Sx
