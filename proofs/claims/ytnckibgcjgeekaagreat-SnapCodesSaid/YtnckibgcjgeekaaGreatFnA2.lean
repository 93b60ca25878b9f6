/- Commands, by their checks: what the functions give. No conditions: a kit of our own. -/
import Derived.Test.YtnckibgcjgeekaaGreatFnA1
namespace Go.Proofs.YtnckibgcjgeekaaGreat.Sx
open Go Go.RowKit
set_option linter.unusedVariables false
set_option linter.unusedSimpArgs false

end Go.Proofs.YtnckibgcjgeekaaGreat.Sx
