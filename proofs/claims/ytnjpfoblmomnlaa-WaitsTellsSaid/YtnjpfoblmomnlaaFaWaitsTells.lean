/- What the row of WaitsTells says of the program's text is so. No conditions: a kit of our own. -/
import Derived.Test.YtnjpfoblmomnlaaRows
import Derived.Test.YtnjpfoblmomnlaaChecked
import Derived.JoinedOf
import Derived.KernelRfl
namespace Go.Proofs.Ytnjpfoblmomnlaa.Sx
open Go
theorem facts_WaitsTells : joinedFacts Try.pinned.checked.prog 4 Try.f4 Rows.waitsTellsSpec Rows.waitsTellsRow = true := by kernel_rfl
end Go.Proofs.Ytnjpfoblmomnlaa.Sx
