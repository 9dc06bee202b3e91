/- The closed facts of the row of TreeExamples, each reckoned by Lean's kernel by itself. -/
import Derived.Test.YtdakmcoggmlglaaGreatRows
import Derived.WalkKit
import Derived.ProofKit
import Derived.OpenShut
set_option linter.all false
namespace Go.Proofs.YtdakmcoggmlglaaGreat.treeExamples
open Go.ChangeShapes Go.WideShapes Go.ChangeAt Go.RowKit
set_option maxHeartbeats 0
theorem closed : joinedFacts Tryz.prog 3 Tryz.f3 Rows.treeExamplesSpec Rows.treeExamplesRow = true := by
  unfold joinedFacts
  repeat' rw [Bool.and_eq_true]
  repeat' apply And.intro
  all_goals decide +kernel
end Go.Proofs.YtdakmcoggmlglaaGreat.treeExamples
