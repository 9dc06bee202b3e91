/- Calls that look at nothing but their arguments, reckoned by Lean's kernel. -/
import Derived.Test.YtdakmcoggmlglaaGreatTmLit0
import Derived.Test.YtdakmcoggmlglaaGreatProg
import Derived.KernelRfl
set_option linter.all false
set_option maxRecDepth 100000
namespace Go.Ab
open Go.Proofs
open Go.RowKit
noncomputable section
theorem ms0_run : checkMemos Tryz.prog 1000000 (jobF Tryz.prog 1000000 1000) ms0 = true := by kernel_rfl
theorem ms_ok : ∀ m ∈ ms, MemoOk Tryz.prog m := (memos_of_run (jobF_ok Tryz.prog 1000000 1000) ms0_run)
theorem J_ok : JOk Tryz.prog (jobM Tryz.prog 1000000 ms 1000) := jobM_ok ms_ok 1000
end
end Go.Ab
