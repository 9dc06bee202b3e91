/- Parts of the run, reckoned by Lean's kernel: k13, k14, k15, k16, k17. -/
import Derived.Test.YtdakmcoggmlglaaGreatTmLit0
import Derived.Test.YtdakmcoggmlglaaGreatProg
import Derived.KernelRfl
set_option linter.all false
set_option maxRecDepth 100000
namespace Go.Ab
open Go.Proofs
open Go.RowKit
noncomputable section
theorem k13_run : checkRun Tryz.prog 1000000 (ask [] (jobM Tryz.prog 1000000 ms 1000)) k13 = true := by kernel_rfl
theorem k14_run : checkRun Tryz.prog 1000000 (ask [] (jobM Tryz.prog 1000000 ms 1000)) k14 = true := by kernel_rfl
theorem k15_run : checkRun Tryz.prog 1000000 (ask [] (jobM Tryz.prog 1000000 ms 1000)) k15 = true := by kernel_rfl
theorem k16_run : checkRun Tryz.prog 1000000 (ask [] (jobM Tryz.prog 1000000 ms 1000)) k16 = true := by kernel_rfl
theorem k17_run : checkRun Tryz.prog 1000000 (ask [] (jobM Tryz.prog 1000000 ms 1000)) k17 = true := by kernel_rfl
end
end Go.Ab
