/- Parts of the run, reckoned by Lean's kernel: k18, k19, k20, k21, k22, k23, k24, k25, k26, k27, k28, k29. -/
import Derived.Test.YtdakmcoggmlglaaGreatTmLit0
import Derived.Test.YtdakmcoggmlglaaGreatProg
import Derived.KernelRfl
set_option linter.all false
set_option maxRecDepth 100000
namespace Go.Ab
open Go.Proofs
open Go.RowKit
noncomputable section
theorem k18_run : checkRun Tryz.prog 1000000 (ask [] (jobM Tryz.prog 1000000 ms 1000)) k18 = true := by kernel_rfl
theorem k19_run : checkRun Tryz.prog 1000000 (ask [] (jobM Tryz.prog 1000000 ms 1000)) k19 = true := by kernel_rfl
theorem k20_run : checkRun Tryz.prog 1000000 (ask [] (jobM Tryz.prog 1000000 ms 1000)) k20 = true := by kernel_rfl
theorem k21_run : checkRun Tryz.prog 1000000 (ask [k15, k16, k17, k18, k19, k20] (jobM Tryz.prog 1000000 ms 1000)) k21 = true := by kernel_rfl
theorem k22_run : checkRun Tryz.prog 1000000 (ask [] (jobM Tryz.prog 1000000 ms 1000)) k22 = true := by kernel_rfl
theorem k23_run : checkRun Tryz.prog 1000000 (ask [] (jobM Tryz.prog 1000000 ms 1000)) k23 = true := by kernel_rfl
theorem k24_run : checkRun Tryz.prog 1000000 (ask [] (jobM Tryz.prog 1000000 ms 1000)) k24 = true := by kernel_rfl
theorem k25_run : checkRun Tryz.prog 1000000 (ask [] (jobM Tryz.prog 1000000 ms 1000)) k25 = true := by kernel_rfl
theorem k26_run : checkRun Tryz.prog 1000000 (ask [] (jobM Tryz.prog 1000000 ms 1000)) k26 = true := by kernel_rfl
theorem k27_run : checkRun Tryz.prog 1000000 (ask [] (jobM Tryz.prog 1000000 ms 1000)) k27 = true := by kernel_rfl
theorem k28_run : checkRun Tryz.prog 1000000 (ask [k25, k26, k27] (jobM Tryz.prog 1000000 ms 1000)) k28 = true := by kernel_rfl
theorem k29_run : checkRun Tryz.prog 1000000 (ask [] (jobM Tryz.prog 1000000 ms 1000)) k29 = true := by kernel_rfl
end
end Go.Ab
