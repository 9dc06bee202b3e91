/- Parts of the run, reckoned by Lean's kernel: k0, k1, k2, k3, k4, k5, k6, k7, k8, k9, k10, k11, k12. -/
import Derived.Test.YtdakmcoggmlglaaGreatTmLit0
import Derived.Test.YtdakmcoggmlglaaGreatProg
import Derived.KernelRfl
set_option linter.all false
set_option maxRecDepth 100000
namespace Go.Ab
open Go.Proofs
open Go.RowKit
noncomputable section
theorem k0_run : checkRun Tryz.prog 1000000 (ask [] (jobM Tryz.prog 1000000 ms 1000)) k0 = true := by kernel_rfl
theorem k1_run : checkRun Tryz.prog 1000000 (ask [] (jobM Tryz.prog 1000000 ms 1000)) k1 = true := by kernel_rfl
theorem k2_run : checkRun Tryz.prog 1000000 (ask [] (jobM Tryz.prog 1000000 ms 1000)) k2 = true := by kernel_rfl
theorem k3_run : checkRun Tryz.prog 1000000 (ask [] (jobM Tryz.prog 1000000 ms 1000)) k3 = true := by kernel_rfl
theorem k4_run : checkRun Tryz.prog 1000000 (ask [k1, k2, k3] (jobM Tryz.prog 1000000 ms 1000)) k4 = true := by kernel_rfl
theorem k5_run : checkRun Tryz.prog 1000000 (ask [] (jobM Tryz.prog 1000000 ms 1000)) k5 = true := by kernel_rfl
theorem k6_run : checkRun Tryz.prog 1000000 (ask [] (jobM Tryz.prog 1000000 ms 1000)) k6 = true := by kernel_rfl
theorem k7_run : checkRun Tryz.prog 1000000 (ask [] (jobM Tryz.prog 1000000 ms 1000)) k7 = true := by kernel_rfl
theorem k8_run : checkRun Tryz.prog 1000000 (ask [] (jobM Tryz.prog 1000000 ms 1000)) k8 = true := by kernel_rfl
theorem k9_run : checkRun Tryz.prog 1000000 (ask [] (jobM Tryz.prog 1000000 ms 1000)) k9 = true := by kernel_rfl
theorem k10_run : checkRun Tryz.prog 1000000 (ask [] (jobM Tryz.prog 1000000 ms 1000)) k10 = true := by kernel_rfl
theorem k11_run : checkRun Tryz.prog 1000000 (ask [] (jobM Tryz.prog 1000000 ms 1000)) k11 = true := by kernel_rfl
theorem k12_run : checkRun Tryz.prog 1000000 (ask [] (jobM Tryz.prog 1000000 ms 1000)) k12 = true := by kernel_rfl
end
end Go.Ab
