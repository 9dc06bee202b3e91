/- The parts of the run are known calls; the whole run answers true. -/
import Derived.Test.YtdakmcoggmlglaaGreatTmM
import Derived.Test.YtdakmcoggmlglaaGreatTmR0
import Derived.Test.YtdakmcoggmlglaaGreatTmR1
import Derived.Test.YtdakmcoggmlglaaGreatTmR2
set_option linter.all false
set_option maxRecDepth 100000
namespace Go.Ab
open Go.Proofs
open Go.RowKit
noncomputable section
theorem noneKnown {P : Program} : ∀ k ∈ ([] : List Known), KnownOk P k := fun _ h => by cases h
theorem oneKnown {P : Program} {k : Known} {ks : List Known} (h : KnownOk P k) (hs : ∀ k ∈ ks, KnownOk P k) : ∀ k' ∈ k :: ks, KnownOk P k' := by
  intro k' hk
  cases hk with
  | head => exact h
  | tail _ hk => exact hs k' hk
theorem k0_ok : KnownOk Tryz.prog k0 := known_of_run (ask_ok J_ok noneKnown) k0_run
theorem k1_ok : KnownOk Tryz.prog k1 := known_of_run (ask_ok J_ok noneKnown) k1_run
theorem k2_ok : KnownOk Tryz.prog k2 := known_of_run (ask_ok J_ok noneKnown) k2_run
theorem k3_ok : KnownOk Tryz.prog k3 := known_of_run (ask_ok J_ok noneKnown) k3_run
theorem k4_ok : KnownOk Tryz.prog k4 := known_of_run (ask_ok J_ok (oneKnown k1_ok (oneKnown k2_ok (oneKnown k3_ok noneKnown)))) k4_run
theorem k5_ok : KnownOk Tryz.prog k5 := known_of_run (ask_ok J_ok noneKnown) k5_run
theorem k6_ok : KnownOk Tryz.prog k6 := known_of_run (ask_ok J_ok noneKnown) k6_run
theorem k7_ok : KnownOk Tryz.prog k7 := known_of_run (ask_ok J_ok noneKnown) k7_run
theorem k8_ok : KnownOk Tryz.prog k8 := known_of_run (ask_ok J_ok noneKnown) k8_run
theorem k9_ok : KnownOk Tryz.prog k9 := known_of_run (ask_ok J_ok noneKnown) k9_run
theorem k10_ok : KnownOk Tryz.prog k10 := known_of_run (ask_ok J_ok noneKnown) k10_run
theorem k11_ok : KnownOk Tryz.prog k11 := known_of_run (ask_ok J_ok noneKnown) k11_run
theorem k12_ok : KnownOk Tryz.prog k12 := known_of_run (ask_ok J_ok noneKnown) k12_run
theorem k13_ok : KnownOk Tryz.prog k13 := known_of_run (ask_ok J_ok noneKnown) k13_run
theorem k14_ok : KnownOk Tryz.prog k14 := known_of_run (ask_ok J_ok noneKnown) k14_run
theorem k15_ok : KnownOk Tryz.prog k15 := known_of_run (ask_ok J_ok noneKnown) k15_run
theorem k16_ok : KnownOk Tryz.prog k16 := known_of_run (ask_ok J_ok noneKnown) k16_run
theorem k17_ok : KnownOk Tryz.prog k17 := known_of_run (ask_ok J_ok noneKnown) k17_run
theorem k18_ok : KnownOk Tryz.prog k18 := known_of_run (ask_ok J_ok noneKnown) k18_run
theorem k19_ok : KnownOk Tryz.prog k19 := known_of_run (ask_ok J_ok noneKnown) k19_run
theorem k20_ok : KnownOk Tryz.prog k20 := known_of_run (ask_ok J_ok noneKnown) k20_run
theorem k21_ok : KnownOk Tryz.prog k21 := known_of_run (ask_ok J_ok (oneKnown k15_ok (oneKnown k16_ok (oneKnown k17_ok (oneKnown k18_ok (oneKnown k19_ok (oneKnown k20_ok noneKnown))))))) k21_run
theorem k22_ok : KnownOk Tryz.prog k22 := known_of_run (ask_ok J_ok noneKnown) k22_run
theorem k23_ok : KnownOk Tryz.prog k23 := known_of_run (ask_ok J_ok noneKnown) k23_run
theorem k24_ok : KnownOk Tryz.prog k24 := known_of_run (ask_ok J_ok noneKnown) k24_run
theorem k25_ok : KnownOk Tryz.prog k25 := known_of_run (ask_ok J_ok noneKnown) k25_run
theorem k26_ok : KnownOk Tryz.prog k26 := known_of_run (ask_ok J_ok noneKnown) k26_run
theorem k27_ok : KnownOk Tryz.prog k27 := known_of_run (ask_ok J_ok noneKnown) k27_run
theorem k28_ok : KnownOk Tryz.prog k28 := known_of_run (ask_ok J_ok (oneKnown k25_ok (oneKnown k26_ok (oneKnown k27_ok noneKnown)))) k28_run
theorem k29_ok : KnownOk Tryz.prog k29 := known_of_run (ask_ok J_ok noneKnown) k29_run
theorem whole_run : checkEnd Tryz.prog 1000000 (ask [k0, k4, k5, k6, k7, k8, k9, k10, k11, k12, k13, k14, k21, k22, k23, k24, k28, k29] (jobM Tryz.prog 1000000 ms 1000)) 3 [] (.bool true) = true := by kernel_rfl
theorem whole (w : World) : Calls Tryz.prog 3 #[] w fun e w' => e = .returned (.bool true) ∧ Below w.heap.size w w' := by
  refine (end_of_run (ask_ok J_ok (oneKnown k0_ok (oneKnown k4_ok (oneKnown k5_ok (oneKnown k6_ok (oneKnown k7_ok (oneKnown k8_ok (oneKnown k9_ok (oneKnown k10_ok (oneKnown k11_ok (oneKnown k12_ok (oneKnown k13_ok (oneKnown k14_ok (oneKnown k21_ok (oneKnown k22_ok (oneKnown k23_ok (oneKnown k24_ok (oneKnown k28_ok (oneKnown k29_ok noneKnown))))))))))))))))))) whole_run (fun _ => .bool true) w [] .nil).mono ?_
  rintro e w' ⟨ι, x, rfl, hv, hb⟩
  cases hv
  exact ⟨rfl, hb⟩
end
end Go.Ab
