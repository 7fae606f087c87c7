/- Part of the proof. -/
import Derived.Test.YtfjdehnnfljjfaaGreatGWK10
set_option linter.unusedSimpArgs false
set_option linter.unusedVariables false
set_option maxRecDepth 100000
set_option maxHeartbeats 0
namespace Go.AM.TWk
open Go.Proofs
noncomputable def spec7 : List AO := (List.replicate 2096 (.dead))
noncomputable def args7 : List Value := []
theorem part7 : Ev.allocs spec7 0 .leaf (fun n t => Ev.runF tab RT 100000 10 args7 n t isTrue) = true := by kernel_rfl
theorem hook7 : Ev.HFok RT Go.Proofs.Tryz.prog 0 10 (Ev.partH spec7 args7) := Ev.part_hook tab_ok RT_ok part7 (by kernel_rfl) (by kernel_rfl)
end Go.AM.TWk
