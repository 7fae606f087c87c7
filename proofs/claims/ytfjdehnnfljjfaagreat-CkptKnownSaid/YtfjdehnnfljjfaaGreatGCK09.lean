/- Part of the proof. -/
import Derived.Test.YtfjdehnnfljjfaaGreatGCK08
set_option linter.unusedSimpArgs false
set_option linter.unusedVariables false
set_option maxRecDepth 100000
set_option maxHeartbeats 0
namespace Go.AM.TCk
open Go.Proofs
noncomputable def spec5 : List AO := (List.replicate 225 (.dead))
noncomputable def args5 : List Value := []
theorem part5 : Ev.allocs spec5 0 .leaf (fun n t => Ev.runF tab RT 100000 38 args5 n t isTrue) = true := by kernel_rfl
theorem hook5 : Ev.HFok RT Go.Proofs.Tryz.prog 0 38 (Ev.partH spec5 args5) := Ev.part_hook tab_ok RT_ok part5 (by kernel_rfl) (by kernel_rfl)
end Go.AM.TCk
