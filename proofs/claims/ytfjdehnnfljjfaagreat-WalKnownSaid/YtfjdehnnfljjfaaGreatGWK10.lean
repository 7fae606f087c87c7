/- Part of the proof. -/
import Derived.Test.YtfjdehnnfljjfaaGreatGWK09
set_option linter.unusedSimpArgs false
set_option linter.unusedVariables false
set_option maxRecDepth 100000
set_option maxHeartbeats 0
namespace Go.AM.TWk
open Go.Proofs
noncomputable def spec6 : List AO := (List.replicate 2092 (.dead) ++ [.cells false false 1 ([.int .u8 (.ofNat 1)]) 5, .cells false false 1 ([.int .u8 (.ofNat 2)]) 5, .cells false false 1 ([.int .u8 (.ofNat 3)]) 5, .cells false false 1 ([.slice (some ⟨2092, 0, none⟩) 1 1, .slice (some ⟨2093, 0, none⟩) 1 1, .slice (some ⟨2094, 0, none⟩) 1 1]) 38])
noncomputable def args6 : List Value := [.slice (some ⟨2095, 0, none⟩) 3 3, .int .u8 (.ofNat 2), .int .u8 (.ofNat 11), .int .u8 (.ofNat 7)]
theorem part6 : Ev.allocs spec6 0 .leaf (fun n t => Ev.runF tab RT 100000 36 args6 n t isTrue) = true := by kernel_rfl
theorem hook6 : Ev.HFok RT Go.Proofs.Tryz.prog 0 36 (Ev.partH spec6 args6) := Ev.part_hook tab_ok RT_ok part6 (by kernel_rfl) (by kernel_rfl)
end Go.AM.TWk
