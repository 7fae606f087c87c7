/- Part of the proof. -/
import Derived.Test.YtfjdehnnfljjfaaGreatGWK08
set_option linter.unusedSimpArgs false
set_option linter.unusedVariables false
set_option maxRecDepth 100000
set_option maxHeartbeats 0
namespace Go.AM.TWk
open Go.Proofs
noncomputable def spec5 : List AO := (List.replicate 2088 (.dead) ++ [.cells false false 1 ([.int .u8 (.ofNat 1)]) 5, .cells false false 1 ([.int .u8 (.ofNat 2)]) 5, .cells false false 1 ([.int .u8 (.ofNat 3)]) 5, .cells false false 1 ([.slice (some ⟨2088, 0, none⟩) 1 1, .slice (some ⟨2089, 0, none⟩) 1 1, .slice (some ⟨2090, 0, none⟩) 1 1]) 38])
noncomputable def args5 : List Value := [.slice (some ⟨2091, 0, none⟩) 3 3, .int .u8 (.ofNat 1), .int .u8 (.ofNat 20), .int .u8 (.ofNat 0)]
theorem part5 : Ev.allocs spec5 0 .leaf (fun n t => Ev.runF tab RT 100000 36 args5 n t isTrue) = true := by kernel_rfl
theorem hook5 : Ev.HFok RT Go.Proofs.Tryz.prog 0 36 (Ev.partH spec5 args5) := Ev.part_hook tab_ok RT_ok part5 (by kernel_rfl) (by kernel_rfl)
end Go.AM.TWk
