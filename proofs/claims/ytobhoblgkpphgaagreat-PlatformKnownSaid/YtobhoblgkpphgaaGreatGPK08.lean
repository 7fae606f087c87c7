/- Part of the proof. -/
import Derived.Test.YtobhoblgkpphgaaGreatGPK07
set_option linter.unusedSimpArgs false
set_option linter.unusedVariables false
set_option maxRecDepth 100000
set_option maxHeartbeats 0
namespace Go.AM.TPf
open Go.Proofs Go.AM.F Go.AM.Ev
theorem ev20 : Ev.runF tab RT 100000 20 [] 0 .leaf isTrue = true := by kernel_rfl
theorem hk20 : HFok RT Tryz.prog 0 20 yesH := yes_ok tab_ok RT_ok ev20
end Go.AM.TPf
