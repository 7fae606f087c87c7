/- The closed call, worked out in the kernel. -/
import Derived.Test.YtpfnnlpgodjmdaaTRk
import Derived.KernelRfl
set_option linter.unusedSimpArgs false
set_option linter.unusedVariables false
set_option maxRecDepth 100000
namespace Go.AM.TRk
open Go.Proofs
theorem known_ev : runF tab 100000 5 [] 0 .leaf isTrue = true := by kernel_rfl
end Go.AM.TRk
