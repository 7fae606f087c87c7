/- Part of the proof: FdK. -/
import Derived.Test.YtfkboffbaikhoaaFdT
set_option maxRecDepth 100000
namespace Go.AM.FdT
open Go.Proofs
theorem known_ev : runF tab 100000 7 [] 0 .leaf isTrue = true := by kernel_rfl
end Go.AM.FdT
