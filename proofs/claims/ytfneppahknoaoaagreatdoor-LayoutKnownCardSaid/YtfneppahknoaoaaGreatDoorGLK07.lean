/- Part of the proof. -/
import Derived.Test.YtfneppahknoaoaaGreatDoorGLK06
set_option linter.unusedSimpArgs false
set_option linter.unusedVariables false
set_option maxRecDepth 100000
set_option maxHeartbeats 0
namespace Go.AM.Fd
open Go.Proofs Go.AM.F Go.AM.Ev
theorem known_ev:Ev.allocs (Ev.deads 4) 0 .leaf (fun n t=>Ev.runF tab RT 100000 3 [] n t isTrue)=true:=by kernel_rfl
theorem lawKnown:∀(H:AHeap) (args:List Value),NoOwn H→AVs Tryz.prog H.get [] args→∃H',ARun Tryz.prog 4 3 args H (.bool true) H':=by
 intro H args _ ha
 match args,ha with
 |[],_=>exact⟨H,Ev.closed_anyG tab_ok RT_ok known_ev H⟩
end Go.AM.Fd
