/- Part of the proof. -/
import Derived.Test.YtmjhhgknjhegiaaGreatGPN05
set_option linter.unusedSimpArgs false
set_option linter.unusedVariables false
set_option maxRecDepth 100000
set_option maxHeartbeats 0
set_option linter.unusedSimpArgs false
set_option linter.unusedVariables false
namespace Go.AM.TPn
open Go.Proofs Go.AM.F Go.AM.Ev
theorem works_ev : Ev.runF tab RT 100000 16 [] 0 .leaf isTrue = true := by kernel_rfl
noncomputable def worksH : HF := fun xs n t K => match xs with
 | [] => K (.bool true) n t
 | _ => false
theorem works_ok : HFok RT Tryz.prog 0 16 worksH := HFok.of fun xs n t K h H r => by
 unfold worksH at h
 split at h
 · exact ⟨_, Ev.closed_any tab_ok RT_ok works_ev H, h⟩
 · cases h
noncomputable def tab2 : Ev.FT := .node 9 e9 (.node 5 e5 (.node 3 e3 .leaf (.node 4 e4 .leaf .leaf)) (.node 7 e7 (.node 6 e6 .leaf .leaf) (.node 8 e8 .leaf .leaf))) (.node 13 e13 (.node 11 e11 (.node 10 e10 .leaf .leaf) (.node 12 e12 .leaf .leaf)) (.node 15 e15 (.node 14 e14 .leaf .leaf) (.hook 16 worksH .leaf .leaf)))
theorem tab2_ok : tab2.ok RT Tryz.prog 0 := ⟨e9_ok, ⟨e5_ok, ⟨e3_ok, trivial, ⟨e4_ok, trivial, trivial⟩⟩, ⟨e7_ok, ⟨e6_ok, trivial, trivial⟩, ⟨e8_ok, trivial, trivial⟩⟩⟩, ⟨e13_ok, ⟨e11_ok, ⟨e10_ok, trivial, trivial⟩, ⟨e12_ok, trivial, trivial⟩⟩, ⟨e15_ok, ⟨e14_ok, trivial, trivial⟩, ⟨works_ok, trivial, trivial⟩⟩⟩⟩
def sC (f : Nat → Int) : List Value := [.int .u64 (f 0), .int .u64 (f 1), .int .u64 (f 2), .int .u8 (f 3), .int .u8 (f 4), .int .u8 (f 5), .int .u8 (f 6), .int .u8 (f 7), .int .u8 (f 8), .int .u8 (f 9), .int .u8 (f 10), .int .u8 (f 11), .int .u8 (f 12), .int .u8 (f 13), .int .u8 (f 14), .int .u8 (f 15), .int .u8 (f 16), .int .u8 (f 17), .int .u8 (f 18), .int .u8 (f 19), .int .u8 (f 20), .int .u8 (f 21), .int .u8 (f 22), .int .u8 (f 23), .int .u8 (f 24), .int .u8 (f 25), .int .u8 (f 26), .int .u8 (f 27), .int .u8 (f 28), .int .u8 (f 29), .int .u8 (f 30), .int .u8 (f 31), .int .u8 (f 32), .int .u8 (f 33), .int .u8 (f 34), .int .u8 (f 35), .int .u8 (f 36), .int .u8 (f 37), .int .u8 (f 38), .int .u8 (f 39), .int .u8 (f 40), .int .u8 (f 41), .int .u8 (f 42), .int .u8 (f 43), .int .u8 (f 44), .int .u8 (f 45), .int .u8 (f 46), .int .u8 (f 47), .int .u8 (f 48), .int .u8 (f 49), .int .u8 (f 50), .int .u8 (f 51), .int .u8 (f 52), .int .u8 (f 53), .int .u8 (f 54), .int .u8 (f 55), .int .u8 (f 56), .int .u8 (f 57), .int .u8 (f 58), .int .u8 (f 59), .int .u8 (f 60), .int .u8 (f 61), .int .u8 (f 62), .int .u8 (f 63), .int .u8 (f 64), .int .u8 (f 65), .int .u8 (f 66), .int .u32 (f 67)]
theorem none_ev (f : Nat → Int) (a b c : Int) (o : Option Addr) (n k : Nat) : allocs [.dead] 0 .leaf (fun n' t => Ev.runF tab2 RT 1000 3 [.agg #[.int .u64 a, .int .u32 b, .int .u32 c, .slice o n k], .agg (sC f).toArray] n' t isTrue) = true := by kernel_rfl
end Go.AM.TPn
