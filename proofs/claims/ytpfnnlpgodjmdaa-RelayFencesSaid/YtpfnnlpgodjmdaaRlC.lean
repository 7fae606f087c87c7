/- The functions' abstract code (printed by wip/am/Comp.lean.txt), and that it is what they compile to. -/
import Derived.Test.YtpfnnlpgodjmdaaAmX
import Derived.Test.YtpfnnlpgodjmdaaProg
import Derived.KernelRfl
set_option linter.unusedSimpArgs false
set_option linter.unusedVariables false
set_option maxRecDepth 100000
namespace Go.AM.Rl
def O68 : List Nat := [1, 1, 1, 1, 1, 1, 1, 1, 1, 1, 1, 1, 1, 1, 1, 1, 1, 1, 1, 1, 1, 1, 1, 1, 1, 1, 1, 1, 1, 1, 1, 1, 1, 1, 1, 1, 1, 1, 1, 1, 1, 1, 1, 1, 1, 1, 1, 1, 1, 1, 1, 1, 1, 1, 1, 1, 1, 1, 1, 1, 1, 1, 1, 1, 1, 1, 1, 1]
def Z75 : List Value := [(.int .u8 0), (.int .i64 0), (.int .u8 0), (.int .i64 0), (.int .i64 0), (.int .u64 0), (.int .u32 0), (.int .u64 0), (.int .u64 0), (.int .u64 0), (.int .u8 0), (.int .u8 0), (.int .u8 0), (.int .u8 0), (.int .u8 0), (.int .u8 0), (.int .u8 0), (.int .u8 0), (.int .u8 0), (.int .u8 0), (.int .u8 0), (.int .u8 0), (.int .u8 0), (.int .u8 0), (.int .u8 0), (.int .u8 0), (.int .u8 0), (.int .u8 0), (.int .u8 0), (.int .u8 0), (.int .u8 0), (.int .u8 0), (.int .u8 0), (.int .u8 0), (.int .u8 0), (.int .u8 0), (.int .u8 0), (.int .u8 0), (.int .u8 0), (.int .u8 0), (.int .u8 0), (.int .u8 0), (.int .u8 0), (.int .u8 0), (.int .u8 0), (.int .u8 0), (.int .u8 0), (.int .u8 0), (.int .u8 0), (.int .u8 0), (.int .u8 0), (.int .u8 0), (.int .u8 0), (.int .u8 0), (.int .u8 0), (.int .u8 0), (.int .u8 0), (.int .u8 0), (.int .u8 0), (.int .u8 0), (.int .u8 0), (.int .u8 0), (.int .u8 0), (.int .u8 0), (.int .u8 0), (.int .u8 0), (.int .u8 0), (.int .u8 0), (.int .u8 0), (.int .u8 0), (.int .u8 0), (.int .u8 0), (.int .u8 0), (.int .u8 0), (.int .u32 0)]
def Z70 : List Value := [(.int .i64 0), (.int .i64 0), (.int .u64 0), (.int .u64 0), (.int .u64 0), (.int .u8 0), (.int .u8 0), (.int .u8 0), (.int .u8 0), (.int .u8 0), (.int .u8 0), (.int .u8 0), (.int .u8 0), (.int .u8 0), (.int .u8 0), (.int .u8 0), (.int .u8 0), (.int .u8 0), (.int .u8 0), (.int .u8 0), (.int .u8 0), (.int .u8 0), (.int .u8 0), (.int .u8 0), (.int .u8 0), (.int .u8 0), (.int .u8 0), (.int .u8 0), (.int .u8 0), (.int .u8 0), (.int .u8 0), (.int .u8 0), (.int .u8 0), (.int .u8 0), (.int .u8 0), (.int .u8 0), (.int .u8 0), (.int .u8 0), (.int .u8 0), (.int .u8 0), (.int .u8 0), (.int .u8 0), (.int .u8 0), (.int .u8 0), (.int .u8 0), (.int .u8 0), (.int .u8 0), (.int .u8 0), (.int .u8 0), (.int .u8 0), (.int .u8 0), (.int .u8 0), (.int .u8 0), (.int .u8 0), (.int .u8 0), (.int .u8 0), (.int .u8 0), (.int .u8 0), (.int .u8 0), (.int .u8 0), (.int .u8 0), (.int .u8 0), (.int .u8 0), (.int .u8 0), (.int .u8 0), (.int .u8 0), (.int .u8 0), (.int .u8 0), (.int .u8 0), (.int .u32 0)]
def Z68 : List Value := [(.int .u64 0), (.int .u64 0), (.int .u64 0), (.int .u8 0), (.int .u8 0), (.int .u8 0), (.int .u8 0), (.int .u8 0), (.int .u8 0), (.int .u8 0), (.int .u8 0), (.int .u8 0), (.int .u8 0), (.int .u8 0), (.int .u8 0), (.int .u8 0), (.int .u8 0), (.int .u8 0), (.int .u8 0), (.int .u8 0), (.int .u8 0), (.int .u8 0), (.int .u8 0), (.int .u8 0), (.int .u8 0), (.int .u8 0), (.int .u8 0), (.int .u8 0), (.int .u8 0), (.int .u8 0), (.int .u8 0), (.int .u8 0), (.int .u8 0), (.int .u8 0), (.int .u8 0), (.int .u8 0), (.int .u8 0), (.int .u8 0), (.int .u8 0), (.int .u8 0), (.int .u8 0), (.int .u8 0), (.int .u8 0), (.int .u8 0), (.int .u8 0), (.int .u8 0), (.int .u8 0), (.int .u8 0), (.int .u8 0), (.int .u8 0), (.int .u8 0), (.int .u8 0), (.int .u8 0), (.int .u8 0), (.int .u8 0), (.int .u8 0), (.int .u8 0), (.int .u8 0), (.int .u8 0), (.int .u8 0), (.int .u8 0), (.int .u8 0), (.int .u8 0), (.int .u8 0), (.int .u8 0), (.int .u8 0), (.int .u8 0), (.int .u32 0)]
def Z1950 : List Value := [(.int .u8 0), (.int .i64 0), (.int .u8 0), (.int .i64 0), (.int .i64 0), (.int .u64 0), (.int .u32 0), (.int .u64 0), (.int .u64 0), (.int .u64 0), (.int .u8 0), (.int .u8 0), (.int .u8 0), (.int .u8 0), (.int .u8 0), (.int .u8 0), (.int .u8 0), (.int .u8 0), (.int .u8 0), (.int .u8 0), (.int .u8 0), (.int .u8 0), (.int .u8 0), (.int .u8 0), (.int .u8 0), (.int .u8 0), (.int .u8 0), (.int .u8 0), (.int .u8 0), (.int .u8 0), (.int .u8 0), (.int .u8 0), (.int .u8 0), (.int .u8 0), (.int .u8 0), (.int .u8 0), (.int .u8 0), (.int .u8 0), (.int .u8 0), (.int .u8 0), (.int .u8 0), (.int .u8 0), (.int .u8 0), (.int .u8 0), (.int .u8 0), (.int .u8 0), (.int .u8 0), (.int .u8 0), (.int .u8 0), (.int .u8 0), (.int .u8 0), (.int .u8 0), (.int .u8 0), (.int .u8 0), (.int .u8 0), (.int .u8 0), (.int .u8 0), (.int .u8 0), (.int .u8 0), (.int .u8 0), (.int .u8 0), (.int .u8 0), (.int .u8 0), (.int .u8 0), (.int .u8 0), (.int .u8 0), (.int .u8 0), (.int .u8 0), (.int .u8 0), (.int .u8 0), (.int .u8 0), (.int .u8 0), (.int .u8 0), (.int .u8 0), (.int .u32 0), (.int .u8 0), (.int .i64 0), (.int .u8 0), (.int .i64 0), (.int .i64 0), (.int .u64 0), (.int .u32 0), (.int .u64 0), (.int .u64 0), (.int .u64 0), (.int .u8 0), (.int .u8 0), (.int .u8 0), (.int .u8 0), (.int .u8 0), (.int .u8 0), (.int .u8 0), (.int .u8 0), (.int .u8 0), (.int .u8 0), (.int .u8 0), (.int .u8 0), (.int .u8 0), (.int .u8 0), (.int .u8 0), (.int .u8 0), (.int .u8 0), (.int .u8 0), (.int .u8 0), (.int .u8 0), (.int .u8 0), (.int .u8 0), (.int .u8 0), (.int .u8 0), (.int .u8 0), (.int .u8 0), (.int .u8 0), (.int .u8 0), (.int .u8 0), (.int .u8 0), (.int .u8 0), (.int .u8 0), (.int .u8 0), (.int .u8 0), (.int .u8 0), (.int .u8 0), (.int .u8 0), (.int .u8 0), (.int .u8 0), (.int .u8 0), (.int .u8 0), (.int .u8 0), (.int .u8 0), (.int .u8 0), (.int .u8 0), (.int .u8 0), (.int .u8 0), (.int .u8 0), (.int .u8 0), (.int .u8 0), (.int .u8 0), (.int .u8 0), (.int .u8 0), (.int .u8 0), (.int .u8 0), (.int .u8 0), (.int .u8 0), (.int .u8 0), (.int .u8 0), (.int .u8 0), (.int .u8 0), (.int .u8 0), (.int .u8 0), (.int .u8 0), (.int .u32 0), (.int .u8 0), (.int .i64 0), (.int .u8 0), (.int .i64 0), (.int .i64 0), (.int .u64 0), (.int .u32 0), (.int .u64 0), (.int .u64 0), (.int .u64 0), (.int .u8 0), (.int .u8 0), (.int .u8 0), (.int .u8 0), (.int .u8 0), (.int .u8 0), (.int .u8 0), (.int .u8 0), (.int .u8 0), (.int .u8 0), (.int .u8 0), (.int .u8 0), (.int .u8 0), (.int .u8 0), (.int .u8 0), (.int .u8 0), (.int .u8 0), (.int .u8 0), (.int .u8 0), (.int .u8 0), (.int .u8 0), (.int .u8 0), (.int .u8 0), (.int .u8 0), (.int .u8 0), (.int .u8 0), (.int .u8 0), (.int .u8 0), (.int .u8 0), (.int .u8 0), (.int .u8 0), (.int .u8 0), (.int .u8 0), (.int .u8 0), (.int .u8 0), (.int .u8 0), (.int .u8 0), (.int .u8 0), (.int .u8 0), (.int .u8 0), (.int .u8 0), (.int .u8 0), (.int .u8 0), (.int .u8 0), (.int .u8 0), (.int .u8 0), (.int .u8 0), (.int .u8 0), (.int .u8 0), (.int .u8 0), (.int .u8 0), (.int .u8 0), (.int .u8 0), (.int .u8 0), (.int .u8 0), (.int .u8 0), (.int .u8 0), (.int .u8 0), (.int .u8 0), (.int .u8 0), (.int .u8 0), (.int .u8 0), (.int .u8 0), (.int .u8 0), (.int .u32 0), (.int .u8 0), (.int .i64 0), (.int .u8 0), (.int .i64 0), (.int .i64 0), (.int .u64 0), (.int .u32 0), (.int .u64 0), (.int .u64 0), (.int .u64 0), (.int .u8 0), (.int .u8 0), (.int .u8 0), (.int .u8 0), (.int .u8 0), (.int .u8 0), (.int .u8 0), (.int .u8 0), (.int .u8 0), (.int .u8 0), (.int .u8 0), (.int .u8 0), (.int .u8 0), (.int .u8 0), (.int .u8 0), (.int .u8 0), (.int .u8 0), (.int .u8 0), (.int .u8 0), (.int .u8 0), (.int .u8 0), (.int .u8 0), (.int .u8 0), (.int .u8 0), (.int .u8 0), (.int .u8 0), (.int .u8 0), (.int .u8 0), (.int .u8 0), (.int .u8 0), (.int .u8 0), (.int .u8 0), (.int .u8 0), (.int .u8 0), (.int .u8 0), (.int .u8 0), (.int .u8 0), (.int .u8 0), (.int .u8 0), (.int .u8 0), (.int .u8 0), (.int .u8 0), (.int .u8 0), (.int .u8 0), (.int .u8 0), (.int .u8 0), (.int .u8 0), (.int .u8 0), (.int .u8 0), (.int .u8 0), (.int .u8 0), (.int .u8 0), (.int .u8 0), (.int .u8 0), (.int .u8 0), (.int .u8 0), (.int .u8 0), (.int .u8 0), (.int .u8 0), (.int .u8 0), (.int .u8 0), (.int .u8 0), (.int .u8 0), (.int .u8 0), (.int .u32 0), (.int .u8 0), (.int .i64 0), (.int .u8 0), (.int .i64 0), (.int .i64 0), (.int .u64 0), (.int .u32 0), (.int .u64 0), (.int .u64 0), (.int .u64 0), (.int .u8 0), (.int .u8 0), (.int .u8 0), (.int .u8 0), (.int .u8 0), (.int .u8 0), (.int .u8 0), (.int .u8 0), (.int .u8 0), (.int .u8 0), (.int .u8 0), (.int .u8 0), (.int .u8 0), (.int .u8 0), (.int .u8 0), (.int .u8 0), (.int .u8 0), (.int .u8 0), (.int .u8 0), (.int .u8 0), (.int .u8 0), (.int .u8 0), (.int .u8 0), (.int .u8 0), (.int .u8 0), (.int .u8 0), (.int .u8 0), (.int .u8 0), (.int .u8 0), (.int .u8 0), (.int .u8 0), (.int .u8 0), (.int .u8 0), (.int .u8 0), (.int .u8 0), (.int .u8 0), (.int .u8 0), (.int .u8 0), (.int .u8 0), (.int .u8 0), (.int .u8 0), (.int .u8 0), (.int .u8 0), (.int .u8 0), (.int .u8 0), (.int .u8 0), (.int .u8 0), (.int .u8 0), (.int .u8 0), (.int .u8 0), (.int .u8 0), (.int .u8 0), (.int .u8 0), (.int .u8 0), (.int .u8 0), (.int .u8 0), (.int .u8 0), (.int .u8 0), (.int .u8 0), (.int .u8 0), (.int .u8 0), (.int .u8 0), (.int .u8 0), (.int .u8 0), (.int .u32 0), (.int .u8 0), (.int .i64 0), (.int .u8 0), (.int .i64 0), (.int .i64 0), (.int .u64 0), (.int .u32 0), (.int .u64 0), (.int .u64 0), (.int .u64 0), (.int .u8 0), (.int .u8 0), (.int .u8 0), (.int .u8 0), (.int .u8 0), (.int .u8 0), (.int .u8 0), (.int .u8 0), (.int .u8 0), (.int .u8 0), (.int .u8 0), (.int .u8 0), (.int .u8 0), (.int .u8 0), (.int .u8 0), (.int .u8 0), (.int .u8 0), (.int .u8 0), (.int .u8 0), (.int .u8 0), (.int .u8 0), (.int .u8 0), (.int .u8 0), (.int .u8 0), (.int .u8 0), (.int .u8 0), (.int .u8 0), (.int .u8 0), (.int .u8 0), (.int .u8 0), (.int .u8 0), (.int .u8 0), (.int .u8 0), (.int .u8 0), (.int .u8 0), (.int .u8 0), (.int .u8 0), (.int .u8 0), (.int .u8 0), (.int .u8 0), (.int .u8 0), (.int .u8 0), (.int .u8 0), (.int .u8 0), (.int .u8 0), (.int .u8 0), (.int .u8 0), (.int .u8 0), (.int .u8 0), (.int .u8 0), (.int .u8 0), (.int .u8 0), (.int .u8 0), (.int .u8 0), (.int .u8 0), (.int .u8 0), (.int .u8 0), (.int .u8 0), (.int .u8 0), (.int .u8 0), (.int .u8 0), (.int .u8 0), (.int .u8 0), (.int .u8 0), (.int .u32 0), (.int .u8 0), (.int .i64 0), (.int .u8 0), (.int .i64 0), (.int .i64 0), (.int .u64 0), (.int .u32 0), (.int .u64 0), (.int .u64 0), (.int .u64 0), (.int .u8 0), (.int .u8 0), (.int .u8 0), (.int .u8 0), (.int .u8 0), (.int .u8 0), (.int .u8 0), (.int .u8 0), (.int .u8 0), (.int .u8 0), (.int .u8 0), (.int .u8 0), (.int .u8 0), (.int .u8 0), (.int .u8 0), (.int .u8 0), (.int .u8 0), (.int .u8 0), (.int .u8 0), (.int .u8 0), (.int .u8 0), (.int .u8 0), (.int .u8 0), (.int .u8 0), (.int .u8 0), (.int .u8 0), (.int .u8 0), (.int .u8 0), (.int .u8 0), (.int .u8 0), (.int .u8 0), (.int .u8 0), (.int .u8 0), (.int .u8 0), (.int .u8 0), (.int .u8 0), (.int .u8 0), (.int .u8 0), (.int .u8 0), (.int .u8 0), (.int .u8 0), (.int .u8 0), (.int .u8 0), (.int .u8 0), (.int .u8 0), (.int .u8 0), (.int .u8 0), (.int .u8 0), (.int .u8 0), (.int .u8 0), (.int .u8 0), (.int .u8 0), (.int .u8 0), (.int .u8 0), (.int .u8 0), (.int .u8 0), (.int .u8 0), (.int .u8 0), (.int .u8 0), (.int .u8 0), (.int .u8 0), (.int .u8 0), (.int .u8 0), (.int .u8 0), (.int .u32 0), (.int .u8 0), (.int .i64 0), (.int .u8 0), (.int .i64 0), (.int .i64 0), (.int .u64 0), (.int .u32 0), (.int .u64 0), (.int .u64 0), (.int .u64 0), (.int .u8 0), (.int .u8 0), (.int .u8 0), (.int .u8 0), (.int .u8 0), (.int .u8 0), (.int .u8 0), (.int .u8 0), (.int .u8 0), (.int .u8 0), (.int .u8 0), (.int .u8 0), (.int .u8 0), (.int .u8 0), (.int .u8 0), (.int .u8 0), (.int .u8 0), (.int .u8 0), (.int .u8 0), (.int .u8 0), (.int .u8 0), (.int .u8 0), (.int .u8 0), (.int .u8 0), (.int .u8 0), (.int .u8 0), (.int .u8 0), (.int .u8 0), (.int .u8 0), (.int .u8 0), (.int .u8 0), (.int .u8 0), (.int .u8 0), (.int .u8 0), (.int .u8 0), (.int .u8 0), (.int .u8 0), (.int .u8 0), (.int .u8 0), (.int .u8 0), (.int .u8 0), (.int .u8 0), (.int .u8 0), (.int .u8 0), (.int .u8 0), (.int .u8 0), (.int .u8 0), (.int .u8 0), (.int .u8 0), (.int .u8 0), (.int .u8 0), (.int .u8 0), (.int .u8 0), (.int .u8 0), (.int .u8 0), (.int .u8 0), (.int .u8 0), (.int .u8 0), (.int .u8 0), (.int .u8 0), (.int .u8 0), (.int .u8 0), (.int .u8 0), (.int .u8 0), (.int .u32 0), (.int .u8 0), (.int .i64 0), (.int .u8 0), (.int .i64 0), (.int .i64 0), (.int .u64 0), (.int .u32 0), (.int .u64 0), (.int .u64 0), (.int .u64 0), (.int .u8 0), (.int .u8 0), (.int .u8 0), (.int .u8 0), (.int .u8 0), (.int .u8 0), (.int .u8 0), (.int .u8 0), (.int .u8 0), (.int .u8 0), (.int .u8 0), (.int .u8 0), (.int .u8 0), (.int .u8 0), (.int .u8 0), (.int .u8 0), (.int .u8 0), (.int .u8 0), (.int .u8 0), (.int .u8 0), (.int .u8 0), (.int .u8 0), (.int .u8 0), (.int .u8 0), (.int .u8 0), (.int .u8 0), (.int .u8 0), (.int .u8 0), (.int .u8 0), (.int .u8 0), (.int .u8 0), (.int .u8 0), (.int .u8 0), (.int .u8 0), (.int .u8 0), (.int .u8 0), (.int .u8 0), (.int .u8 0), (.int .u8 0), (.int .u8 0), (.int .u8 0), (.int .u8 0), (.int .u8 0), (.int .u8 0), (.int .u8 0), (.int .u8 0), (.int .u8 0), (.int .u8 0), (.int .u8 0), (.int .u8 0), (.int .u8 0), (.int .u8 0), (.int .u8 0), (.int .u8 0), (.int .u8 0), (.int .u8 0), (.int .u8 0), (.int .u8 0), (.int .u8 0), (.int .u8 0), (.int .u8 0), (.int .u8 0), (.int .u8 0), (.int .u8 0), (.int .u32 0), (.int .u8 0), (.int .i64 0), (.int .u8 0), (.int .i64 0), (.int .i64 0), (.int .u64 0), (.int .u32 0), (.int .u64 0), (.int .u64 0), (.int .u64 0), (.int .u8 0), (.int .u8 0), (.int .u8 0), (.int .u8 0), (.int .u8 0), (.int .u8 0), (.int .u8 0), (.int .u8 0), (.int .u8 0), (.int .u8 0), (.int .u8 0), (.int .u8 0), (.int .u8 0), (.int .u8 0), (.int .u8 0), (.int .u8 0), (.int .u8 0), (.int .u8 0), (.int .u8 0), (.int .u8 0), (.int .u8 0), (.int .u8 0), (.int .u8 0), (.int .u8 0), (.int .u8 0), (.int .u8 0), (.int .u8 0), (.int .u8 0), (.int .u8 0), (.int .u8 0), (.int .u8 0), (.int .u8 0), (.int .u8 0), (.int .u8 0), (.int .u8 0), (.int .u8 0), (.int .u8 0), (.int .u8 0), (.int .u8 0), (.int .u8 0), (.int .u8 0), (.int .u8 0), (.int .u8 0), (.int .u8 0), (.int .u8 0), (.int .u8 0), (.int .u8 0), (.int .u8 0), (.int .u8 0), (.int .u8 0), (.int .u8 0), (.int .u8 0), (.int .u8 0), (.int .u8 0), (.int .u8 0), (.int .u8 0), (.int .u8 0), (.int .u8 0), (.int .u8 0), (.int .u8 0), (.int .u8 0), (.int .u8 0), (.int .u8 0), (.int .u8 0), (.int .u32 0), (.int .u8 0), (.int .i64 0), (.int .u8 0), (.int .i64 0), (.int .i64 0), (.int .u64 0), (.int .u32 0), (.int .u64 0), (.int .u64 0), (.int .u64 0), (.int .u8 0), (.int .u8 0), (.int .u8 0), (.int .u8 0), (.int .u8 0), (.int .u8 0), (.int .u8 0), (.int .u8 0), (.int .u8 0), (.int .u8 0), (.int .u8 0), (.int .u8 0), (.int .u8 0), (.int .u8 0), (.int .u8 0), (.int .u8 0), (.int .u8 0), (.int .u8 0), (.int .u8 0), (.int .u8 0), (.int .u8 0), (.int .u8 0), (.int .u8 0), (.int .u8 0), (.int .u8 0), (.int .u8 0), (.int .u8 0), (.int .u8 0), (.int .u8 0), (.int .u8 0), (.int .u8 0), (.int .u8 0), (.int .u8 0), (.int .u8 0), (.int .u8 0), (.int .u8 0), (.int .u8 0), (.int .u8 0), (.int .u8 0), (.int .u8 0), (.int .u8 0), (.int .u8 0), (.int .u8 0), (.int .u8 0), (.int .u8 0), (.int .u8 0), (.int .u8 0), (.int .u8 0), (.int .u8 0), (.int .u8 0), (.int .u8 0), (.int .u8 0), (.int .u8 0), (.int .u8 0), (.int .u8 0), (.int .u8 0), (.int .u8 0), (.int .u8 0), (.int .u8 0), (.int .u8 0), (.int .u8 0), (.int .u8 0), (.int .u8 0), (.int .u8 0), (.int .u32 0), (.int .u8 0), (.int .i64 0), (.int .u8 0), (.int .i64 0), (.int .i64 0), (.int .u64 0), (.int .u32 0), (.int .u64 0), (.int .u64 0), (.int .u64 0), (.int .u8 0), (.int .u8 0), (.int .u8 0), (.int .u8 0), (.int .u8 0), (.int .u8 0), (.int .u8 0), (.int .u8 0), (.int .u8 0), (.int .u8 0), (.int .u8 0), (.int .u8 0), (.int .u8 0), (.int .u8 0), (.int .u8 0), (.int .u8 0), (.int .u8 0), (.int .u8 0), (.int .u8 0), (.int .u8 0), (.int .u8 0), (.int .u8 0), (.int .u8 0), (.int .u8 0), (.int .u8 0), (.int .u8 0), (.int .u8 0), (.int .u8 0), (.int .u8 0), (.int .u8 0), (.int .u8 0), (.int .u8 0), (.int .u8 0), (.int .u8 0), (.int .u8 0), (.int .u8 0), (.int .u8 0), (.int .u8 0), (.int .u8 0), (.int .u8 0), (.int .u8 0), (.int .u8 0), (.int .u8 0), (.int .u8 0), (.int .u8 0), (.int .u8 0), (.int .u8 0), (.int .u8 0), (.int .u8 0), (.int .u8 0), (.int .u8 0), (.int .u8 0), (.int .u8 0), (.int .u8 0), (.int .u8 0), (.int .u8 0), (.int .u8 0), (.int .u8 0), (.int .u8 0), (.int .u8 0), (.int .u8 0), (.int .u8 0), (.int .u8 0), (.int .u8 0), (.int .u32 0), (.int .u8 0), (.int .i64 0), (.int .u8 0), (.int .i64 0), (.int .i64 0), (.int .u64 0), (.int .u32 0), (.int .u64 0), (.int .u64 0), (.int .u64 0), (.int .u8 0), (.int .u8 0), (.int .u8 0), (.int .u8 0), (.int .u8 0), (.int .u8 0), (.int .u8 0), (.int .u8 0), (.int .u8 0), (.int .u8 0), (.int .u8 0), (.int .u8 0), (.int .u8 0), (.int .u8 0), (.int .u8 0), (.int .u8 0), (.int .u8 0), (.int .u8 0), (.int .u8 0), (.int .u8 0), (.int .u8 0), (.int .u8 0), (.int .u8 0), (.int .u8 0), (.int .u8 0), (.int .u8 0), (.int .u8 0), (.int .u8 0), (.int .u8 0), (.int .u8 0), (.int .u8 0), (.int .u8 0), (.int .u8 0), (.int .u8 0), (.int .u8 0), (.int .u8 0), (.int .u8 0), (.int .u8 0), (.int .u8 0), (.int .u8 0), (.int .u8 0), (.int .u8 0), (.int .u8 0), (.int .u8 0), (.int .u8 0), (.int .u8 0), (.int .u8 0), (.int .u8 0), (.int .u8 0), (.int .u8 0), (.int .u8 0), (.int .u8 0), (.int .u8 0), (.int .u8 0), (.int .u8 0), (.int .u8 0), (.int .u8 0), (.int .u8 0), (.int .u8 0), (.int .u8 0), (.int .u8 0), (.int .u8 0), (.int .u8 0), (.int .u8 0), (.int .u32 0), (.int .u8 0), (.int .i64 0), (.int .u8 0), (.int .i64 0), (.int .i64 0), (.int .u64 0), (.int .u32 0), (.int .u64 0), (.int .u64 0), (.int .u64 0), (.int .u8 0), (.int .u8 0), (.int .u8 0), (.int .u8 0), (.int .u8 0), (.int .u8 0), (.int .u8 0), (.int .u8 0), (.int .u8 0), (.int .u8 0), (.int .u8 0), (.int .u8 0), (.int .u8 0), (.int .u8 0), (.int .u8 0), (.int .u8 0), (.int .u8 0), (.int .u8 0), (.int .u8 0), (.int .u8 0), (.int .u8 0), (.int .u8 0), (.int .u8 0), (.int .u8 0), (.int .u8 0), (.int .u8 0), (.int .u8 0), (.int .u8 0), (.int .u8 0), (.int .u8 0), (.int .u8 0), (.int .u8 0), (.int .u8 0), (.int .u8 0), (.int .u8 0), (.int .u8 0), (.int .u8 0), (.int .u8 0), (.int .u8 0), (.int .u8 0), (.int .u8 0), (.int .u8 0), (.int .u8 0), (.int .u8 0), (.int .u8 0), (.int .u8 0), (.int .u8 0), (.int .u8 0), (.int .u8 0), (.int .u8 0), (.int .u8 0), (.int .u8 0), (.int .u8 0), (.int .u8 0), (.int .u8 0), (.int .u8 0), (.int .u8 0), (.int .u8 0), (.int .u8 0), (.int .u8 0), (.int .u8 0), (.int .u8 0), (.int .u8 0), (.int .u8 0), (.int .u32 0), (.int .u8 0), (.int .i64 0), (.int .u8 0), (.int .i64 0), (.int .i64 0), (.int .u64 0), (.int .u32 0), (.int .u64 0), (.int .u64 0), (.int .u64 0), (.int .u8 0), (.int .u8 0), (.int .u8 0), (.int .u8 0), (.int .u8 0), (.int .u8 0), (.int .u8 0), (.int .u8 0), (.int .u8 0), (.int .u8 0), (.int .u8 0), (.int .u8 0), (.int .u8 0), (.int .u8 0), (.int .u8 0), (.int .u8 0), (.int .u8 0), (.int .u8 0), (.int .u8 0), (.int .u8 0), (.int .u8 0), (.int .u8 0), (.int .u8 0), (.int .u8 0), (.int .u8 0), (.int .u8 0), (.int .u8 0), (.int .u8 0), (.int .u8 0), (.int .u8 0), (.int .u8 0), (.int .u8 0), (.int .u8 0), (.int .u8 0), (.int .u8 0), (.int .u8 0), (.int .u8 0), (.int .u8 0), (.int .u8 0), (.int .u8 0), (.int .u8 0), (.int .u8 0), (.int .u8 0), (.int .u8 0), (.int .u8 0), (.int .u8 0), (.int .u8 0), (.int .u8 0), (.int .u8 0), (.int .u8 0), (.int .u8 0), (.int .u8 0), (.int .u8 0), (.int .u8 0), (.int .u8 0), (.int .u8 0), (.int .u8 0), (.int .u8 0), (.int .u8 0), (.int .u8 0), (.int .u8 0), (.int .u8 0), (.int .u8 0), (.int .u8 0), (.int .u32 0), (.int .u8 0), (.int .i64 0), (.int .u8 0), (.int .i64 0), (.int .i64 0), (.int .u64 0), (.int .u32 0), (.int .u64 0), (.int .u64 0), (.int .u64 0), (.int .u8 0), (.int .u8 0), (.int .u8 0), (.int .u8 0), (.int .u8 0), (.int .u8 0), (.int .u8 0), (.int .u8 0), (.int .u8 0), (.int .u8 0), (.int .u8 0), (.int .u8 0), (.int .u8 0), (.int .u8 0), (.int .u8 0), (.int .u8 0), (.int .u8 0), (.int .u8 0), (.int .u8 0), (.int .u8 0), (.int .u8 0), (.int .u8 0), (.int .u8 0), (.int .u8 0), (.int .u8 0), (.int .u8 0), (.int .u8 0), (.int .u8 0), (.int .u8 0), (.int .u8 0), (.int .u8 0), (.int .u8 0), (.int .u8 0), (.int .u8 0), (.int .u8 0), (.int .u8 0), (.int .u8 0), (.int .u8 0), (.int .u8 0), (.int .u8 0), (.int .u8 0), (.int .u8 0), (.int .u8 0), (.int .u8 0), (.int .u8 0), (.int .u8 0), (.int .u8 0), (.int .u8 0), (.int .u8 0), (.int .u8 0), (.int .u8 0), (.int .u8 0), (.int .u8 0), (.int .u8 0), (.int .u8 0), (.int .u8 0), (.int .u8 0), (.int .u8 0), (.int .u8 0), (.int .u8 0), (.int .u8 0), (.int .u8 0), (.int .u8 0), (.int .u8 0), (.int .u32 0), (.int .u8 0), (.int .i64 0), (.int .u8 0), (.int .i64 0), (.int .i64 0), (.int .u64 0), (.int .u32 0), (.int .u64 0), (.int .u64 0), (.int .u64 0), (.int .u8 0), (.int .u8 0), (.int .u8 0), (.int .u8 0), (.int .u8 0), (.int .u8 0), (.int .u8 0), (.int .u8 0), (.int .u8 0), (.int .u8 0), (.int .u8 0), (.int .u8 0), (.int .u8 0), (.int .u8 0), (.int .u8 0), (.int .u8 0), (.int .u8 0), (.int .u8 0), (.int .u8 0), (.int .u8 0), (.int .u8 0), (.int .u8 0), (.int .u8 0), (.int .u8 0), (.int .u8 0), (.int .u8 0), (.int .u8 0), (.int .u8 0), (.int .u8 0), (.int .u8 0), (.int .u8 0), (.int .u8 0), (.int .u8 0), (.int .u8 0), (.int .u8 0), (.int .u8 0), (.int .u8 0), (.int .u8 0), (.int .u8 0), (.int .u8 0), (.int .u8 0), (.int .u8 0), (.int .u8 0), (.int .u8 0), (.int .u8 0), (.int .u8 0), (.int .u8 0), (.int .u8 0), (.int .u8 0), (.int .u8 0), (.int .u8 0), (.int .u8 0), (.int .u8 0), (.int .u8 0), (.int .u8 0), (.int .u8 0), (.int .u8 0), (.int .u8 0), (.int .u8 0), (.int .u8 0), (.int .u8 0), (.int .u8 0), (.int .u8 0), (.int .u8 0), (.int .u32 0), (.int .u8 0), (.int .i64 0), (.int .u8 0), (.int .i64 0), (.int .i64 0), (.int .u64 0), (.int .u32 0), (.int .u64 0), (.int .u64 0), (.int .u64 0), (.int .u8 0), (.int .u8 0), (.int .u8 0), (.int .u8 0), (.int .u8 0), (.int .u8 0), (.int .u8 0), (.int .u8 0), (.int .u8 0), (.int .u8 0), (.int .u8 0), (.int .u8 0), (.int .u8 0), (.int .u8 0), (.int .u8 0), (.int .u8 0), (.int .u8 0), (.int .u8 0), (.int .u8 0), (.int .u8 0), (.int .u8 0), (.int .u8 0), (.int .u8 0), (.int .u8 0), (.int .u8 0), (.int .u8 0), (.int .u8 0), (.int .u8 0), (.int .u8 0), (.int .u8 0), (.int .u8 0), (.int .u8 0), (.int .u8 0), (.int .u8 0), (.int .u8 0), (.int .u8 0), (.int .u8 0), (.int .u8 0), (.int .u8 0), (.int .u8 0), (.int .u8 0), (.int .u8 0), (.int .u8 0), (.int .u8 0), (.int .u8 0), (.int .u8 0), (.int .u8 0), (.int .u8 0), (.int .u8 0), (.int .u8 0), (.int .u8 0), (.int .u8 0), (.int .u8 0), (.int .u8 0), (.int .u8 0), (.int .u8 0), (.int .u8 0), (.int .u8 0), (.int .u8 0), (.int .u8 0), (.int .u8 0), (.int .u8 0), (.int .u8 0), (.int .u8 0), (.int .u32 0), (.int .u8 0), (.int .i64 0), (.int .u8 0), (.int .i64 0), (.int .i64 0), (.int .u64 0), (.int .u32 0), (.int .u64 0), (.int .u64 0), (.int .u64 0), (.int .u8 0), (.int .u8 0), (.int .u8 0), (.int .u8 0), (.int .u8 0), (.int .u8 0), (.int .u8 0), (.int .u8 0), (.int .u8 0), (.int .u8 0), (.int .u8 0), (.int .u8 0), (.int .u8 0), (.int .u8 0), (.int .u8 0), (.int .u8 0), (.int .u8 0), (.int .u8 0), (.int .u8 0), (.int .u8 0), (.int .u8 0), (.int .u8 0), (.int .u8 0), (.int .u8 0), (.int .u8 0), (.int .u8 0), (.int .u8 0), (.int .u8 0), (.int .u8 0), (.int .u8 0), (.int .u8 0), (.int .u8 0), (.int .u8 0), (.int .u8 0), (.int .u8 0), (.int .u8 0), (.int .u8 0), (.int .u8 0), (.int .u8 0), (.int .u8 0), (.int .u8 0), (.int .u8 0), (.int .u8 0), (.int .u8 0), (.int .u8 0), (.int .u8 0), (.int .u8 0), (.int .u8 0), (.int .u8 0), (.int .u8 0), (.int .u8 0), (.int .u8 0), (.int .u8 0), (.int .u8 0), (.int .u8 0), (.int .u8 0), (.int .u8 0), (.int .u8 0), (.int .u8 0), (.int .u8 0), (.int .u8 0), (.int .u8 0), (.int .u8 0), (.int .u8 0), (.int .u32 0), (.int .u8 0), (.int .i64 0), (.int .u8 0), (.int .i64 0), (.int .i64 0), (.int .u64 0), (.int .u32 0), (.int .u64 0), (.int .u64 0), (.int .u64 0), (.int .u8 0), (.int .u8 0), (.int .u8 0), (.int .u8 0), (.int .u8 0), (.int .u8 0), (.int .u8 0), (.int .u8 0), (.int .u8 0), (.int .u8 0), (.int .u8 0), (.int .u8 0), (.int .u8 0), (.int .u8 0), (.int .u8 0), (.int .u8 0), (.int .u8 0), (.int .u8 0), (.int .u8 0), (.int .u8 0), (.int .u8 0), (.int .u8 0), (.int .u8 0), (.int .u8 0), (.int .u8 0), (.int .u8 0), (.int .u8 0), (.int .u8 0), (.int .u8 0), (.int .u8 0), (.int .u8 0), (.int .u8 0), (.int .u8 0), (.int .u8 0), (.int .u8 0), (.int .u8 0), (.int .u8 0), (.int .u8 0), (.int .u8 0), (.int .u8 0), (.int .u8 0), (.int .u8 0), (.int .u8 0), (.int .u8 0), (.int .u8 0), (.int .u8 0), (.int .u8 0), (.int .u8 0), (.int .u8 0), (.int .u8 0), (.int .u8 0), (.int .u8 0), (.int .u8 0), (.int .u8 0), (.int .u8 0), (.int .u8 0), (.int .u8 0), (.int .u8 0), (.int .u8 0), (.int .u8 0), (.int .u8 0), (.int .u8 0), (.int .u8 0), (.int .u8 0), (.int .u32 0), (.int .u8 0), (.int .i64 0), (.int .u8 0), (.int .i64 0), (.int .i64 0), (.int .u64 0), (.int .u32 0), (.int .u64 0), (.int .u64 0), (.int .u64 0), (.int .u8 0), (.int .u8 0), (.int .u8 0), (.int .u8 0), (.int .u8 0), (.int .u8 0), (.int .u8 0), (.int .u8 0), (.int .u8 0), (.int .u8 0), (.int .u8 0), (.int .u8 0), (.int .u8 0), (.int .u8 0), (.int .u8 0), (.int .u8 0), (.int .u8 0), (.int .u8 0), (.int .u8 0), (.int .u8 0), (.int .u8 0), (.int .u8 0), (.int .u8 0), (.int .u8 0), (.int .u8 0), (.int .u8 0), (.int .u8 0), (.int .u8 0), (.int .u8 0), (.int .u8 0), (.int .u8 0), (.int .u8 0), (.int .u8 0), (.int .u8 0), (.int .u8 0), (.int .u8 0), (.int .u8 0), (.int .u8 0), (.int .u8 0), (.int .u8 0), (.int .u8 0), (.int .u8 0), (.int .u8 0), (.int .u8 0), (.int .u8 0), (.int .u8 0), (.int .u8 0), (.int .u8 0), (.int .u8 0), (.int .u8 0), (.int .u8 0), (.int .u8 0), (.int .u8 0), (.int .u8 0), (.int .u8 0), (.int .u8 0), (.int .u8 0), (.int .u8 0), (.int .u8 0), (.int .u8 0), (.int .u8 0), (.int .u8 0), (.int .u8 0), (.int .u8 0), (.int .u32 0), (.int .u8 0), (.int .i64 0), (.int .u8 0), (.int .i64 0), (.int .i64 0), (.int .u64 0), (.int .u32 0), (.int .u64 0), (.int .u64 0), (.int .u64 0), (.int .u8 0), (.int .u8 0), (.int .u8 0), (.int .u8 0), (.int .u8 0), (.int .u8 0), (.int .u8 0), (.int .u8 0), (.int .u8 0), (.int .u8 0), (.int .u8 0), (.int .u8 0), (.int .u8 0), (.int .u8 0), (.int .u8 0), (.int .u8 0), (.int .u8 0), (.int .u8 0), (.int .u8 0), (.int .u8 0), (.int .u8 0), (.int .u8 0), (.int .u8 0), (.int .u8 0), (.int .u8 0), (.int .u8 0), (.int .u8 0), (.int .u8 0), (.int .u8 0), (.int .u8 0), (.int .u8 0), (.int .u8 0), (.int .u8 0), (.int .u8 0), (.int .u8 0), (.int .u8 0), (.int .u8 0), (.int .u8 0), (.int .u8 0), (.int .u8 0), (.int .u8 0), (.int .u8 0), (.int .u8 0), (.int .u8 0), (.int .u8 0), (.int .u8 0), (.int .u8 0), (.int .u8 0), (.int .u8 0), (.int .u8 0), (.int .u8 0), (.int .u8 0), (.int .u8 0), (.int .u8 0), (.int .u8 0), (.int .u8 0), (.int .u8 0), (.int .u8 0), (.int .u8 0), (.int .u8 0), (.int .u8 0), (.int .u8 0), (.int .u8 0), (.int .u8 0), (.int .u32 0), (.int .u8 0), (.int .i64 0), (.int .u8 0), (.int .i64 0), (.int .i64 0), (.int .u64 0), (.int .u32 0), (.int .u64 0), (.int .u64 0), (.int .u64 0), (.int .u8 0), (.int .u8 0), (.int .u8 0), (.int .u8 0), (.int .u8 0), (.int .u8 0), (.int .u8 0), (.int .u8 0), (.int .u8 0), (.int .u8 0), (.int .u8 0), (.int .u8 0), (.int .u8 0), (.int .u8 0), (.int .u8 0), (.int .u8 0), (.int .u8 0), (.int .u8 0), (.int .u8 0), (.int .u8 0), (.int .u8 0), (.int .u8 0), (.int .u8 0), (.int .u8 0), (.int .u8 0), (.int .u8 0), (.int .u8 0), (.int .u8 0), (.int .u8 0), (.int .u8 0), (.int .u8 0), (.int .u8 0), (.int .u8 0), (.int .u8 0), (.int .u8 0), (.int .u8 0), (.int .u8 0), (.int .u8 0), (.int .u8 0), (.int .u8 0), (.int .u8 0), (.int .u8 0), (.int .u8 0), (.int .u8 0), (.int .u8 0), (.int .u8 0), (.int .u8 0), (.int .u8 0), (.int .u8 0), (.int .u8 0), (.int .u8 0), (.int .u8 0), (.int .u8 0), (.int .u8 0), (.int .u8 0), (.int .u8 0), (.int .u8 0), (.int .u8 0), (.int .u8 0), (.int .u8 0), (.int .u8 0), (.int .u8 0), (.int .u8 0), (.int .u8 0), (.int .u32 0), (.int .u8 0), (.int .i64 0), (.int .u8 0), (.int .i64 0), (.int .i64 0), (.int .u64 0), (.int .u32 0), (.int .u64 0), (.int .u64 0), (.int .u64 0), (.int .u8 0), (.int .u8 0), (.int .u8 0), (.int .u8 0), (.int .u8 0), (.int .u8 0), (.int .u8 0), (.int .u8 0), (.int .u8 0), (.int .u8 0), (.int .u8 0), (.int .u8 0), (.int .u8 0), (.int .u8 0), (.int .u8 0), (.int .u8 0), (.int .u8 0), (.int .u8 0), (.int .u8 0), (.int .u8 0), (.int .u8 0), (.int .u8 0), (.int .u8 0), (.int .u8 0), (.int .u8 0), (.int .u8 0), (.int .u8 0), (.int .u8 0), (.int .u8 0), (.int .u8 0), (.int .u8 0), (.int .u8 0), (.int .u8 0), (.int .u8 0), (.int .u8 0), (.int .u8 0), (.int .u8 0), (.int .u8 0), (.int .u8 0), (.int .u8 0), (.int .u8 0), (.int .u8 0), (.int .u8 0), (.int .u8 0), (.int .u8 0), (.int .u8 0), (.int .u8 0), (.int .u8 0), (.int .u8 0), (.int .u8 0), (.int .u8 0), (.int .u8 0), (.int .u8 0), (.int .u8 0), (.int .u8 0), (.int .u8 0), (.int .u8 0), (.int .u8 0), (.int .u8 0), (.int .u8 0), (.int .u8 0), (.int .u8 0), (.int .u8 0), (.int .u8 0), (.int .u32 0), (.int .u8 0), (.int .i64 0), (.int .u8 0), (.int .i64 0), (.int .i64 0), (.int .u64 0), (.int .u32 0), (.int .u64 0), (.int .u64 0), (.int .u64 0), (.int .u8 0), (.int .u8 0), (.int .u8 0), (.int .u8 0), (.int .u8 0), (.int .u8 0), (.int .u8 0), (.int .u8 0), (.int .u8 0), (.int .u8 0), (.int .u8 0), (.int .u8 0), (.int .u8 0), (.int .u8 0), (.int .u8 0), (.int .u8 0), (.int .u8 0), (.int .u8 0), (.int .u8 0), (.int .u8 0), (.int .u8 0), (.int .u8 0), (.int .u8 0), (.int .u8 0), (.int .u8 0), (.int .u8 0), (.int .u8 0), (.int .u8 0), (.int .u8 0), (.int .u8 0), (.int .u8 0), (.int .u8 0), (.int .u8 0), (.int .u8 0), (.int .u8 0), (.int .u8 0), (.int .u8 0), (.int .u8 0), (.int .u8 0), (.int .u8 0), (.int .u8 0), (.int .u8 0), (.int .u8 0), (.int .u8 0), (.int .u8 0), (.int .u8 0), (.int .u8 0), (.int .u8 0), (.int .u8 0), (.int .u8 0), (.int .u8 0), (.int .u8 0), (.int .u8 0), (.int .u8 0), (.int .u8 0), (.int .u8 0), (.int .u8 0), (.int .u8 0), (.int .u8 0), (.int .u8 0), (.int .u8 0), (.int .u8 0), (.int .u8 0), (.int .u8 0), (.int .u32 0), (.int .u8 0), (.int .i64 0), (.int .u8 0), (.int .i64 0), (.int .i64 0), (.int .u64 0), (.int .u32 0), (.int .u64 0), (.int .u64 0), (.int .u64 0), (.int .u8 0), (.int .u8 0), (.int .u8 0), (.int .u8 0), (.int .u8 0), (.int .u8 0), (.int .u8 0), (.int .u8 0), (.int .u8 0), (.int .u8 0), (.int .u8 0), (.int .u8 0), (.int .u8 0), (.int .u8 0), (.int .u8 0), (.int .u8 0), (.int .u8 0), (.int .u8 0), (.int .u8 0), (.int .u8 0), (.int .u8 0), (.int .u8 0), (.int .u8 0), (.int .u8 0), (.int .u8 0), (.int .u8 0), (.int .u8 0), (.int .u8 0), (.int .u8 0), (.int .u8 0), (.int .u8 0), (.int .u8 0), (.int .u8 0), (.int .u8 0), (.int .u8 0), (.int .u8 0), (.int .u8 0), (.int .u8 0), (.int .u8 0), (.int .u8 0), (.int .u8 0), (.int .u8 0), (.int .u8 0), (.int .u8 0), (.int .u8 0), (.int .u8 0), (.int .u8 0), (.int .u8 0), (.int .u8 0), (.int .u8 0), (.int .u8 0), (.int .u8 0), (.int .u8 0), (.int .u8 0), (.int .u8 0), (.int .u8 0), (.int .u8 0), (.int .u8 0), (.int .u8 0), (.int .u8 0), (.int .u8 0), (.int .u8 0), (.int .u8 0), (.int .u8 0), (.int .u32 0)]
def Z79 : List Value := [(.int .i64 0), (.int .i64 0), (.bool false), (.int .i64 0), (.int .i64 0), (.int .i64 0), (.int .u64 0), (.int .u32 0), (.bool false), (.int .u64 0), (.int .u64 0), (.int .u64 0), (.int .u8 0), (.int .u8 0), (.int .u8 0), (.int .u8 0), (.int .u8 0), (.int .u8 0), (.int .u8 0), (.int .u8 0), (.int .u8 0), (.int .u8 0), (.int .u8 0), (.int .u8 0), (.int .u8 0), (.int .u8 0), (.int .u8 0), (.int .u8 0), (.int .u8 0), (.int .u8 0), (.int .u8 0), (.int .u8 0), (.int .u8 0), (.int .u8 0), (.int .u8 0), (.int .u8 0), (.int .u8 0), (.int .u8 0), (.int .u8 0), (.int .u8 0), (.int .u8 0), (.int .u8 0), (.int .u8 0), (.int .u8 0), (.int .u8 0), (.int .u8 0), (.int .u8 0), (.int .u8 0), (.int .u8 0), (.int .u8 0), (.int .u8 0), (.int .u8 0), (.int .u8 0), (.int .u8 0), (.int .u8 0), (.int .u8 0), (.int .u8 0), (.int .u8 0), (.int .u8 0), (.int .u8 0), (.int .u8 0), (.int .u8 0), (.int .u8 0), (.int .u8 0), (.int .u8 0), (.int .u8 0), (.int .u8 0), (.int .u8 0), (.int .u8 0), (.int .u8 0), (.int .u8 0), (.int .u8 0), (.int .u8 0), (.int .u8 0), (.int .u8 0), (.int .u8 0), (.int .u32 0), (.int .i64 0), (.int .i64 0)]
/-- semaphore/semaphorelaw24.RelayPlays ; args 2 ; slots [0, 1, 4, 5, 6, 7, 8, 11, 21, 38, 42, 58] -/
def f3 : AFunc := ⟨[0, 1, 4, 5, 6, 7, 8, 11, 21, 38, 42, 58],
  .seq (.reg [
    ⟨.mov (.c (.bool false)), .fr 2, none⟩]) <|
    .seq (.seq (.reg [
    ⟨.mov (.fr 1), .tm, none⟩,
    ⟨.len false (.tm 0), .tm, none⟩,
    ⟨.bin .gtr (.tm 0) (.c (.int .i64 300)), .fr 7, none⟩]) <|
    .cond (.fr 7)
      (.seq (.reg [
      ⟨.callf 6 [], .tm, none⟩,
      ⟨.mov (.tm 0), .fr 2, none⟩]) <|
      .ret)
      (.skip)) <|
    .seq (.reg [
    ⟨.mov (.fr 0), .tm, none⟩,
    ⟨.callf 7 [(.tm 0)], .tm, none⟩,
    ⟨.mov (.tm 0), .tm, none⟩,
    ⟨.extract (.tm 0) 0, .tm, none⟩,
    ⟨.extract (.tm 1) 1, .tm, none⟩,
    ⟨.mov (.tm 1), .fr 3, none⟩,
    ⟨.mov (.tm 0), .fr 4, none⟩]) <|
    .seq (.reg [
    ⟨.mov (.fr 0), .tm, none⟩,
    ⟨.callf 8 [(.tm 0)], .tm, none⟩,
    ⟨.mov (.tm 0), .fr 5, none⟩]) <|
    .seq (.seq (.reg [
    ⟨.mov (.fr 5), .tm, none⟩,
    ⟨.eqv 1 false (.tm 0) (.c (.pointer none)), .fr 8, none⟩]) <|
    .cond (.fr 8)
      (.seq (.reg [
      ⟨.mov (.fr 3), .tm, none⟩,
      ⟨.eqv 1 false (.tm 0) (.c (.pointer none)), .tm, none⟩,
      ⟨.mov (.tm 0), .tm, none⟩,
      ⟨.mov (.fr 4), .tm, some ((.tm 0), true)⟩,
      ⟨.bin .eql (.tm 0) (.c (.int .i64 2)), .tm, some ((.tm 1), true)⟩,
      ⟨.pick (.tm 2) (.tm 0) (.c (.bool false)), .tm, none⟩,
      ⟨.mov (.tm 0), .tm, none⟩,
      ⟨.callf 6 [], .tm, some ((.tm 0), true)⟩,
      ⟨.pick (.tm 1) (.tm 0) (.c (.bool false)), .tm, none⟩,
      ⟨.mov (.tm 0), .fr 2, none⟩]) <|
      .ret)
      (.skip)) <|
    .seq (.seq (.reg [
    ⟨.mov (.fr 4), .tm, none⟩,
    ⟨.bin .neq (.tm 0) (.c (.int .i64 0)), .tm, none⟩,
    ⟨.mov (.tm 0), .tm, none⟩,
    ⟨.mov (.fr 3), .tm, some ((.tm 0), false)⟩,
    ⟨.mov (.fr 5), .tm, some ((.tm 1), false)⟩,
    ⟨.callf 9 [(.tm 1), (.tm 0)], .tm, some ((.tm 2), false)⟩,
    ⟨.un .not (.tm 0), .tm, some ((.tm 3), false)⟩,
    ⟨.pick (.tm 4) (.c (.bool true)) (.tm 0), .fr 9, none⟩]) <|
    .cond (.fr 9)
      (.seq (.reg [
      ⟨.mov (.c (.bool false)), .fr 2, none⟩]) <|
      .ret)
      (.skip)) <|
    .seq (.seq (.reg [
    ⟨.mov (.c (.int .i64 0)), .fr 6, none⟩]) <|
    .block 0 (.loop (.seq (.seq (.reg [
        ⟨.mov (.fr 6), .tm, none⟩,
        ⟨.mov (.fr 1), .tm, none⟩,
        ⟨.len false (.tm 0), .tm, none⟩,
        ⟨.bin .lss (.tm 2) (.tm 0), .fr 10, none⟩]) <|
        .cond (.fr 10)
          (.skip)
          (.exit 0)) <|
        .seq (.block 1 (.seq (.reg [
          ⟨.mov (.fr 3), .tm, none⟩,
          ⟨.mov (.fr 5), .tm, none⟩,
          ⟨.mov (.fr 1), .tm, none⟩,
          ⟨.mov (.fr 6), .tm, none⟩,
          ⟨.iaddr 75 (.tm 1) (.tm 0), .tm, none⟩,
          ⟨.loadn 75 (.tm 0), .tm, none⟩,
          ⟨.callf 10 [(.tm 5), (.tm 4), (.tm 0)], .tm, none⟩,
          ⟨.un .not (.tm 0), .tm, none⟩,
          ⟨.mov (.tm 0), .tm, none⟩,
          ⟨.mov (.fr 3), .tm, some ((.tm 0), false)⟩,
          ⟨.mov (.fr 5), .tm, some ((.tm 1), false)⟩,
          ⟨.callf 9 [(.tm 1), (.tm 0)], .tm, some ((.tm 2), false)⟩,
          ⟨.un .not (.tm 0), .tm, some ((.tm 3), false)⟩,
          ⟨.pick (.tm 4) (.c (.bool true)) (.tm 0), .fr 11, none⟩]) <|
          .cond (.fr 11)
            (.seq (.reg [
            ⟨.mov (.c (.bool false)), .fr 2, none⟩]) <|
            .ret)
            (.skip))) <|
        .reg [
        ⟨.mov (.fr 6), .tm, none⟩,
        ⟨.bin .add (.tm 0) (.c (.int .i64 1)), .tm, none⟩,
        ⟨.mov (.tm 0), .fr 6, none⟩]))) <|
    .seq (.reg [
    ⟨.callf 6 [], .tm, none⟩,
    ⟨.mov (.tm 0), .fr 2, none⟩]) <|
    .ret, [.t 2]⟩
/-- semaphore/semaphorelaw24.RelayFences ; args 2 ; slots [0, 1, 4, 5, 6, 7, 8, 9, 10, 11, 12, 13, 14, 15, 16, 17, 18, 19, 22, 32, 36, 45, 54, 63, 72, 73, 80, 84, 107, 111, 117, 139, 169, 181, 182, 208] -/
def f4 : AFunc := ⟨[0, 1, 4, 5, 6, 7, 8, 9, 10, 11, 12, 13, 14, 15, 16, 17, 18, 19, 22, 32, 36, 45, 54, 63, 72, 73, 80, 84, 107, 111, 117, 139, 169, 181, 182, 208],
  .seq (.reg [
    ⟨.mov (.c (.bool false)), .fr 2, none⟩]) <|
    .seq (.seq (.reg [
    ⟨.mov (.fr 1), .tm, none⟩,
    ⟨.len false (.tm 0), .tm, none⟩,
    ⟨.bin .gtr (.tm 0) (.c (.int .i64 300)), .fr 18, none⟩]) <|
    .cond (.fr 18)
      (.seq (.reg [
      ⟨.callf 6 [], .tm, none⟩,
      ⟨.mov (.tm 0), .fr 2, none⟩]) <|
      .ret)
      (.skip)) <|
    .seq (.reg [
    ⟨.mov (.fr 0), .tm, none⟩,
    ⟨.i2i .i64 (.tm 0), .tm, none⟩,
    ⟨.bin .add (.c (.int .i64 1)) (.tm 0), .tm, none⟩,
    ⟨.callf 7 [(.tm 0)], .tm, none⟩,
    ⟨.mov (.tm 0), .tm, none⟩,
    ⟨.extract (.tm 0) 0, .tm, none⟩,
    ⟨.extract (.tm 1) 1, .tm, none⟩,
    ⟨.mov (.tm 1), .fr 3, none⟩,
    ⟨.mov (.tm 0), .fr 4, none⟩]) <|
    .seq (.seq (.reg [
    ⟨.mov (.fr 4), .tm, none⟩,
    ⟨.bin .neq (.tm 0) (.c (.int .i64 0)), .fr 19, none⟩]) <|
    .cond (.fr 19)
      (.seq (.reg [
      ⟨.mov (.c (.bool false)), .fr 2, none⟩]) <|
      .ret)
      (.skip)) <|
    .seq (.reg [
    ⟨.mov (.c (.int .i64 0)), .fr 5, none⟩,
    ⟨.mov (.c (.int .i64 (-1))), .fr 6, none⟩,
    ⟨.mov (.c (.int .i64 0)), .fr 7, none⟩]) <|
    .seq (.reg [
    ⟨.mov (.c (.int .i64 (-1))), .fr 8, none⟩]) <|
    .seq (.reg [
    ⟨.new 35 2 [(.int .u64 0), (.int .u32 0)], .fr 9, none⟩]) <|
    .seq (.reg [
    ⟨.mov (.c (.bool false)), .fr 10, none⟩]) <|
    .seq (.seq (.reg [
    ⟨.mov (.c (.int .i64 0)), .fr 11, none⟩]) <|
    .block 0 (.loop (.seq (.seq (.reg [
        ⟨.mov (.fr 11), .tm, none⟩,
        ⟨.mov (.fr 1), .tm, none⟩,
        ⟨.len false (.tm 0), .tm, none⟩,
        ⟨.bin .lss (.tm 2) (.tm 0), .fr 20, none⟩]) <|
        .cond (.fr 20)
          (.skip)
          (.exit 0)) <|
        .seq (.block 1 (.seq (.reg [
          ⟨.mov (.fr 1), .tm, none⟩,
          ⟨.mov (.fr 11), .tm, none⟩,
          ⟨.iaddr 75 (.tm 1) (.tm 0), .tm, none⟩,
          ⟨.loadn 75 (.tm 0), .tm, none⟩,
          ⟨.new 42 75 Z75, .fr 12, none⟩,
          ⟨.storen 75 (.fr 12) (.tm 0), .no, none⟩]) <|
          .seq (.reg [
          ⟨.mov (.c (.int .i64 4)), .fr 13, none⟩]) <|
          .seq (.seq (.reg [
          ⟨.faddr 0 (.fr 12), .tm, none⟩,
          ⟨.load1 (.tm 0), .tm, none⟩,
          ⟨.bin .rem (.tm 0) (.c (.int .u8 8)), .fr 21, none⟩]) <|
          .block 2 (.seq (.reg [
            ⟨.bin .eql (.fr 21) (.c (.int .u8 3)), .tm, none⟩,
            ⟨.mov (.tm 0), .fr 22, none⟩]) <|
            .cond (.fr 22)
              (.reg [
              ⟨.mov (.fr 3), .tm, none⟩,
              ⟨.faddr 1 (.fr 12), .tm, none⟩,
              ⟨.load1 (.tm 0), .tm, none⟩,
              ⟨.faddr 2 (.fr 12), .tm, none⟩,
              ⟨.faddr 2 (.tm 0), .tm, none⟩,
              ⟨.load1 (.tm 0), .tm, none⟩,
              ⟨.callf 11 [(.tm 5), (.tm 3), (.tm 0)], .tm, none⟩])
              (.seq (.reg [
              ⟨.bin .eql (.fr 21) (.c (.int .u8 4)), .tm, none⟩,
              ⟨.mov (.tm 0), .fr 23, none⟩]) <|
              .cond (.fr 23)
                (.seq (.reg [
                ⟨.mov (.fr 3), .tm, none⟩,
                ⟨.faddr 1 (.fr 12), .tm, none⟩,
                ⟨.load1 (.tm 0), .tm, none⟩,
                ⟨.faddr 2 (.fr 12), .tm, none⟩,
                ⟨.faddr 2 (.tm 0), .tm, none⟩,
                ⟨.load1 (.tm 0), .tm, none⟩,
                ⟨.callf 12 [(.tm 5), (.tm 3), (.tm 0)], .tm, none⟩,
                ⟨.bin .eql (.tm 0) (.c (.int .i64 0)), .fr 24, none⟩]) <|
                .cond (.fr 24)
                  (.reg [
                  ⟨.mov (.c (.bool false)), .fr 10, none⟩])
                  (.skip))
                (.seq (.seq (.reg [
                ⟨.bin .eql (.fr 21) (.c (.int .u8 5)), .tm, none⟩,
                ⟨.mov (.tm 0), .fr 25, none⟩]) <|
                .cond (.fr 25)
                  (.skip)
                  (.reg [
                  ⟨.bin .eql (.fr 21) (.c (.int .u8 6)), .tm, none⟩,
                  ⟨.mov (.tm 0), .fr 25, none⟩])) <|
                .cond (.fr 25)
                  (.seq (.reg [
                  ⟨.mov (.fr 3), .tm, none⟩,
                  ⟨.callf 13 [(.tm 0)], .tm, none⟩]) <|
                  .reg [
                  ⟨.mov (.fr 7), .tm, none⟩,
                  ⟨.bin .add (.tm 0) (.c (.int .i64 1)), .tm, none⟩,
                  ⟨.mov (.tm 0), .fr 7, none⟩])
                  (.seq (.reg [
                  ⟨.bin .eql (.fr 21) (.c (.int .u8 7)), .tm, none⟩,
                  ⟨.mov (.tm 0), .fr 26, none⟩]) <|
                  .cond (.fr 26)
                    (.seq (.reg [
                    ⟨.mov (.fr 3), .tm, none⟩,
                    ⟨.callf 14 [(.tm 0)], .tm, none⟩,
                    ⟨.bin .eql (.tm 0) (.c (.int .i64 0)), .fr 27, none⟩]) <|
                    .cond (.fr 27)
                      (.seq (.reg [
                      ⟨.mov (.c (.bool true)), .fr 10, none⟩]) <|
                      .seq (.reg [
                      ⟨.mov (.c (.int .i64 0)), .fr 7, none⟩]) <|
                      .reg [
                      ⟨.faddr 1 (.fr 9), .tm, none⟩,
                      ⟨.load1 (.tm 0), .tm, none⟩,
                      ⟨.build [(.int .u64 0), (.int .u32 0)] [(1, 1, (.tm 0))], .tm, none⟩,
                      ⟨.storen 2 (.fr 9) (.tm 0), .no, none⟩])
                      (.skip))
                    (.reg [
                    ⟨.mov (.fr 3), .tm, none⟩,
                    ⟨.faddr 1 (.fr 12), .tm, none⟩,
                    ⟨.load1 (.tm 0), .tm, none⟩,
                    ⟨.faddr 2 (.fr 12), .tm, none⟩,
                    ⟨.loadn 5 (.tm 0), .tm, none⟩,
                    ⟨.faddr 7 (.fr 12), .tm, none⟩,
                    ⟨.loadn 68 (.tm 0), .tm, none⟩,
                    ⟨.callf 15 [(.tm 6), (.tm 4), (.tm 2), (.tm 0)], .tm, none⟩,
                    ⟨.mov (.tm 0), .fr 13, none⟩])))))) <|
          .seq (.seq (.reg [
          ⟨.mov (.fr 3), .tm, none⟩,
          ⟨.callf 16 [(.tm 0)], .tm, none⟩,
          ⟨.mov (.fr 5), .tm, none⟩,
          ⟨.bin .lss (.tm 1) (.tm 0), .tm, none⟩,
          ⟨.mov (.tm 0), .tm, none⟩,
          ⟨.mov (.fr 3), .tm, some ((.tm 0), false)⟩,
          ⟨.callf 16 [(.tm 0)], .tm, some ((.tm 1), false)⟩,
          ⟨.mov (.fr 5), .tm, some ((.tm 2), false)⟩,
          ⟨.bin .eql (.tm 1) (.tm 0), .tm, some ((.tm 3), false)⟩,
          ⟨.mov (.tm 0), .tm, some ((.tm 4), false)⟩,
          ⟨.mov (.fr 5), .tm, some ((.tm 0), true)⟩,
          ⟨.bin .gtr (.tm 0) (.c (.int .i64 0)), .tm, some ((.tm 1), true)⟩,
          ⟨.pick (.tm 2) (.tm 0) (.c (.bool false)), .tm, some ((.tm 7), false)⟩,
          ⟨.mov (.tm 0), .tm, some ((.tm 8), false)⟩,
          ⟨.mov (.fr 3), .tm, some ((.tm 0), true)⟩,
          ⟨.callf 17 [(.tm 0)], .tm, some ((.tm 1), true)⟩,
          ⟨.mov (.fr 8), .tm, some ((.tm 2), true)⟩,
          ⟨.bin .neq (.tm 1) (.tm 0), .tm, some ((.tm 3), true)⟩,
          ⟨.pick (.tm 4) (.tm 0) (.c (.bool false)), .tm, some ((.tm 13), false)⟩,
          ⟨.pick (.tm 14) (.c (.bool true)) (.tm 0), .fr 28, none⟩]) <|
          .cond (.fr 28)
            (.seq (.reg [
            ⟨.mov (.c (.bool false)), .fr 2, none⟩]) <|
            .ret)
            (.skip)) <|
          .seq (.seq (.reg [
          ⟨.mov (.fr 3), .tm, none⟩,
          ⟨.callf 16 [(.tm 0)], .tm, none⟩,
          ⟨.mov (.fr 5), .tm, none⟩,
          ⟨.bin .gtr (.tm 1) (.tm 0), .fr 29, none⟩]) <|
          .cond (.fr 29)
            (.reg [
            ⟨.mov (.c (.int .i64 (-1))), .fr 6, none⟩])
            (.skip)) <|
          .seq (.reg [
          ⟨.mov (.fr 3), .tm, none⟩,
          ⟨.callf 16 [(.tm 0)], .tm, none⟩,
          ⟨.mov (.fr 3), .tm, none⟩,
          ⟨.callf 17 [(.tm 0)], .tm, none⟩,
          ⟨.mov (.tm 2), .fr 5, none⟩,
          ⟨.mov (.tm 0), .fr 8, none⟩]) <|
          .seq (.seq (.reg [
          ⟨.mov (.fr 13), .tm, none⟩,
          ⟨.bin .eql (.tm 0) (.c (.int .i64 0)), .fr 30, none⟩]) <|
          .cond (.fr 30)
            (.seq (.seq (.reg [
            ⟨.faddr 2 (.fr 12), .tm, none⟩,
            ⟨.faddr 2 (.tm 0), .tm, none⟩,
            ⟨.load1 (.tm 0), .tm, none⟩,
            ⟨.mov (.fr 5), .tm, none⟩,
            ⟨.bin .neq (.tm 1) (.tm 0), .tm, none⟩,
            ⟨.mov (.tm 0), .tm, none⟩,
            ⟨.faddr 1 (.fr 12), .tm, some ((.tm 0), false)⟩,
            ⟨.load1 (.tm 0), .tm, some ((.tm 1), false)⟩,
            ⟨.mov (.fr 8), .tm, some ((.tm 2), false)⟩,
            ⟨.bin .neq (.tm 1) (.tm 0), .tm, some ((.tm 3), false)⟩,
            ⟨.pick (.tm 4) (.c (.bool true)) (.tm 0), .tm, none⟩,
            ⟨.mov (.tm 0), .tm, none⟩,
            ⟨.faddr 2 (.fr 12), .tm, some ((.tm 0), false)⟩,
            ⟨.faddr 1 (.tm 0), .tm, some ((.tm 1), false)⟩,
            ⟨.load1 (.tm 0), .tm, some ((.tm 2), false)⟩,
            ⟨.mov (.fr 6), .tm, some ((.tm 3), false)⟩,
            ⟨.bin .leq (.tm 1) (.tm 0), .tm, some ((.tm 4), false)⟩,
            ⟨.pick (.tm 5) (.c (.bool true)) (.tm 0), .tm, none⟩,
            ⟨.mov (.tm 0), .tm, none⟩,
            ⟨.mov (.fr 10), .tm, some ((.tm 0), false)⟩,
            ⟨.un .not (.tm 0), .tm, some ((.tm 1), false)⟩,
            ⟨.pick (.tm 2) (.c (.bool true)) (.tm 0), .fr 31, none⟩]) <|
            .cond (.fr 31)
              (.seq (.reg [
              ⟨.mov (.c (.bool false)), .fr 2, none⟩]) <|
              .ret)
              (.skip)) <|
            .seq (.reg [
            ⟨.faddr 2 (.fr 12), .tm, none⟩,
            ⟨.faddr 1 (.tm 0), .tm, none⟩,
            ⟨.load1 (.tm 0), .tm, none⟩,
            ⟨.mov (.tm 0), .fr 6, none⟩]) <|
            .seq (.reg [
            ⟨.faddr 2 (.fr 12), .tm, none⟩,
            ⟨.faddr 3 (.tm 0), .tm, none⟩,
            ⟨.loadn 2 (.tm 0), .tm, none⟩,
            ⟨.storen 2 (.fr 9) (.tm 0), .no, none⟩]) <|
            .reg [
            ⟨.mov (.c (.int .i64 0)), .fr 7, none⟩])
            (.skip)) <|
          .seq (.reg [
          ⟨.mov (.fr 3), .tm, none⟩,
          ⟨.callf 18 [(.tm 0)], .tm, none⟩,
          ⟨.mov (.tm 0), .tm, none⟩,
          ⟨.extract (.tm 0) 0, .tm, none⟩,
          ⟨.extract (.tm 1) 1, .tm, none⟩,
          ⟨.new 50 70 Z70, .fr 14, none⟩,
          ⟨.storen 70 (.fr 14) (.tm 1), .no, none⟩,
          ⟨.mov (.tm 0), .fr 15, none⟩]) <|
          .seq (.seq (.reg [
          ⟨.mov (.fr 13), .tm, none⟩,
          ⟨.bin .eql (.tm 0) (.c (.int .i64 0)), .tm, none⟩,
          ⟨.mov (.tm 0), .tm, none⟩,
          ⟨.mov (.fr 15), .tm, some ((.tm 0), true)⟩,
          ⟨.un .not (.tm 0), .tm, some ((.tm 1), true)⟩,
          ⟨.mov (.tm 0), .tm, some ((.tm 2), true)⟩,
          ⟨.faddr 2 (.fr 14), .tm, some ((.tm 0), false)⟩,
          ⟨.loadn 68 (.tm 0), .tm, some ((.tm 1), false)⟩,
          ⟨.faddr 7 (.fr 12), .tm, some ((.tm 2), false)⟩,
          ⟨.loadn 68 (.tm 0), .tm, some ((.tm 3), false)⟩,
          ⟨.eqs O68 true (.tm 2) (.tm 0), .tm, some ((.tm 4), false)⟩,
          ⟨.pick (.tm 5) (.c (.bool true)) (.tm 0), .tm, some ((.tm 8), true)⟩,
          ⟨.mov (.tm 0), .tm, some ((.tm 9), true)⟩,
          ⟨.faddr 1 (.fr 14), .tm, some ((.tm 0), false)⟩,
          ⟨.load1 (.tm 0), .tm, some ((.tm 1), false)⟩,
          ⟨.mov (.fr 6), .tm, some ((.tm 2), false)⟩,
          ⟨.bin .neq (.tm 1) (.tm 0), .tm, some ((.tm 3), false)⟩,
          ⟨.pick (.tm 4) (.c (.bool true)) (.tm 0), .tm, some ((.tm 14), true)⟩,
          ⟨.pick (.tm 15) (.tm 0) (.c (.bool false)), .fr 32, none⟩]) <|
          .cond (.fr 32)
            (.seq (.reg [
            ⟨.mov (.c (.bool false)), .fr 2, none⟩]) <|
            .ret)
            (.skip)) <|
          .seq (.reg [
          ⟨.mov (.fr 3), .tm, none⟩,
          ⟨.callf 19 [(.tm 0)], .tm, none⟩,
          ⟨.mov (.tm 0), .tm, none⟩,
          ⟨.extract (.tm 0) 0, .tm, none⟩,
          ⟨.extract (.tm 1) 1, .tm, none⟩,
          ⟨.new 35 2 [(.int .u64 0), (.int .u32 0)], .fr 16, none⟩,
          ⟨.storen 2 (.fr 16) (.tm 1), .no, none⟩,
          ⟨.mov (.tm 0), .fr 17, none⟩]) <|
          .seq (.seq (.reg [
          ⟨.faddr 0 (.fr 16), .tm, none⟩,
          ⟨.load1 (.tm 0), .tm, none⟩,
          ⟨.faddr 2 (.fr 14), .tm, none⟩,
          ⟨.faddr 0 (.tm 0), .tm, none⟩,
          ⟨.load1 (.tm 0), .tm, none⟩,
          ⟨.bin .andNot (.tm 3) (.tm 0), .tm, none⟩,
          ⟨.bin .neq (.tm 0) (.c (.int .u64 0)), .fr 33, none⟩]) <|
          .cond (.fr 33)
            (.seq (.reg [
            ⟨.mov (.c (.bool false)), .fr 2, none⟩]) <|
            .ret)
            (.skip)) <|
          .seq (.seq (.reg [
          ⟨.mov (.fr 17), .fr 34, none⟩]) <|
          .cond (.fr 34)
            (.reg [
            ⟨.mov (.c (.bool false)), .fr 10, none⟩])
            (.skip)) <|
          .seq (.reg [
          ⟨.mov (.fr 17), .tm, none⟩,
          ⟨.mov (.tm 0), .tm, none⟩,
          ⟨.faddr 0 (.fr 16), .tm, some ((.tm 0), true)⟩,
          ⟨.load1 (.tm 0), .tm, some ((.tm 1), true)⟩,
          ⟨.bin .neq (.tm 0) (.c (.int .u64 0)), .tm, some ((.tm 2), true)⟩,
          ⟨.pick (.tm 3) (.tm 0) (.c (.bool false)), .tm, none⟩,
          ⟨.mov (.tm 0), .tm, none⟩,
          ⟨.mov (.fr 17), .tm, some ((.tm 0), false)⟩,
          ⟨.un .not (.tm 0), .tm, some ((.tm 1), false)⟩,
          ⟨.mov (.tm 0), .tm, some ((.tm 2), false)⟩,
          ⟨.loadn 2 (.fr 16), .tm, some ((.tm 0), true)⟩,
          ⟨.loadn 2 (.fr 9), .tm, some ((.tm 1), true)⟩,
          ⟨.eqs [1, 1] true (.tm 1) (.tm 0), .tm, some ((.tm 2), true)⟩,
          ⟨.mov (.tm 0), .tm, some ((.tm 3), true)⟩,
          ⟨.mov (.fr 7), .tm, some ((.tm 0), false)⟩,
          ⟨.mov (.fr 0), .tm, some ((.tm 1), false)⟩,
          ⟨.i2i .i64 (.tm 0), .tm, some ((.tm 2), false)⟩,
          ⟨.bin .add (.c (.int .i64 1)) (.tm 0), .tm, some ((.tm 3), false)⟩,
          ⟨.bin .gtr (.tm 3) (.tm 0), .tm, some ((.tm 4), false)⟩,
          ⟨.pick (.tm 5) (.c (.bool true)) (.tm 0), .tm, some ((.tm 9), true)⟩,
          ⟨.mov (.tm 0), .tm, some ((.tm 10), true)⟩,
          ⟨.mov (.fr 10), .tm, some ((.tm 0), false)⟩,
          ⟨.un .not (.tm 0), .tm, some ((.tm 1), false)⟩,
          ⟨.pick (.tm 2) (.c (.bool true)) (.tm 0), .tm, some ((.tm 13), true)⟩,
          ⟨.pick (.tm 14) (.tm 0) (.c (.bool false)), .tm, some ((.tm 17), false)⟩,
          ⟨.pick (.tm 18) (.c (.bool true)) (.tm 0), .fr 35, none⟩]) <|
          .cond (.fr 35)
            (.seq (.reg [
            ⟨.mov (.c (.bool false)), .fr 2, none⟩]) <|
            .ret)
            (.skip))) <|
        .reg [
        ⟨.mov (.fr 11), .tm, none⟩,
        ⟨.bin .add (.tm 0) (.c (.int .i64 1)), .tm, none⟩,
        ⟨.mov (.tm 0), .fr 11, none⟩]))) <|
    .seq (.reg [
    ⟨.callf 6 [], .tm, none⟩,
    ⟨.mov (.tm 0), .fr 2, none⟩]) <|
    .ret, [.t 2]⟩
/-- semaphore/semaphorelaw24.RelayKnown ; args 0 ; slots [0, 1, 2, 3, 4, 5, 6, 8, 9, 11, 12, 14, 167, 168, 169, 170, 176] -/
def f5 : AFunc := ⟨[0, 1, 2, 3, 4, 5, 6, 8, 9, 11, 12, 14, 167, 168, 169, 170, 176],
  .seq (.reg [
    ⟨.mov (.c (.bool false)), .fr 0, none⟩]) <|
    .seq (.reg [
    ⟨.mov (.c (.pointer none)), .fr 1, none⟩]) <|
    .seq (.reg [
    ⟨.mov (.fr 1), .tm, none⟩,
    ⟨.callf 13 [(.tm 0)], .tm, none⟩]) <|
    .seq (.reg [
    ⟨.mov (.fr 1), .tm, none⟩,
    ⟨.callf 19 [(.tm 0)], .tm, none⟩,
    ⟨.mov (.tm 0), .tm, none⟩,
    ⟨.extract (.tm 0) 0, .tm, none⟩,
    ⟨.extract (.tm 1) 1, .tm, none⟩,
    ⟨.new 35 2 [(.int .u64 0), (.int .u32 0)], .fr 2, none⟩,
    ⟨.storen 2 (.fr 2) (.tm 1), .no, none⟩,
    ⟨.mov (.tm 0), .fr 3, none⟩]) <|
    .seq (.reg [
    ⟨.mov (.fr 1), .tm, none⟩,
    ⟨.build [(.int .u8 0), (.int .i64 0), (.int .i64 0), (.int .u64 0), (.int .u32 0)] [], .tm, none⟩,
    ⟨.build Z68 [], .tm, none⟩,
    ⟨.callf 15 [(.tm 2), (.c (.int .i64 0)), (.tm 1), (.tm 0)], .tm, none⟩,
    ⟨.bin .eql (.tm 0) (.c (.int .i64 1)), .tm, none⟩,
    ⟨.mov (.tm 0), .tm, none⟩,
    ⟨.mov (.fr 1), .tm, some ((.tm 0), true)⟩,
    ⟨.callf 11 [(.tm 0), (.c (.int .i64 0)), (.c (.int .i64 1))], .tm, some ((.tm 1), true)⟩,
    ⟨.bin .eql (.tm 0) (.c (.int .i64 1)), .tm, some ((.tm 2), true)⟩,
    ⟨.pick (.tm 3) (.tm 0) (.c (.bool false)), .tm, none⟩,
    ⟨.mov (.tm 0), .tm, none⟩,
    ⟨.mov (.fr 1), .tm, some ((.tm 0), true)⟩,
    ⟨.callf 12 [(.tm 0), (.c (.int .i64 0)), (.c (.int .i64 1))], .tm, some ((.tm 1), true)⟩,
    ⟨.bin .eql (.tm 0) (.c (.int .i64 1)), .tm, some ((.tm 2), true)⟩,
    ⟨.pick (.tm 3) (.tm 0) (.c (.bool false)), .tm, none⟩,
    ⟨.mov (.tm 0), .tm, none⟩,
    ⟨.mov (.fr 1), .tm, some ((.tm 0), true)⟩,
    ⟨.callf 14 [(.tm 0)], .tm, some ((.tm 1), true)⟩,
    ⟨.bin .eql (.tm 0) (.c (.int .i64 1)), .tm, some ((.tm 2), true)⟩,
    ⟨.pick (.tm 3) (.tm 0) (.c (.bool false)), .tm, none⟩,
    ⟨.mov (.tm 0), .tm, none⟩,
    ⟨.loadn 2 (.fr 2), .tm, some ((.tm 0), true)⟩,
    ⟨.build [(.int .u64 0), (.int .u32 0)] [], .tm, some ((.tm 1), true)⟩,
    ⟨.eqs [1, 1] false (.tm 1) (.tm 0), .tm, some ((.tm 2), true)⟩,
    ⟨.pick (.tm 3) (.tm 0) (.c (.bool false)), .tm, none⟩,
    ⟨.mov (.tm 0), .tm, none⟩,
    ⟨.mov (.fr 3), .tm, some ((.tm 0), true)⟩,
    ⟨.pick (.tm 1) (.tm 0) (.c (.bool false)), .tm, none⟩,
    ⟨.mov (.tm 0), .tm, none⟩,
    ⟨.mov (.fr 1), .tm, some ((.tm 0), true)⟩,
    ⟨.callf 16 [(.tm 0)], .tm, some ((.tm 1), true)⟩,
    ⟨.bin .eql (.tm 0) (.c (.int .i64 0)), .tm, some ((.tm 2), true)⟩,
    ⟨.pick (.tm 3) (.tm 0) (.c (.bool false)), .tm, none⟩,
    ⟨.mov (.tm 0), .tm, none⟩,
    ⟨.mov (.fr 1), .tm, some ((.tm 0), true)⟩,
    ⟨.callf 17 [(.tm 0)], .tm, some ((.tm 1), true)⟩,
    ⟨.bin .eql (.tm 0) (.c (.int .i64 (-1))), .tm, some ((.tm 2), true)⟩,
    ⟨.pick (.tm 3) (.tm 0) (.c (.bool false)), .tm, none⟩,
    ⟨.mov (.tm 0), .tm, none⟩,
    ⟨.mov (.fr 1), .tm, some ((.tm 0), true)⟩,
    ⟨.callf 20 [(.tm 0)], .tm, some ((.tm 1), true)⟩,
    ⟨.bin .eql (.tm 0) (.c (.int .i64 (-1))), .tm, some ((.tm 2), true)⟩,
    ⟨.pick (.tm 3) (.tm 0) (.c (.bool false)), .tm, none⟩,
    ⟨.mov (.tm 0), .fr 4, none⟩]) <|
    .seq (.reg [
    ⟨.build [(.int .u64 0), (.int .u32 0)] [(0, 1, (.c (.int .u64 5))), (1, 1, (.c (.int .u32 6)))], .tm, none⟩,
    ⟨.new 35 2 [(.int .u64 0), (.int .u32 0)], .fr 5, none⟩,
    ⟨.storen 2 (.fr 5) (.tm 0), .no, none⟩]) <|
    .seq (.reg [
    ⟨.build Z68 [(0, 1, (.c (.int .u64 21)))], .tm, none⟩,
    ⟨.new 40 68 Z68, .fr 6, none⟩,
    ⟨.storen 68 (.fr 6) (.tm 0), .no, none⟩]) <|
    .seq (.reg [
    ⟨.mov (.fr 1), .tm, none⟩,
    ⟨.callf 18 [(.tm 0)], .tm, none⟩,
    ⟨.mov (.tm 0), .tm, none⟩,
    ⟨.extract (.tm 0) 0, .tm, none⟩,
    ⟨.extract (.tm 1) 1, .tm, none⟩,
    ⟨.new 50 70 Z70, .tm, none⟩,
    ⟨.storen 70 (.tm 0) (.tm 2), .no, none⟩,
    ⟨.mov (.tm 1), .fr 7, none⟩]) <|
    .seq (.reg [
    ⟨.callf 7 [(.c (.int .i64 1))], .tm, none⟩,
    ⟨.mov (.tm 0), .tm, none⟩,
    ⟨.extract (.tm 0) 0, .tm, none⟩,
    ⟨.extract (.tm 1) 1, .tm, none⟩,
    ⟨.mov (.tm 1), .fr 8, none⟩,
    ⟨.mov (.tm 0), .tm, none⟩]) <|
    .seq (.reg [
    ⟨.mov (.fr 8), .tm, none⟩,
    ⟨.callf 14 [(.tm 0)], .tm, none⟩]) <|
    .seq (.reg [
    ⟨.mov (.fr 8), .tm, none⟩,
    ⟨.loadn 2 (.fr 5), .tm, none⟩,
    ⟨.build [(.int .u8 0), (.int .i64 0), (.int .i64 0), (.int .u64 0), (.int .u32 0)] [(2, 1, (.c (.int .i64 1))), (3, 2, (.tm 0))], .tm, none⟩,
    ⟨.build Z68 [(0, 1, (.c (.int .u64 4)))], .tm, none⟩,
    ⟨.callf 15 [(.tm 3), (.c (.int .i64 0)), (.tm 1), (.tm 0)], .tm, none⟩,
    ⟨.mov (.tm 0), .fr 9, none⟩]) <|
    .seq (.reg [
    ⟨.build [(.int .u8 0), (.int .i64 0), (.int .i64 0), (.int .u64 0), (.int .u32 0)] [(2, 1, (.c (.int .i64 1)))], .tm, none⟩,
    ⟨.loadn 68 (.fr 6), .tm, none⟩,
    ⟨.build Z75 [(0, 1, (.c (.int .u8 0))), (1, 1, (.c (.int .i64 0))), (2, 5, (.tm 1)), (7, 68, (.tm 0))], .tm, none⟩,
    ⟨.build [(.int .u8 0), (.int .i64 0), (.int .i64 0), (.int .u64 0), (.int .u32 0)] [], .tm, none⟩,
    ⟨.loadn 68 (.fr 6), .tm, none⟩,
    ⟨.build Z75 [(0, 1, (.c (.int .u8 7))), (1, 1, (.c (.int .i64 0))), (2, 5, (.tm 1)), (7, 68, (.tm 0))], .tm, none⟩,
    ⟨.build [(.int .u8 0), (.int .i64 0), (.int .i64 0), (.int .u64 0), (.int .u32 0)] [], .tm, none⟩,
    ⟨.loadn 68 (.fr 6), .tm, none⟩,
    ⟨.build Z75 [(0, 1, (.c (.int .u8 7))), (1, 1, (.c (.int .i64 0))), (2, 5, (.tm 1)), (7, 68, (.tm 0))], .tm, none⟩,
    ⟨.loadn 2 (.fr 5), .tm, none⟩,
    ⟨.build [(.int .u8 0), (.int .i64 0), (.int .i64 0), (.int .u64 0), (.int .u32 0)] [(2, 1, (.c (.int .i64 1))), (1, 1, (.c (.int .i64 0))), (3, 2, (.tm 0))], .tm, none⟩,
    ⟨.loadn 68 (.fr 6), .tm, none⟩,
    ⟨.build Z75 [(0, 1, (.c (.int .u8 0))), (1, 1, (.c (.int .i64 0))), (2, 5, (.tm 1)), (7, 68, (.tm 0))], .tm, none⟩,
    ⟨.build [(.int .u8 0), (.int .i64 0), (.int .i64 0), (.int .u64 0), (.int .u32 0)] [(2, 1, (.c (.int .i64 1))), (1, 1, (.c (.int .i64 0)))], .tm, none⟩,
    ⟨.loadn 68 (.fr 6), .tm, none⟩,
    ⟨.build Z75 [(0, 1, (.c (.int .u8 0))), (1, 1, (.c (.int .i64 0))), (2, 5, (.tm 1)), (7, 68, (.tm 0))], .tm, none⟩,
    ⟨.build [(.int .u8 0), (.int .i64 0), (.int .i64 0), (.int .u64 0), (.int .u32 0)] [(2, 1, (.c (.int .i64 1))), (1, 1, (.c (.int .i64 1)))], .tm, none⟩,
    ⟨.loadn 68 (.fr 6), .tm, none⟩,
    ⟨.build Z75 [(0, 1, (.c (.int .u8 0))), (1, 1, (.c (.int .i64 2))), (2, 5, (.tm 1)), (7, 68, (.tm 0))], .tm, none⟩,
    ⟨.build [(.int .u8 0), (.int .i64 0), (.int .i64 0), (.int .u64 0), (.int .u32 0)] [(2, 1, (.c (.int .i64 1))), (1, 1, (.c (.int .i64 1)))], .tm, none⟩,
    ⟨.loadn 68 (.fr 6), .tm, none⟩,
    ⟨.build Z75 [(0, 1, (.c (.int .u8 0))), (1, 1, (.c (.int .i64 (-1)))), (2, 5, (.tm 1)), (7, 68, (.tm 0))], .tm, none⟩,
    ⟨.build [(.int .u8 0), (.int .i64 0), (.int .i64 0), (.int .u64 0), (.int .u32 0)] [(2, 1, (.c (.int .i64 0))), (1, 1, (.c (.int .i64 1)))], .tm, none⟩,
    ⟨.loadn 68 (.fr 6), .tm, none⟩,
    ⟨.build Z75 [(0, 1, (.c (.int .u8 0))), (1, 1, (.c (.int .i64 0))), (2, 5, (.tm 1)), (7, 68, (.tm 0))], .tm, none⟩,
    ⟨.build [(.int .u8 0), (.int .i64 0), (.int .i64 0), (.int .u64 0), (.int .u32 0)] [(2, 1, (.c (.int .i64 1099511627777))), (1, 1, (.c (.int .i64 1)))], .tm, none⟩,
    ⟨.loadn 68 (.fr 6), .tm, none⟩,
    ⟨.build Z75 [(0, 1, (.c (.int .u8 0))), (1, 1, (.c (.int .i64 0))), (2, 5, (.tm 1)), (7, 68, (.tm 0))], .tm, none⟩,
    ⟨.build [(.int .u8 0), (.int .i64 0), (.int .i64 0), (.int .u64 0), (.int .u32 0)] [(2, 1, (.c (.int .i64 3))), (1, 1, (.c (.int .i64 (-1))))], .tm, none⟩,
    ⟨.loadn 68 (.fr 6), .tm, none⟩,
    ⟨.build Z75 [(0, 1, (.c (.int .u8 0))), (1, 1, (.c (.int .i64 1))), (2, 5, (.tm 1)), (7, 68, (.tm 0))], .tm, none⟩,
    ⟨.build [(.int .u8 0), (.int .i64 0), (.int .i64 0), (.int .u64 0), (.int .u32 0)] [(2, 1, (.c (.int .i64 3))), (1, 1, (.c (.int .i64 1099511627777)))], .tm, none⟩,
    ⟨.loadn 68 (.fr 6), .tm, none⟩,
    ⟨.build Z75 [(0, 1, (.c (.int .u8 0))), (1, 1, (.c (.int .i64 1))), (2, 5, (.tm 1)), (7, 68, (.tm 0))], .tm, none⟩,
    ⟨.loadn 2 (.fr 5), .tm, none⟩,
    ⟨.build [(.int .u8 0), (.int .i64 0), (.int .i64 0), (.int .u64 0), (.int .u32 0)] [(2, 1, (.c (.int .i64 2))), (1, 1, (.c (.int .i64 1099511627776))), (3, 2, (.tm 0))], .tm, none⟩,
    ⟨.loadn 68 (.fr 6), .tm, none⟩,
    ⟨.build Z75 [(0, 1, (.c (.int .u8 0))), (1, 1, (.c (.int .i64 0))), (2, 5, (.tm 1)), (7, 68, (.tm 0))], .tm, none⟩,
    ⟨.build [(.int .u8 0), (.int .i64 0), (.int .i64 0), (.int .u64 0), (.int .u32 0)] [(2, 1, (.c (.int .i64 2)))], .tm, none⟩,
    ⟨.loadn 68 (.fr 6), .tm, none⟩,
    ⟨.build Z75 [(0, 1, (.c (.int .u8 3))), (1, 1, (.c (.int .i64 1))), (2, 5, (.tm 1)), (7, 68, (.tm 0))], .tm, none⟩,
    ⟨.build [(.int .u8 0), (.int .i64 0), (.int .i64 0), (.int .u64 0), (.int .u32 0)] [(2, 1, (.c (.int .i64 3)))], .tm, none⟩,
    ⟨.loadn 68 (.fr 6), .tm, none⟩,
    ⟨.build Z75 [(0, 1, (.c (.int .u8 3))), (1, 1, (.c (.int .i64 1))), (2, 5, (.tm 1)), (7, 68, (.tm 0))], .tm, none⟩,
    ⟨.build [(.int .u8 0), (.int .i64 0), (.int .i64 0), (.int .u64 0), (.int .u32 0)] [(2, 1, (.c (.int .i64 3)))], .tm, none⟩,
    ⟨.loadn 68 (.fr 6), .tm, none⟩,
    ⟨.build Z75 [(0, 1, (.c (.int .u8 4))), (1, 1, (.c (.int .i64 0))), (2, 5, (.tm 1)), (7, 68, (.tm 0))], .tm, none⟩,
    ⟨.build [(.int .u8 0), (.int .i64 0), (.int .i64 0), (.int .u64 0), (.int .u32 0)] [], .tm, none⟩,
    ⟨.loadn 68 (.fr 6), .tm, none⟩,
    ⟨.build Z75 [(0, 1, (.c (.int .u8 5))), (1, 1, (.c (.int .i64 0))), (2, 5, (.tm 1)), (7, 68, (.tm 0))], .tm, none⟩,
    ⟨.build [(.int .u8 0), (.int .i64 0), (.int .i64 0), (.int .u64 0), (.int .u32 0)] [(2, 1, (.c (.int .i64 3)))], .tm, none⟩,
    ⟨.loadn 68 (.fr 6), .tm, none⟩,
    ⟨.build Z75 [(0, 1, (.c (.int .u8 4))), (1, 1, (.c (.int .i64 1))), (2, 5, (.tm 1)), (7, 68, (.tm 0))], .tm, none⟩,
    ⟨.loadn 2 (.fr 5), .tm, none⟩,
    ⟨.build [(.int .u8 0), (.int .i64 0), (.int .i64 0), (.int .u64 0), (.int .u32 0)] [(2, 1, (.c (.int .i64 4))), (1, 1, (.c (.int .i64 1))), (3, 2, (.tm 0))], .tm, none⟩,
    ⟨.loadn 68 (.fr 6), .tm, none⟩,
    ⟨.build Z75 [(0, 1, (.c (.int .u8 0))), (1, 1, (.c (.int .i64 1))), (2, 5, (.tm 1)), (7, 68, (.tm 0))], .tm, none⟩,
    ⟨.build [(.int .u8 0), (.int .i64 0), (.int .i64 0), (.int .u64 0), (.int .u32 0)] [], .tm, none⟩,
    ⟨.loadn 68 (.fr 6), .tm, none⟩,
    ⟨.build Z75 [(0, 1, (.c (.int .u8 7))), (1, 1, (.c (.int .i64 0))), (2, 5, (.tm 1)), (7, 68, (.tm 0))], .tm, none⟩,
    ⟨.loadn 2 (.fr 5), .tm, none⟩,
    ⟨.build [(.int .u8 0), (.int .i64 0), (.int .i64 0), (.int .u64 0), (.int .u32 0)] [(2, 1, (.c (.int .i64 4))), (1, 1, (.c (.int .i64 1))), (3, 2, (.tm 0))], .tm, none⟩,
    ⟨.loadn 68 (.fr 6), .tm, none⟩,
    ⟨.build Z75 [(0, 1, (.c (.int .u8 0))), (1, 1, (.c (.int .i64 1))), (2, 5, (.tm 1)), (7, 68, (.tm 0))], .tm, none⟩,
    ⟨.build [(.int .u8 0), (.int .i64 0), (.int .i64 0), (.int .u64 0), (.int .u32 0)] [], .tm, none⟩,
    ⟨.loadn 68 (.fr 6), .tm, none⟩,
    ⟨.build Z75 [(0, 1, (.c (.int .u8 5))), (1, 1, (.c (.int .i64 0))), (2, 5, (.tm 1)), (7, 68, (.tm 0))], .tm, none⟩,
    ⟨.build [(.int .u8 0), (.int .i64 0), (.int .i64 0), (.int .u64 0), (.int .u32 0)] [], .tm, none⟩,
    ⟨.loadn 68 (.fr 6), .tm, none⟩,
    ⟨.build Z75 [(0, 1, (.c (.int .u8 5))), (1, 1, (.c (.int .i64 0))), (2, 5, (.tm 1)), (7, 68, (.tm 0))], .tm, none⟩,
    ⟨.build [(.int .u8 0), (.int .i64 0), (.int .i64 0), (.int .u64 0), (.int .u32 0)] [], .tm, none⟩,
    ⟨.loadn 68 (.fr 6), .tm, none⟩,
    ⟨.build Z75 [(0, 1, (.c (.int .u8 5))), (1, 1, (.c (.int .i64 0))), (2, 5, (.tm 1)), (7, 68, (.tm 0))], .tm, none⟩,
    ⟨.build [(.int .u8 0), (.int .i64 0), (.int .i64 0), (.int .u64 0), (.int .u32 0)] [], .tm, none⟩,
    ⟨.loadn 68 (.fr 6), .tm, none⟩,
    ⟨.build Z75 [(0, 1, (.c (.int .u8 7))), (1, 1, (.c (.int .i64 0))), (2, 5, (.tm 1)), (7, 68, (.tm 0))], .tm, none⟩,
    ⟨.build [(.int .u8 0), (.int .i64 0), (.int .i64 0), (.int .u64 0), (.int .u32 0)] [], .tm, none⟩,
    ⟨.loadn 68 (.fr 6), .tm, none⟩,
    ⟨.build Z75 [(0, 1, (.c (.int .u8 5))), (1, 1, (.c (.int .i64 0))), (2, 5, (.tm 1)), (7, 68, (.tm 0))], .tm, none⟩,
    ⟨.loadn 2 (.fr 5), .tm, none⟩,
    ⟨.build [(.int .u8 0), (.int .i64 0), (.int .i64 0), (.int .u64 0), (.int .u32 0)] [(2, 1, (.c (.int .i64 4))), (1, 1, (.c (.int .i64 2))), (3, 2, (.tm 0))], .tm, none⟩,
    ⟨.loadn 68 (.fr 6), .tm, none⟩,
    ⟨.build Z75 [(0, 1, (.c (.int .u8 0))), (1, 1, (.c (.int .i64 1))), (2, 5, (.tm 1)), (7, 68, (.tm 0))], .tm, none⟩,
    ⟨.bslice 42 75 26 Z1950 [(0, 75, (.tm 80)), (75, 75, (.tm 77)), (150, 75, (.tm 74)), (225, 75, (.tm 70)), (300, 75, (.tm 67)), (375, 75, (.tm 64)), (450, 75, (.tm 61)), (525, 75, (.tm 58)), (600, 75, (.tm 55)), (675, 75, (.tm 52)), (750, 75, (.tm 49)), (825, 75, (.tm 45)), (900, 75, (.tm 42)), (975, 75, (.tm 39)), (1050, 75, (.tm 36)), (1125, 75, (.tm 33)), (1200, 75, (.tm 30)), (1275, 75, (.tm 26)), (1350, 75, (.tm 23)), (1425, 75, (.tm 19)), (1500, 75, (.tm 16)), (1575, 75, (.tm 13)), (1650, 75, (.tm 10)), (1725, 75, (.tm 7)), (1800, 75, (.tm 4)), (1875, 75, (.tm 0))], .tm, none⟩,
    ⟨.mov (.tm 0), .fr 10, none⟩]) <|
    .seq (.seq (.reg [
    ⟨.bslice 3 1 6 [(.int .i64 0), (.int .i64 0), (.int .i64 0), (.int .i64 0), (.int .i64 0), (.int .i64 0)] [(0, 1, (.c (.int .i64 (-1)))), (1, 1, (.c (.int .i64 0))), (2, 1, (.c (.int .i64 1))), (3, 1, (.c (.int .i64 2))), (4, 1, (.c (.int .i64 1000))), (5, 1, (.c (.int .i64 1001)))], .fr 12, none⟩,
    ⟨.len false (.fr 12), .fr 13, none⟩,
    ⟨.mov (.c (.int .i64 0)), .fr 14, none⟩]) <|
    .block 0 (.loop (.seq (.reg [
        ⟨.bin .lss (.fr 14) (.fr 13), .fr 15, none⟩]) <|
        .seq (.cond (.fr 15)
          (.skip)
          (.exit 0)) <|
        .seq (.block 1 (.seq (.reg [
          ⟨.iaddr 1 (.fr 12) (.fr 14), .tm, none⟩,
          ⟨.load1 (.tm 0), .tm, none⟩,
          ⟨.mov (.tm 0), .fr 11, none⟩]) <|
          .seq (.reg [
          ⟨.mov (.fr 11), .tm, none⟩,
          ⟨.mov (.fr 10), .tm, none⟩,
          ⟨.callf 3 [(.tm 1), (.tm 0)], .tm, none⟩,
          ⟨.un .not (.tm 0), .fr 16, none⟩]) <|
          .cond (.fr 16)
            (.seq (.reg [
            ⟨.mov (.c (.bool false)), .fr 0, none⟩]) <|
            .ret)
            (.skip))) <|
        .reg [
        ⟨.bin .add (.fr 14) (.c (.int .i64 1)), .tm, none⟩,
        ⟨.mov (.tm 0), .fr 14, none⟩]))) <|
    .seq (.reg [
    ⟨.mov (.fr 4), .tm, none⟩,
    ⟨.mov (.tm 0), .tm, none⟩,
    ⟨.mov (.fr 7), .tm, some ((.tm 0), true)⟩,
    ⟨.un .not (.tm 0), .tm, some ((.tm 1), true)⟩,
    ⟨.pick (.tm 2) (.tm 0) (.c (.bool false)), .tm, none⟩,
    ⟨.mov (.tm 0), .tm, none⟩,
    ⟨.mov (.fr 9), .tm, some ((.tm 0), true)⟩,
    ⟨.bin .eql (.tm 0) (.c (.int .i64 2)), .tm, some ((.tm 1), true)⟩,
    ⟨.pick (.tm 2) (.tm 0) (.c (.bool false)), .tm, none⟩,
    ⟨.mov (.tm 0), .tm, none⟩,
    ⟨.mov (.fr 8), .tm, some ((.tm 0), true)⟩,
    ⟨.callf 16 [(.tm 0)], .tm, some ((.tm 1), true)⟩,
    ⟨.bin .eql (.tm 0) (.c (.int .i64 0)), .tm, some ((.tm 2), true)⟩,
    ⟨.pick (.tm 3) (.tm 0) (.c (.bool false)), .tm, none⟩,
    ⟨.mov (.tm 0), .tm, none⟩,
    ⟨.mov (.fr 10), .tm, some ((.tm 0), true)⟩,
    ⟨.callf 4 [(.c (.int .u8 0)), (.tm 0)], .tm, some ((.tm 1), true)⟩,
    ⟨.pick (.tm 2) (.tm 0) (.c (.bool false)), .tm, none⟩,
    ⟨.mov (.tm 0), .tm, none⟩,
    ⟨.mov (.fr 10), .tm, some ((.tm 0), true)⟩,
    ⟨.callf 4 [(.c (.int .u8 1)), (.tm 0)], .tm, some ((.tm 1), true)⟩,
    ⟨.pick (.tm 2) (.tm 0) (.c (.bool false)), .tm, none⟩,
    ⟨.mov (.tm 0), .tm, none⟩,
    ⟨.callf 6 [], .tm, some ((.tm 0), true)⟩,
    ⟨.pick (.tm 1) (.tm 0) (.c (.bool false)), .tm, none⟩,
    ⟨.mov (.tm 0), .fr 0, none⟩]) <|
    .ret, [.t 0]⟩
/-- semaphore/semaphorelaw24.works ; args 0 ; slots [0, 1, 2, 4, 5, 6, 7, 8, 9, 10, 11, 12, 13, 14, 15, 21, 85] -/
def f6 : AFunc := ⟨[0, 1, 2, 4, 5, 6, 7, 8, 9, 10, 11, 12, 13, 14, 15, 21, 85],
  .seq (.reg [
    ⟨.mov (.c (.bool false)), .fr 0, none⟩]) <|
    .seq (.reg [
    ⟨.callf 7 [(.c (.int .i64 2))], .tm, none⟩,
    ⟨.mov (.tm 0), .tm, none⟩,
    ⟨.extract (.tm 0) 0, .tm, none⟩,
    ⟨.extract (.tm 1) 1, .tm, none⟩,
    ⟨.mov (.tm 1), .fr 1, none⟩,
    ⟨.mov (.tm 0), .fr 2, none⟩]) <|
    .seq (.seq (.reg [
    ⟨.mov (.fr 2), .tm, none⟩,
    ⟨.bin .neq (.tm 0) (.c (.int .i64 0)), .fr 15, none⟩]) <|
    .cond (.fr 15)
      (.seq (.reg [
      ⟨.mov (.c (.bool false)), .fr 0, none⟩]) <|
      .ret)
      (.skip)) <|
    .seq (.reg [
    ⟨.mov (.fr 1), .tm, none⟩,
    ⟨.callf 19 [(.tm 0)], .tm, none⟩,
    ⟨.mov (.tm 0), .tm, none⟩,
    ⟨.extract (.tm 0) 0, .tm, none⟩,
    ⟨.extract (.tm 1) 1, .tm, none⟩,
    ⟨.new 35 2 [(.int .u64 0), (.int .u32 0)], .tm, none⟩,
    ⟨.storen 2 (.tm 0) (.tm 2), .no, none⟩,
    ⟨.mov (.tm 1), .fr 3, none⟩]) <|
    .seq (.reg [
    ⟨.mov (.fr 1), .tm, none⟩,
    ⟨.callf 14 [(.tm 0)], .tm, none⟩,
    ⟨.mov (.tm 0), .fr 4, none⟩]) <|
    .seq (.reg [
    ⟨.mov (.fr 1), .tm, none⟩,
    ⟨.build [(.int .u64 0), (.int .u32 0)] [(0, 1, (.c (.int .u64 3)))], .tm, none⟩,
    ⟨.build [(.int .u8 0), (.int .i64 0), (.int .i64 0), (.int .u64 0), (.int .u32 0)] [(2, 1, (.c (.int .i64 1))), (1, 1, (.c (.int .i64 5))), (3, 2, (.tm 0))], .tm, none⟩,
    ⟨.build Z68 [(0, 1, (.c (.int .u64 7)))], .tm, none⟩,
    ⟨.callf 15 [(.tm 3), (.c (.int .i64 0)), (.tm 1), (.tm 0)], .tm, none⟩,
    ⟨.mov (.tm 0), .fr 5, none⟩]) <|
    .seq (.reg [
    ⟨.mov (.fr 1), .tm, none⟩,
    ⟨.build [(.int .u8 0), (.int .i64 0), (.int .i64 0), (.int .u64 0), (.int .u32 0)] [(2, 1, (.c (.int .i64 1))), (1, 1, (.c (.int .i64 6)))], .tm, none⟩,
    ⟨.build Z68 [], .tm, none⟩,
    ⟨.callf 15 [(.tm 2), (.c (.int .i64 1)), (.tm 1), (.tm 0)], .tm, none⟩,
    ⟨.mov (.tm 0), .fr 6, none⟩]) <|
    .seq (.reg [
    ⟨.mov (.fr 1), .tm, none⟩,
    ⟨.build [(.int .u64 0), (.int .u32 0)] [(0, 1, (.c (.int .u64 4))), (1, 1, (.c (.int .u32 7)))], .tm, none⟩,
    ⟨.build [(.int .u8 0), (.int .i64 0), (.int .i64 0), (.int .u64 0), (.int .u32 0)] [(2, 1, (.c (.int .i64 2))), (1, 1, (.c (.int .i64 1))), (3, 2, (.tm 0))], .tm, none⟩,
    ⟨.build Z68 [(0, 1, (.c (.int .u64 5)))], .tm, none⟩,
    ⟨.callf 15 [(.tm 3), (.c (.int .i64 1)), (.tm 1), (.tm 0)], .tm, none⟩,
    ⟨.mov (.tm 0), .fr 7, none⟩]) <|
    .seq (.reg [
    ⟨.mov (.fr 1), .tm, none⟩,
    ⟨.build [(.int .u8 0), (.int .i64 0), (.int .i64 0), (.int .u64 0), (.int .u32 0)] [(2, 1, (.c (.int .i64 1))), (1, 1, (.c (.int .i64 7)))], .tm, none⟩,
    ⟨.build Z68 [], .tm, none⟩,
    ⟨.callf 15 [(.tm 2), (.c (.int .i64 0)), (.tm 1), (.tm 0)], .tm, none⟩,
    ⟨.mov (.tm 0), .fr 8, none⟩]) <|
    .seq (.reg [
    ⟨.mov (.fr 1), .tm, none⟩,
    ⟨.callf 19 [(.tm 0)], .tm, none⟩,
    ⟨.mov (.tm 0), .tm, none⟩,
    ⟨.extract (.tm 0) 0, .tm, none⟩,
    ⟨.extract (.tm 1) 1, .tm, none⟩,
    ⟨.new 35 2 [(.int .u64 0), (.int .u32 0)], .fr 9, none⟩,
    ⟨.storen 2 (.fr 9) (.tm 1), .no, none⟩,
    ⟨.mov (.tm 0), .fr 10, none⟩]) <|
    .seq (.reg [
    ⟨.mov (.fr 1), .tm, none⟩,
    ⟨.callf 13 [(.tm 0)], .tm, none⟩]) <|
    .seq (.reg [
    ⟨.mov (.fr 1), .tm, none⟩,
    ⟨.callf 13 [(.tm 0)], .tm, none⟩]) <|
    .seq (.reg [
    ⟨.mov (.fr 1), .tm, none⟩,
    ⟨.callf 13 [(.tm 0)], .tm, none⟩]) <|
    .seq (.reg [
    ⟨.mov (.fr 1), .tm, none⟩,
    ⟨.callf 19 [(.tm 0)], .tm, none⟩,
    ⟨.mov (.tm 0), .tm, none⟩,
    ⟨.extract (.tm 0) 0, .tm, none⟩,
    ⟨.extract (.tm 1) 1, .tm, none⟩,
    ⟨.new 35 2 [(.int .u64 0), (.int .u32 0)], .fr 11, none⟩,
    ⟨.storen 2 (.fr 11) (.tm 1), .no, none⟩,
    ⟨.mov (.tm 0), .fr 12, none⟩]) <|
    .seq (.reg [
    ⟨.mov (.fr 1), .tm, none⟩,
    ⟨.callf 18 [(.tm 0)], .tm, none⟩,
    ⟨.mov (.tm 0), .tm, none⟩,
    ⟨.extract (.tm 0) 0, .tm, none⟩,
    ⟨.extract (.tm 1) 1, .tm, none⟩,
    ⟨.new 50 70 Z70, .fr 13, none⟩,
    ⟨.storen 70 (.fr 13) (.tm 1), .no, none⟩,
    ⟨.mov (.tm 0), .fr 14, none⟩]) <|
    .seq (.seq (.reg [
    ⟨.mov (.fr 14), .tm, none⟩,
    ⟨.un .not (.tm 0), .tm, none⟩,
    ⟨.mov (.tm 0), .tm, none⟩,
    ⟨.faddr 0 (.fr 13), .tm, some ((.tm 0), false)⟩,
    ⟨.load1 (.tm 0), .tm, some ((.tm 1), false)⟩,
    ⟨.bin .neq (.tm 0) (.c (.int .i64 2)), .tm, some ((.tm 2), false)⟩,
    ⟨.pick (.tm 3) (.c (.bool true)) (.tm 0), .tm, none⟩,
    ⟨.mov (.tm 0), .tm, none⟩,
    ⟨.faddr 1 (.fr 13), .tm, some ((.tm 0), false)⟩,
    ⟨.load1 (.tm 0), .tm, some ((.tm 1), false)⟩,
    ⟨.bin .neq (.tm 0) (.c (.int .i64 1)), .tm, some ((.tm 2), false)⟩,
    ⟨.pick (.tm 3) (.c (.bool true)) (.tm 0), .tm, none⟩,
    ⟨.mov (.tm 0), .tm, none⟩,
    ⟨.faddr 2 (.fr 13), .tm, some ((.tm 0), false)⟩,
    ⟨.faddr 0 (.tm 0), .tm, some ((.tm 1), false)⟩,
    ⟨.load1 (.tm 0), .tm, some ((.tm 2), false)⟩,
    ⟨.bin .neq (.tm 0) (.c (.int .u64 5)), .tm, some ((.tm 3), false)⟩,
    ⟨.pick (.tm 4) (.c (.bool true)) (.tm 0), .fr 16, none⟩]) <|
    .cond (.fr 16)
      (.seq (.reg [
      ⟨.mov (.c (.bool false)), .fr 0, none⟩]) <|
      .ret)
      (.skip)) <|
    .seq (.reg [
    ⟨.mov (.fr 3), .tm, none⟩,
    ⟨.mov (.tm 0), .tm, none⟩,
    ⟨.mov (.fr 4), .tm, some ((.tm 0), true)⟩,
    ⟨.bin .eql (.tm 0) (.c (.int .i64 0)), .tm, some ((.tm 1), true)⟩,
    ⟨.pick (.tm 2) (.tm 0) (.c (.bool false)), .tm, none⟩,
    ⟨.mov (.tm 0), .tm, none⟩,
    ⟨.mov (.fr 5), .tm, some ((.tm 0), true)⟩,
    ⟨.bin .eql (.tm 0) (.c (.int .i64 0)), .tm, some ((.tm 1), true)⟩,
    ⟨.pick (.tm 2) (.tm 0) (.c (.bool false)), .tm, none⟩,
    ⟨.mov (.tm 0), .tm, none⟩,
    ⟨.mov (.fr 6), .tm, some ((.tm 0), true)⟩,
    ⟨.bin .eql (.tm 0) (.c (.int .i64 230)), .tm, some ((.tm 1), true)⟩,
    ⟨.pick (.tm 2) (.tm 0) (.c (.bool false)), .tm, none⟩,
    ⟨.mov (.tm 0), .tm, none⟩,
    ⟨.mov (.fr 7), .tm, some ((.tm 0), true)⟩,
    ⟨.bin .eql (.tm 0) (.c (.int .i64 0)), .tm, some ((.tm 1), true)⟩,
    ⟨.pick (.tm 2) (.tm 0) (.c (.bool false)), .tm, none⟩,
    ⟨.mov (.tm 0), .tm, none⟩,
    ⟨.mov (.fr 8), .tm, some ((.tm 0), true)⟩,
    ⟨.bin .eql (.tm 0) (.c (.int .i64 230)), .tm, some ((.tm 1), true)⟩,
    ⟨.pick (.tm 2) (.tm 0) (.c (.bool false)), .tm, none⟩,
    ⟨.mov (.tm 0), .tm, none⟩,
    ⟨.faddr 0 (.fr 9), .tm, some ((.tm 0), true)⟩,
    ⟨.load1 (.tm 0), .tm, some ((.tm 1), true)⟩,
    ⟨.bin .eql (.tm 0) (.c (.int .u64 4)), .tm, some ((.tm 2), true)⟩,
    ⟨.pick (.tm 3) (.tm 0) (.c (.bool false)), .tm, none⟩,
    ⟨.mov (.tm 0), .tm, none⟩,
    ⟨.mov (.fr 10), .tm, some ((.tm 0), true)⟩,
    ⟨.un .not (.tm 0), .tm, some ((.tm 1), true)⟩,
    ⟨.pick (.tm 2) (.tm 0) (.c (.bool false)), .tm, none⟩,
    ⟨.mov (.tm 0), .tm, none⟩,
    ⟨.faddr 0 (.fr 11), .tm, some ((.tm 0), true)⟩,
    ⟨.load1 (.tm 0), .tm, some ((.tm 1), true)⟩,
    ⟨.bin .eql (.tm 0) (.c (.int .u64 0)), .tm, some ((.tm 2), true)⟩,
    ⟨.pick (.tm 3) (.tm 0) (.c (.bool false)), .tm, none⟩,
    ⟨.mov (.tm 0), .tm, none⟩,
    ⟨.faddr 1 (.fr 11), .tm, some ((.tm 0), true)⟩,
    ⟨.load1 (.tm 0), .tm, some ((.tm 1), true)⟩,
    ⟨.bin .eql (.tm 0) (.c (.int .u32 7)), .tm, some ((.tm 2), true)⟩,
    ⟨.pick (.tm 3) (.tm 0) (.c (.bool false)), .tm, none⟩,
    ⟨.mov (.tm 0), .tm, none⟩,
    ⟨.mov (.fr 12), .tm, some ((.tm 0), true)⟩,
    ⟨.pick (.tm 1) (.tm 0) (.c (.bool false)), .tm, none⟩,
    ⟨.mov (.tm 0), .tm, none⟩,
    ⟨.mov (.fr 1), .tm, some ((.tm 0), true)⟩,
    ⟨.callf 16 [(.tm 0)], .tm, some ((.tm 1), true)⟩,
    ⟨.bin .eql (.tm 0) (.c (.int .i64 2)), .tm, some ((.tm 2), true)⟩,
    ⟨.pick (.tm 3) (.tm 0) (.c (.bool false)), .tm, none⟩,
    ⟨.mov (.tm 0), .tm, none⟩,
    ⟨.mov (.fr 1), .tm, some ((.tm 0), true)⟩,
    ⟨.callf 17 [(.tm 0)], .tm, some ((.tm 1), true)⟩,
    ⟨.bin .eql (.tm 0) (.c (.int .i64 1)), .tm, some ((.tm 2), true)⟩,
    ⟨.pick (.tm 3) (.tm 0) (.c (.bool false)), .tm, none⟩,
    ⟨.mov (.tm 0), .tm, none⟩,
    ⟨.mov (.fr 1), .tm, some ((.tm 0), true)⟩,
    ⟨.callf 20 [(.tm 0)], .tm, some ((.tm 1), true)⟩,
    ⟨.bin .eql (.tm 0) (.c (.int .i64 1)), .tm, some ((.tm 2), true)⟩,
    ⟨.pick (.tm 3) (.tm 0) (.c (.bool false)), .tm, none⟩,
    ⟨.mov (.tm 0), .fr 0, none⟩]) <|
    .ret, [.t 0]⟩
/-- semaphore/relay.New ; args 1 ; slots [0, 2, 3, 9] -/
def f7 : AFunc := ⟨[0, 2, 3, 9],
  .seq (.reg [
    ⟨.mov (.c (.pointer none)), .fr 1, none⟩,
    ⟨.mov (.c (.int .i64 0)), .fr 2, none⟩]) <|
    .seq (.seq (.reg [
    ⟨.mov (.fr 0), .tm, none⟩,
    ⟨.bin .lss (.tm 0) (.c (.int .i64 1)), .tm, none⟩,
    ⟨.mov (.tm 0), .tm, none⟩,
    ⟨.mov (.fr 0), .tm, some ((.tm 0), false)⟩,
    ⟨.bin .gtr (.tm 0) (.c (.int .i64 1000)), .tm, some ((.tm 1), false)⟩,
    ⟨.pick (.tm 2) (.c (.bool true)) (.tm 0), .fr 3, none⟩]) <|
    .cond (.fr 3)
      (.seq (.reg [
      ⟨.mov (.c (.pointer none)), .fr 1, none⟩,
      ⟨.mov (.c (.int .i64 2)), .fr 2, none⟩]) <|
      .ret)
      (.skip)) <|
    .seq (.reg [
    ⟨.build [(.int .i64 0), (.int .i64 0), .nilIface] [(1, 1, (.c (.int .i64 (-1))))], .tm, none⟩,
    ⟨.mov (.fr 0), .tm, none⟩,
    ⟨.build [(.int .i64 0), (.int .i64 0), .nilIface, (.int .i64 0), (.int .i64 0), (.bool false), (.int .u64 0), (.int .u32 0), .nilIface] [(0, 3, (.tm 1)), (3, 1, (.tm 0)), (5, 1, (.c (.bool true)))], .tm, none⟩,
    ⟨.box 60 9 (.tm 0), .tm, none⟩,
    ⟨.mov (.tm 0), .fr 1, none⟩,
    ⟨.mov (.c (.int .i64 0)), .fr 2, none⟩]) <|
    .ret, [.t 1, .t 2]⟩
/-- semaphore/semaphoreref24.New ; args 1 ; slots [0, 2, 8] -/
def f8 : AFunc := ⟨[0, 2, 8],
  .seq (.reg [
    ⟨.mov (.c (.pointer none)), .fr 1, none⟩]) <|
    .seq (.seq (.reg [
    ⟨.mov (.fr 0), .tm, none⟩,
    ⟨.bin .lss (.tm 0) (.c (.int .i64 1)), .tm, none⟩,
    ⟨.mov (.tm 0), .tm, none⟩,
    ⟨.mov (.fr 0), .tm, some ((.tm 0), false)⟩,
    ⟨.bin .gtr (.tm 0) (.c (.int .i64 1000)), .tm, some ((.tm 1), false)⟩,
    ⟨.pick (.tm 2) (.c (.bool true)) (.tm 0), .fr 2, none⟩]) <|
    .cond (.fr 2)
      (.seq (.reg [
      ⟨.mov (.c (.pointer none)), .fr 1, none⟩]) <|
      .ret)
      (.skip)) <|
    .seq (.reg [
    ⟨.mov (.fr 0), .tm, none⟩,
    ⟨.build Z79 [(0, 1, (.tm 0)), (2, 1, (.c (.bool true))), (4, 1, (.c (.int .i64 (-1)))), (5, 1, (.c (.int .i64 (-1))))], .tm, none⟩,
    ⟨.box 62 79 (.tm 0), .tm, none⟩,
    ⟨.mov (.tm 0), .fr 1, none⟩]) <|
    .ret, [.t 1]⟩
/-- semaphore/semaphorelaw24.same ; args 2 ; slots [0, 1, 4, 5, 6, 7, 8, 51] -/
def f9 : AFunc := ⟨[0, 1, 4, 5, 6, 7, 8, 51],
  .seq (.reg [
    ⟨.mov (.c (.bool false)), .fr 2, none⟩]) <|
    .seq (.reg [
    ⟨.mov (.fr 0), .tm, none⟩,
    ⟨.callf 19 [(.tm 0)], .tm, none⟩,
    ⟨.mov (.tm 0), .tm, none⟩,
    ⟨.extract (.tm 0) 0, .tm, none⟩,
    ⟨.extract (.tm 1) 1, .tm, none⟩,
    ⟨.new 35 2 [(.int .u64 0), (.int .u32 0)], .fr 3, none⟩,
    ⟨.storen 2 (.fr 3) (.tm 1), .no, none⟩,
    ⟨.mov (.tm 0), .fr 4, none⟩]) <|
    .seq (.reg [
    ⟨.mov (.fr 0), .tm, none⟩,
    ⟨.callf 18 [(.tm 0)], .tm, none⟩,
    ⟨.mov (.tm 0), .tm, none⟩,
    ⟨.extract (.tm 0) 0, .tm, none⟩,
    ⟨.extract (.tm 1) 1, .tm, none⟩,
    ⟨.new 50 70 Z70, .fr 5, none⟩,
    ⟨.storen 70 (.fr 5) (.tm 1), .no, none⟩,
    ⟨.mov (.tm 0), .fr 6, none⟩]) <|
    .seq (.seq (.dreg [
    (⟨.mov (.fr 6), .tm, none⟩, []),
    (⟨.mov (.fr 1), .tm, none⟩, []),
    (⟨.nilck (.tm 0), .tm, none⟩, []),
    (⟨.faddr 8 (.tm 0), .tm, none⟩, []),
    (⟨.load1 (.tm 0), .tm, none⟩, []),
    (⟨.eqv 0 true (.tm 4) (.tm 0), .tm, none⟩, []),
    (⟨.mov (.tm 0), .tm, none⟩, []),
    (⟨.faddr 2 (.fr 5), .tm, some ((.tm 0), false)⟩, []),
    (⟨.loadn 68 (.tm 0), .tm, some ((.tm 1), false)⟩, []),
    (⟨.mov (.fr 1), .tm, some ((.tm 2), false)⟩, []),
    (⟨.nilck (.tm 0), .tm, some ((.tm 3), false)⟩, []),
    (⟨.faddr 9 (.tm 0), .tm, some ((.tm 4), false)⟩, []),
    (⟨.loadn 68 (.tm 0), .tm, some ((.tm 5), false)⟩, []),
    (⟨.eqs O68 true (.tm 4) (.tm 0), .tm, some ((.tm 6), false)⟩, []),
    (⟨.pick (.tm 7) (.c (.bool true)) (.tm 0), .tm, none⟩, []),
    (⟨.mov (.tm 0), .tm, none⟩, []),
    (⟨.faddr 1 (.fr 5), .tm, some ((.tm 0), false)⟩, []),
    (⟨.load1 (.tm 0), .tm, some ((.tm 1), false)⟩, []),
    (⟨.mov (.fr 1), .tm, some ((.tm 2), false)⟩, []),
    (⟨.nilck (.tm 0), .tm, some ((.tm 3), false)⟩, []),
    (⟨.faddr 77 (.tm 0), .tm, some ((.tm 4), false)⟩, []),
    (⟨.load1 (.tm 0), .tm, some ((.tm 5), false)⟩, []),
    (⟨.bin .neq (.tm 4) (.tm 0), .tm, some ((.tm 6), false)⟩, []),
    (⟨.pick (.tm 7) (.c (.bool true)) (.tm 0), .tm, none⟩, []),
    (⟨.mov (.tm 0), .tm, none⟩, []),
    (⟨.faddr 0 (.fr 5), .tm, some ((.tm 0), false)⟩, []),
    (⟨.load1 (.tm 0), .tm, some ((.tm 1), false)⟩, []),
    (⟨.mov (.fr 1), .tm, some ((.tm 2), false)⟩, []),
    (⟨.nilck (.tm 0), .tm, some ((.tm 3), false)⟩, []),
    (⟨.faddr 78 (.tm 0), .tm, some ((.tm 4), false)⟩, []),
    (⟨.load1 (.tm 0), .tm, some ((.tm 5), false)⟩, []),
    (⟨.bin .neq (.tm 4) (.tm 0), .tm, some ((.tm 6), false)⟩, []),
    (⟨.pick (.tm 7) (.c (.bool true)) (.tm 0), .fr 7, none⟩, [])]) <|
    .cond (.fr 7)
      (.seq (.reg [
      ⟨.mov (.c (.bool false)), .fr 2, none⟩]) <|
      .ret)
      (.skip)) <|
    .seq (.dreg [
    (⟨.loadn 2 (.fr 3), .tm, none⟩, []),
    (⟨.mov (.fr 1), .tm, none⟩, []),
    (⟨.nilck (.tm 0), .tm, none⟩, []),
    (⟨.faddr 6 (.tm 0), .tm, none⟩, []),
    (⟨.loadn 2 (.tm 0), .tm, none⟩, []),
    (⟨.eqs [1, 1] false (.tm 4) (.tm 0), .tm, none⟩, []),
    (⟨.mov (.tm 0), .tm, none⟩, []),
    (⟨.mov (.fr 4), .tm, some ((.tm 0), true)⟩, []),
    (⟨.mov (.fr 1), .tm, some ((.tm 1), true)⟩, []),
    (⟨.nilck (.tm 0), .tm, some ((.tm 2), true)⟩, []),
    (⟨.faddr 2 (.tm 0), .tm, some ((.tm 3), true)⟩, []),
    (⟨.load1 (.tm 0), .tm, some ((.tm 4), true)⟩, []),
    (⟨.eqv 0 false (.tm 4) (.tm 0), .tm, some ((.tm 5), true)⟩, []),
    (⟨.pick (.tm 6) (.tm 0) (.c (.bool false)), .tm, none⟩, []),
    (⟨.mov (.tm 0), .tm, none⟩, []),
    (⟨.mov (.fr 0), .tm, some ((.tm 0), true)⟩, []),
    (⟨.callf 16 [(.tm 0)], .tm, some ((.tm 1), true)⟩, []),
    (⟨.mov (.fr 1), .tm, some ((.tm 2), true)⟩, []),
    (⟨.nilck (.tm 0), .tm, some ((.tm 3), true)⟩, []),
    (⟨.faddr 3 (.tm 0), .tm, some ((.tm 4), true)⟩, []),
    (⟨.load1 (.tm 0), .tm, some ((.tm 5), true)⟩, [16]),
    (⟨.bin .eql (.tm 4) (.tm 0), .tm, some ((.tm 6), true)⟩, []),
    (⟨.pick (.tm 7) (.tm 0) (.c (.bool false)), .tm, none⟩, []),
    (⟨.mov (.tm 0), .tm, none⟩, []),
    (⟨.mov (.fr 0), .tm, some ((.tm 0), true)⟩, []),
    (⟨.callf 17 [(.tm 0)], .tm, some ((.tm 1), true)⟩, []),
    (⟨.mov (.fr 1), .tm, some ((.tm 2), true)⟩, []),
    (⟨.nilck (.tm 0), .tm, some ((.tm 3), true)⟩, []),
    (⟨.faddr 4 (.tm 0), .tm, some ((.tm 4), true)⟩, []),
    (⟨.load1 (.tm 0), .tm, some ((.tm 5), true)⟩, [25]),
    (⟨.bin .eql (.tm 4) (.tm 0), .tm, some ((.tm 6), true)⟩, []),
    (⟨.pick (.tm 7) (.tm 0) (.c (.bool false)), .tm, none⟩, []),
    (⟨.mov (.tm 0), .tm, none⟩, []),
    (⟨.mov (.fr 0), .tm, some ((.tm 0), true)⟩, []),
    (⟨.callf 20 [(.tm 0)], .tm, some ((.tm 1), true)⟩, []),
    (⟨.mov (.fr 1), .tm, some ((.tm 2), true)⟩, []),
    (⟨.nilck (.tm 0), .tm, some ((.tm 3), true)⟩, []),
    (⟨.faddr 5 (.tm 0), .tm, some ((.tm 4), true)⟩, []),
    (⟨.load1 (.tm 0), .tm, some ((.tm 5), true)⟩, [34]),
    (⟨.bin .eql (.tm 4) (.tm 0), .tm, some ((.tm 6), true)⟩, []),
    (⟨.pick (.tm 7) (.tm 0) (.c (.bool false)), .tm, none⟩, []),
    (⟨.mov (.tm 0), .fr 2, none⟩, [])]) <|
    .ret, [.t 2]⟩
/-- semaphore/semaphorelaw24.does ; args 3 ; slots [0, 1, 2, 5, 6, 9, 10, 27, 44, 51] -/
def f10 : AFunc := ⟨[0, 1, 2, 5, 6, 9, 10, 27, 44, 51],
  .seq (.reg [
    ⟨.box 42 75 (.fr 2), .fr 3, none⟩,
    ⟨.mov (.c (.bool false)), .fr 4, none⟩]) <|
    .seq (.seq (.reg [
    ⟨.faddr 0 (.fr 3), .tm, none⟩,
    ⟨.load1 (.tm 0), .tm, none⟩,
    ⟨.bin .rem (.tm 0) (.c (.int .u8 8)), .fr 5, none⟩]) <|
    .block 0 (.seq (.reg [
      ⟨.bin .eql (.fr 5) (.c (.int .u8 3)), .tm, none⟩,
      ⟨.mov (.tm 0), .fr 6, none⟩]) <|
      .cond (.fr 6)
        (.seq (.dreg [
        (⟨.mov (.fr 0), .tm, none⟩, []),
        (⟨.faddr 1 (.fr 3), .tm, none⟩, []),
        (⟨.load1 (.tm 0), .tm, none⟩, []),
        (⟨.faddr 2 (.fr 3), .tm, none⟩, []),
        (⟨.faddr 2 (.tm 0), .tm, none⟩, []),
        (⟨.load1 (.tm 0), .tm, none⟩, []),
        (⟨.callf 11 [(.tm 5), (.tm 3), (.tm 0)], .tm, none⟩, []),
        (⟨.mov (.fr 1), .tm, none⟩, []),
        (⟨.faddr 1 (.fr 3), .tm, none⟩, []),
        (⟨.load1 (.tm 0), .tm, none⟩, [6]),
        (⟨.faddr 2 (.fr 3), .tm, none⟩, []),
        (⟨.faddr 2 (.tm 0), .tm, none⟩, []),
        (⟨.load1 (.tm 0), .tm, none⟩, [6]),
        (⟨.callf 21 [(.tm 5), (.tm 3), (.tm 0)], .tm, none⟩, []),
        (⟨.bin .eql (.tm 7) (.tm 0), .tm, none⟩, []),
        (⟨.mov (.tm 0), .fr 4, none⟩, [])]) <|
        .ret)
        (.seq (.reg [
        ⟨.bin .eql (.fr 5) (.c (.int .u8 4)), .tm, none⟩,
        ⟨.mov (.tm 0), .fr 7, none⟩]) <|
        .cond (.fr 7)
          (.seq (.dreg [
          (⟨.mov (.fr 0), .tm, none⟩, []),
          (⟨.faddr 1 (.fr 3), .tm, none⟩, []),
          (⟨.load1 (.tm 0), .tm, none⟩, []),
          (⟨.faddr 2 (.fr 3), .tm, none⟩, []),
          (⟨.faddr 2 (.tm 0), .tm, none⟩, []),
          (⟨.load1 (.tm 0), .tm, none⟩, []),
          (⟨.callf 12 [(.tm 5), (.tm 3), (.tm 0)], .tm, none⟩, []),
          (⟨.mov (.fr 1), .tm, none⟩, []),
          (⟨.faddr 1 (.fr 3), .tm, none⟩, []),
          (⟨.load1 (.tm 0), .tm, none⟩, [6]),
          (⟨.faddr 2 (.fr 3), .tm, none⟩, []),
          (⟨.faddr 2 (.tm 0), .tm, none⟩, []),
          (⟨.load1 (.tm 0), .tm, none⟩, [6]),
          (⟨.callf 22 [(.tm 5), (.tm 3), (.tm 0)], .tm, none⟩, []),
          (⟨.bin .eql (.tm 7) (.tm 0), .tm, none⟩, []),
          (⟨.mov (.tm 0), .fr 4, none⟩, [])]) <|
          .ret)
          (.seq (.seq (.reg [
          ⟨.bin .eql (.fr 5) (.c (.int .u8 5)), .tm, none⟩,
          ⟨.mov (.tm 0), .fr 8, none⟩]) <|
          .cond (.fr 8)
            (.skip)
            (.reg [
            ⟨.bin .eql (.fr 5) (.c (.int .u8 6)), .tm, none⟩,
            ⟨.mov (.tm 0), .fr 8, none⟩])) <|
          .cond (.fr 8)
            (.seq (.reg [
            ⟨.mov (.fr 0), .tm, none⟩,
            ⟨.callf 13 [(.tm 0)], .tm, none⟩]) <|
            .seq (.reg [
            ⟨.mov (.fr 1), .tm, none⟩,
            ⟨.callf 23 [(.tm 0)], .tm, none⟩]) <|
            .seq (.reg [
            ⟨.mov (.c (.bool true)), .fr 4, none⟩]) <|
            .ret)
            (.seq (.reg [
            ⟨.bin .eql (.fr 5) (.c (.int .u8 7)), .tm, none⟩,
            ⟨.mov (.tm 0), .fr 9, none⟩]) <|
            .cond (.fr 9)
              (.seq (.reg [
              ⟨.mov (.fr 0), .tm, none⟩,
              ⟨.callf 14 [(.tm 0)], .tm, none⟩,
              ⟨.mov (.fr 1), .tm, none⟩,
              ⟨.callf 24 [(.tm 0)], .tm, none⟩,
              ⟨.bin .eql (.tm 2) (.tm 0), .tm, none⟩,
              ⟨.mov (.tm 0), .fr 4, none⟩]) <|
              .ret)
              (.skip)))))) <|
    .seq (.dreg [
    (⟨.mov (.fr 0), .tm, none⟩, []),
    (⟨.faddr 1 (.fr 3), .tm, none⟩, []),
    (⟨.load1 (.tm 0), .tm, none⟩, []),
    (⟨.faddr 2 (.fr 3), .tm, none⟩, []),
    (⟨.loadn 5 (.tm 0), .tm, none⟩, []),
    (⟨.faddr 7 (.fr 3), .tm, none⟩, []),
    (⟨.loadn 68 (.tm 0), .tm, none⟩, []),
    (⟨.callf 15 [(.tm 6), (.tm 4), (.tm 2), (.tm 0)], .tm, none⟩, []),
    (⟨.mov (.fr 1), .tm, none⟩, []),
    (⟨.faddr 1 (.fr 3), .tm, none⟩, []),
    (⟨.load1 (.tm 0), .tm, none⟩, [7]),
    (⟨.faddr 2 (.fr 3), .tm, none⟩, []),
    (⟨.faddr 2 (.tm 0), .tm, none⟩, []),
    (⟨.load1 (.tm 0), .tm, none⟩, [7]),
    (⟨.faddr 2 (.fr 3), .tm, none⟩, []),
    (⟨.faddr 1 (.tm 0), .tm, none⟩, []),
    (⟨.load1 (.tm 0), .tm, none⟩, [7]),
    (⟨.faddr 2 (.fr 3), .tm, none⟩, []),
    (⟨.faddr 3 (.tm 0), .tm, none⟩, []),
    (⟨.loadn 2 (.tm 0), .tm, none⟩, [7]),
    (⟨.faddr 7 (.fr 3), .tm, none⟩, []),
    (⟨.loadn 68 (.tm 0), .tm, none⟩, [7]),
    (⟨.callf 25 [(.tm 13), (.tm 11), (.tm 8), (.tm 5), (.tm 2), (.tm 0)], .tm, none⟩, []),
    (⟨.bin .eql (.tm 15) (.tm 0), .tm, none⟩, []),
    (⟨.mov (.tm 0), .fr 4, none⟩, [])]) <|
    .ret, [.t 4]⟩
/-- (*semaphore/relay.Relay).Fence ; args 3 ; slots [0, 1, 2, 6, 7, 8, 10] -/
def f11 : AFunc := ⟨[0, 1, 2, 6, 7, 8, 10],
  .seq (.reg [
    ⟨.mov (.c (.int .i64 0)), .fr 3, none⟩]) <|
    .seq (.seq (.reg [
    ⟨.mov (.fr 0), .tm, none⟩,
    ⟨.eqv 1 false (.tm 0) (.c (.pointer none)), .fr 6, none⟩]) <|
    .cond (.fr 6)
      (.seq (.reg [
      ⟨.mov (.c (.int .i64 1)), .fr 3, none⟩]) <|
      .ret)
      (.skip)) <|
    .seq (.reg [
    ⟨.mov (.fr 0), .tm, none⟩,
    ⟨.nilck (.tm 0), .tm, none⟩,
    ⟨.faddr 0 (.tm 0), .tm, none⟩,
    ⟨.loadn 3 (.tm 0), .tm, none⟩,
    ⟨.mov (.fr 1), .tm, none⟩,
    ⟨.mov (.fr 2), .tm, none⟩,
    ⟨.callf 26 [(.tm 2), (.tm 1), (.tm 0)], .tm, none⟩,
    ⟨.mov (.tm 0), .tm, none⟩,
    ⟨.extract (.tm 0) 0, .tm, none⟩,
    ⟨.extract (.tm 1) 1, .tm, none⟩,
    ⟨.new 58 3 [(.int .i64 0), (.int .i64 0), .nilIface], .fr 4, none⟩,
    ⟨.storen 3 (.fr 4) (.tm 1), .no, none⟩,
    ⟨.mov (.tm 0), .fr 5, none⟩]) <|
    .seq (.reg [
    ⟨.mov (.fr 0), .tm, none⟩,
    ⟨.loadn 3 (.fr 4), .tm, none⟩,
    ⟨.nilck (.tm 1), .tm, none⟩,
    ⟨.faddr 0 (.tm 0), .tm, none⟩,
    ⟨.storen 3 (.tm 0) (.tm 2), .no, none⟩]) <|
    .seq (.reg [
    ⟨.mov (.fr 5), .tm, none⟩,
    ⟨.mov (.tm 0), .fr 3, none⟩]) <|
    .ret, [.t 3]⟩
/-- (*semaphore/relay.Relay).Stop ; args 3 ; slots [0, 1, 2, 6, 7, 13] -/
def f12 : AFunc := ⟨[0, 1, 2, 6, 7, 13],
  .seq (.reg [
    ⟨.mov (.c (.int .i64 0)), .fr 3, none⟩]) <|
    .seq (.reg [
    ⟨.mov (.fr 0), .tm, none⟩,
    ⟨.mov (.fr 1), .tm, none⟩,
    ⟨.mov (.fr 2), .tm, none⟩,
    ⟨.callf 11 [(.tm 2), (.tm 1), (.tm 0)], .tm, none⟩,
    ⟨.mov (.tm 0), .fr 4, none⟩]) <|
    .seq (.seq (.reg [
    ⟨.mov (.fr 4), .tm, none⟩,
    ⟨.bin .eql (.tm 0) (.c (.int .i64 0)), .fr 5, none⟩]) <|
    .cond (.fr 5)
      (.reg [
      ⟨.mov (.fr 0), .tm, none⟩,
      ⟨.callf 27 [(.tm 0)], .tm, none⟩])
      (.skip)) <|
    .seq (.reg [
    ⟨.mov (.fr 4), .tm, none⟩,
    ⟨.mov (.tm 0), .fr 3, none⟩]) <|
    .ret, [.t 3]⟩
/-- (*semaphore/relay.Relay).Tick ; args 1 ; slots [0, 3, 12] -/
def f13 : AFunc := ⟨[0, 3, 12],
  .seq (.seq (.reg [
    ⟨.mov (.fr 0), .tm, none⟩,
    ⟨.eqv 1 false (.tm 0) (.c (.pointer none)), .fr 1, none⟩]) <|
    .cond (.fr 1)
      (.ret)
      (.skip)) <|
    .seq (.seq (.dreg [
    (⟨.mov (.fr 0), .tm, none⟩, []),
    (⟨.nilck (.tm 0), .tm, none⟩, []),
    (⟨.faddr 4 (.tm 0), .tm, none⟩, []),
    (⟨.load1 (.tm 0), .tm, none⟩, []),
    (⟨.mov (.fr 0), .tm, none⟩, []),
    (⟨.nilck (.tm 0), .tm, none⟩, []),
    (⟨.faddr 3 (.tm 0), .tm, none⟩, []),
    (⟨.load1 (.tm 0), .tm, none⟩, []),
    (⟨.bin .lss (.tm 4) (.tm 0), .fr 2, none⟩, [])]) <|
    .cond (.fr 2)
      (.seq (.reg [
      ⟨.mov (.fr 0), .tm, none⟩,
      ⟨.nilck (.tm 0), .tm, none⟩,
      ⟨.faddr 4 (.tm 0), .tm, none⟩,
      ⟨.load1 (.tm 0), .tm, none⟩,
      ⟨.bin .add (.tm 0) (.c (.int .i64 1)), .tm, none⟩,
      ⟨.nilck (.tm 4), .tm, none⟩,
      ⟨.faddr 4 (.tm 0), .tm, none⟩,
      ⟨.store1 (.tm 0) (.tm 2), .no, none⟩]) <|
      .ret)
      (.skip)) <|
    .reg [
    ⟨.mov (.fr 0), .tm, none⟩,
    ⟨.callf 27 [(.tm 0)], .tm, none⟩], []⟩
/-- (*semaphore/relay.Relay).Reset ; args 1 ; slots [0, 2, 3, 6] -/
def f14 : AFunc := ⟨[0, 2, 3, 6],
  .seq (.reg [
    ⟨.mov (.c (.int .i64 0)), .fr 1, none⟩]) <|
    .seq (.block 0 (.seq (.reg [
      ⟨.mov (.fr 0), .tm, none⟩,
      ⟨.eqv 1 false (.tm 0) (.c (.pointer none)), .tm, none⟩,
      ⟨.mov (.tm 0), .fr 2, none⟩]) <|
      .cond (.fr 2)
        (.seq (.reg [
        ⟨.mov (.c (.int .i64 1)), .fr 1, none⟩]) <|
        .ret)
        (.seq (.reg [
        ⟨.mov (.fr 0), .tm, none⟩,
        ⟨.nilck (.tm 0), .tm, none⟩,
        ⟨.faddr 5 (.tm 0), .tm, none⟩,
        ⟨.load1 (.tm 0), .tm, none⟩,
        ⟨.un .not (.tm 0), .tm, none⟩,
        ⟨.mov (.tm 0), .fr 3, none⟩]) <|
        .cond (.fr 3)
          (.seq (.reg [
          ⟨.mov (.c (.int .i64 4)), .fr 1, none⟩]) <|
          .ret)
          (.skip)))) <|
    .seq (.reg [
    ⟨.mov (.fr 0), .tm, none⟩,
    ⟨.mov (.fr 0), .tm, none⟩,
    ⟨.nilck (.tm 1), .tm, none⟩,
    ⟨.faddr 5 (.tm 0), .tm, none⟩,
    ⟨.store1 (.tm 0) (.c (.bool false)), .no, none⟩,
    ⟨.nilck (.tm 2), .tm, none⟩,
    ⟨.faddr 4 (.tm 0), .tm, none⟩,
    ⟨.store1 (.tm 0) (.c (.int .i64 0)), .no, none⟩]) <|
    .seq (.reg [
    ⟨.mov (.c (.int .i64 0)), .fr 1, none⟩]) <|
    .ret, [.t 1]⟩
/-- (*semaphore/relay.Relay).Admit ; args 4 ; slots [0, 1, 2, 3, 6, 7, 8, 9, 10, 11, 12, 14, 26, 30, 58, 63] -/
def f15 : AFunc := ⟨[0, 1, 2, 3, 6, 7, 8, 9, 10, 11, 12, 14, 26, 30, 58, 63],
  .seq (.reg [
    ⟨.box 37 5 (.fr 2), .fr 4, none⟩,
    ⟨.box 40 68 (.fr 3), .fr 5, none⟩,
    ⟨.mov (.c (.int .i64 0)), .fr 6, none⟩]) <|
    .seq (.seq (.reg [
    ⟨.mov (.fr 0), .tm, none⟩,
    ⟨.eqv 1 false (.tm 0) (.c (.pointer none)), .fr 11, none⟩]) <|
    .cond (.fr 11)
      (.seq (.reg [
      ⟨.mov (.c (.int .i64 1)), .fr 6, none⟩]) <|
      .ret)
      (.skip)) <|
    .seq (.dreg [
    (⟨.mov (.fr 0), .tm, none⟩, []),
    (⟨.nilck (.tm 0), .tm, none⟩, []),
    (⟨.faddr 0 (.tm 0), .tm, none⟩, []),
    (⟨.loadn 3 (.tm 0), .tm, none⟩, []),
    (⟨.mov (.fr 1), .tm, none⟩, []),
    (⟨.faddr 2 (.fr 4), .tm, none⟩, []),
    (⟨.load1 (.tm 0), .tm, none⟩, []),
    (⟨.callf 26 [(.tm 3), (.tm 2), (.tm 0)], .tm, none⟩, []),
    (⟨.mov (.tm 0), .tm, none⟩, []),
    (⟨.extract (.tm 0) 0, .tm, none⟩, []),
    (⟨.extract (.tm 1) 1, .tm, none⟩, []),
    (⟨.new 58 3 [(.int .i64 0), (.int .i64 0), .nilIface], .fr 7, none⟩, []),
    (⟨.storen 3 (.fr 7) (.tm 1), .no, none⟩, []),
    (⟨.mov (.tm 0), .fr 8, none⟩, [])]) <|
    .seq (.block 0 (.seq (.reg [
      ⟨.mov (.fr 8), .tm, none⟩,
      ⟨.bin .neq (.tm 0) (.c (.int .i64 0)), .tm, none⟩,
      ⟨.mov (.tm 0), .fr 12, none⟩]) <|
      .cond (.fr 12)
        (.seq (.reg [
        ⟨.mov (.fr 8), .tm, none⟩,
        ⟨.mov (.tm 0), .fr 6, none⟩]) <|
        .ret)
        (.seq (.reg [
        ⟨.faddr 1 (.fr 4), .tm, none⟩,
        ⟨.load1 (.tm 0), .tm, none⟩,
        ⟨.bin .lss (.tm 0) (.c (.int .i64 0)), .tm, none⟩,
        ⟨.mov (.tm 0), .tm, none⟩,
        ⟨.faddr 1 (.fr 4), .tm, some ((.tm 0), false)⟩,
        ⟨.load1 (.tm 0), .tm, some ((.tm 1), false)⟩,
        ⟨.bin .gtr (.tm 0) (.c (.int .i64 1099511627776)), .tm, some ((.tm 2), false)⟩,
        ⟨.pick (.tm 3) (.c (.bool true)) (.tm 0), .tm, none⟩,
        ⟨.mov (.tm 0), .tm, none⟩,
        ⟨.faddr 3 (.fr 4), .tm, some ((.tm 0), false)⟩,
        ⟨.faddr 0 (.tm 0), .tm, some ((.tm 1), false)⟩,
        ⟨.load1 (.tm 0), .tm, some ((.tm 2), false)⟩,
        ⟨.faddr 0 (.fr 5), .tm, some ((.tm 3), false)⟩,
        ⟨.load1 (.tm 0), .tm, some ((.tm 4), false)⟩,
        ⟨.bin .andNot (.tm 2) (.tm 0), .tm, some ((.tm 5), false)⟩,
        ⟨.bin .neq (.tm 0) (.c (.int .u64 0)), .tm, some ((.tm 6), false)⟩,
        ⟨.pick (.tm 7) (.c (.bool true)) (.tm 0), .tm, none⟩,
        ⟨.mov (.tm 0), .fr 13, none⟩]) <|
        .cond (.fr 13)
          (.seq (.reg [
          ⟨.mov (.c (.int .i64 2)), .fr 6, none⟩]) <|
          .ret)
          (.skip)))) <|
    .seq (.reg [
    ⟨.mov (.fr 0), .tm, none⟩,
    ⟨.loadn 3 (.fr 7), .tm, none⟩,
    ⟨.nilck (.tm 1), .tm, none⟩,
    ⟨.faddr 0 (.tm 0), .tm, none⟩,
    ⟨.storen 3 (.tm 0) (.tm 2), .no, none⟩]) <|
    .seq (.reg [
    ⟨.faddr 2 (.fr 7), .tm, none⟩,
    ⟨.load1 (.tm 0), .tm, none⟩,
    ⟨.assert 2 (.int .i64 0) true (.tm 0), .tm, none⟩,
    ⟨.mov (.tm 0), .tm, none⟩,
    ⟨.extract (.tm 0) 0, .tm, none⟩,
    ⟨.extract (.tm 1) 1, .tm, none⟩,
    ⟨.mov (.tm 1), .fr 9, none⟩,
    ⟨.mov (.tm 0), .fr 10, none⟩]) <|
    .seq (.block 1 (.seq (.reg [
      ⟨.mov (.fr 0), .tm, none⟩,
      ⟨.nilck (.tm 0), .tm, none⟩,
      ⟨.faddr 5 (.tm 0), .tm, none⟩,
      ⟨.load1 (.tm 0), .tm, none⟩,
      ⟨.mov (.tm 0), .fr 14, none⟩]) <|
      .cond (.fr 14)
        (.seq (.reg [
        ⟨.mov (.c (.int .i64 220)), .fr 6, none⟩]) <|
        .ret)
        (.seq (.reg [
        ⟨.mov (.fr 10), .tm, none⟩,
        ⟨.mov (.tm 0), .tm, none⟩,
        ⟨.faddr 1 (.fr 4), .tm, some ((.tm 0), true)⟩,
        ⟨.load1 (.tm 0), .tm, some ((.tm 1), true)⟩,
        ⟨.mov (.fr 9), .tm, some ((.tm 2), true)⟩,
        ⟨.bin .leq (.tm 1) (.tm 0), .tm, some ((.tm 3), true)⟩,
        ⟨.pick (.tm 4) (.tm 0) (.c (.bool false)), .tm, none⟩,
        ⟨.mov (.tm 0), .fr 15, none⟩]) <|
        .cond (.fr 15)
          (.seq (.reg [
          ⟨.mov (.c (.int .i64 4)), .fr 6, none⟩]) <|
          .ret)
          (.skip)))) <|
    .seq (.dreg [
    (⟨.mov (.fr 0), .tm, none⟩, []),
    (⟨.mov (.fr 0), .tm, none⟩, []),
    (⟨.mov (.fr 0), .tm, none⟩, []),
    (⟨.faddr 3 (.fr 4), .tm, none⟩, []),
    (⟨.loadn 2 (.tm 0), .tm, none⟩, []),
    (⟨.faddr 1 (.fr 4), .tm, none⟩, []),
    (⟨.load1 (.tm 0), .tm, none⟩, []),
    (⟨.iface 2 (.tm 0), .tm, none⟩, []),
    (⟨.nilck (.tm 7), .tm, none⟩, []),
    (⟨.faddr 6 (.tm 0), .tm, none⟩, []),
    (⟨.storen 2 (.tm 0) (.tm 5), .no, none⟩, [6]),
    (⟨.nilck (.tm 8), .tm, none⟩, []),
    (⟨.faddr 0 (.tm 0), .tm, none⟩, []),
    (⟨.faddr 2 (.tm 0), .tm, none⟩, []),
    (⟨.store1 (.tm 0) (.tm 5), .no, none⟩, []),
    (⟨.nilck (.tm 10), .tm, none⟩, []),
    (⟨.faddr 4 (.tm 0), .tm, none⟩, []),
    (⟨.store1 (.tm 0) (.c (.int .i64 0)), .no, none⟩, [])]) <|
    .seq (.reg [
    ⟨.mov (.fr 0), .tm, none⟩,
    ⟨.faddr 2 (.fr 4), .tm, none⟩,
    ⟨.load1 (.tm 0), .tm, none⟩,
    ⟨.faddr 1 (.fr 4), .tm, none⟩,
    ⟨.load1 (.tm 0), .tm, none⟩,
    ⟨.loadn 68 (.fr 5), .tm, none⟩,
    ⟨.build Z70 [(0, 1, (.tm 3)), (1, 1, (.tm 1)), (2, 68, (.tm 0))], .tm, none⟩,
    ⟨.iface 50 (.tm 0), .tm, none⟩,
    ⟨.nilck (.tm 7), .tm, none⟩,
    ⟨.faddr 8 (.tm 0), .tm, none⟩,
    ⟨.store1 (.tm 0) (.tm 2), .no, none⟩]) <|
    .seq (.reg [
    ⟨.mov (.c (.int .i64 0)), .fr 6, none⟩]) <|
    .ret, [.t 6]⟩
/-- (*semaphore/relay.Relay).Epoch ; args 1 ; slots [0, 2, 4] -/
def f16 : AFunc := ⟨[0, 2, 4],
  .seq (.reg [
    ⟨.mov (.c (.int .i64 0)), .fr 1, none⟩]) <|
    .seq (.seq (.reg [
    ⟨.mov (.fr 0), .tm, none⟩,
    ⟨.eqv 1 false (.tm 0) (.c (.pointer none)), .fr 2, none⟩]) <|
    .cond (.fr 2)
      (.seq (.reg [
      ⟨.mov (.c (.int .i64 0)), .fr 1, none⟩]) <|
      .ret)
      (.skip)) <|
    .seq (.reg [
    ⟨.mov (.fr 0), .tm, none⟩,
    ⟨.nilck (.tm 0), .tm, none⟩,
    ⟨.faddr 0 (.tm 0), .tm, none⟩,
    ⟨.faddr 0 (.tm 0), .tm, none⟩,
    ⟨.load1 (.tm 0), .tm, none⟩,
    ⟨.mov (.tm 0), .fr 1, none⟩]) <|
    .ret, [.t 1]⟩
/-- (*semaphore/relay.Relay).Pair ; args 1 ; slots [0, 2, 4] -/
def f17 : AFunc := ⟨[0, 2, 4],
  .seq (.reg [
    ⟨.mov (.c (.int .i64 0)), .fr 1, none⟩]) <|
    .seq (.seq (.reg [
    ⟨.mov (.fr 0), .tm, none⟩,
    ⟨.eqv 1 false (.tm 0) (.c (.pointer none)), .fr 2, none⟩]) <|
    .cond (.fr 2)
      (.seq (.reg [
      ⟨.mov (.c (.int .i64 (-1))), .fr 1, none⟩]) <|
      .ret)
      (.skip)) <|
    .seq (.reg [
    ⟨.mov (.fr 0), .tm, none⟩,
    ⟨.nilck (.tm 0), .tm, none⟩,
    ⟨.faddr 0 (.tm 0), .tm, none⟩,
    ⟨.faddr 1 (.tm 0), .tm, none⟩,
    ⟨.load1 (.tm 0), .tm, none⟩,
    ⟨.mov (.tm 0), .fr 1, none⟩]) <|
    .ret, [.t 1]⟩
/-- (*semaphore/relay.Relay).Witness ; args 1 ; slots [0, 2, 3, 4, 5, 7] -/
def f18 : AFunc := ⟨[0, 2, 3, 4, 5, 7],
  .seq (.reg [
    ⟨.new 50 70 Z70, .fr 1, none⟩,
    ⟨.mov (.c (.bool false)), .fr 2, none⟩]) <|
    .seq (.seq (.reg [
    ⟨.mov (.fr 0), .tm, none⟩,
    ⟨.eqv 1 false (.tm 0) (.c (.pointer none)), .fr 5, none⟩]) <|
    .cond (.fr 5)
      (.seq (.reg [
      ⟨.build Z70 [], .tm, none⟩,
      ⟨.storen 70 (.fr 1) (.tm 0), .no, none⟩,
      ⟨.mov (.c (.bool false)), .fr 2, none⟩]) <|
      .ret)
      (.skip)) <|
    .seq (.reg [
    ⟨.mov (.fr 0), .tm, none⟩,
    ⟨.nilck (.tm 0), .tm, none⟩,
    ⟨.faddr 8 (.tm 0), .tm, none⟩,
    ⟨.load1 (.tm 0), .tm, none⟩,
    ⟨.assert 50 (.agg Z70.toArray) true (.tm 0), .tm, none⟩,
    ⟨.mov (.tm 0), .tm, none⟩,
    ⟨.extract (.tm 0) 0, .tm, none⟩,
    ⟨.extract (.tm 1) 1, .tm, none⟩,
    ⟨.new 50 70 Z70, .fr 3, none⟩,
    ⟨.storen 70 (.fr 3) (.tm 1), .no, none⟩,
    ⟨.mov (.tm 0), .fr 4, none⟩]) <|
    .seq (.reg [
    ⟨.loadn 70 (.fr 3), .tm, none⟩,
    ⟨.mov (.fr 4), .tm, none⟩,
    ⟨.storen 70 (.fr 1) (.tm 1), .no, none⟩,
    ⟨.mov (.tm 0), .fr 2, none⟩]) <|
    .ret, [.cn 70 1, .t 2]⟩
/-- (*semaphore/relay.Relay).Shown ; args 1 ; slots [0, 2, 3, 5] -/
def f19 : AFunc := ⟨[0, 2, 3, 5],
  .seq (.reg [
    ⟨.new 35 2 [(.int .u64 0), (.int .u32 0)], .fr 1, none⟩,
    ⟨.mov (.c (.bool false)), .fr 2, none⟩]) <|
    .seq (.seq (.reg [
    ⟨.mov (.fr 0), .tm, none⟩,
    ⟨.eqv 1 false (.tm 0) (.c (.pointer none)), .fr 3, none⟩]) <|
    .cond (.fr 3)
      (.seq (.reg [
      ⟨.build [(.int .u64 0), (.int .u32 0)] [], .tm, none⟩,
      ⟨.storen 2 (.fr 1) (.tm 0), .no, none⟩,
      ⟨.mov (.c (.bool true)), .fr 2, none⟩]) <|
      .ret)
      (.skip)) <|
    .seq (.dreg [
    (⟨.mov (.fr 0), .tm, none⟩, []),
    (⟨.nilck (.tm 0), .tm, none⟩, []),
    (⟨.faddr 6 (.tm 0), .tm, none⟩, []),
    (⟨.loadn 2 (.tm 0), .tm, none⟩, []),
    (⟨.mov (.fr 0), .tm, none⟩, []),
    (⟨.nilck (.tm 0), .tm, none⟩, []),
    (⟨.faddr 5 (.tm 0), .tm, none⟩, []),
    (⟨.load1 (.tm 0), .tm, none⟩, []),
    (⟨.storen 2 (.fr 1) (.tm 4), .no, none⟩, [7]),
    (⟨.mov (.tm 0), .fr 2, none⟩, [])]) <|
    .ret, [.cn 2 1, .t 2]⟩
/-- (*semaphore/relay.Relay).Cycle ; args 1 ; slots [0, 2, 12] -/
def f20 : AFunc := ⟨[0, 2, 12],
  .seq (.reg [
    ⟨.mov (.c (.int .i64 0)), .fr 1, none⟩]) <|
    .seq (.seq (.reg [
    ⟨.mov (.fr 0), .tm, none⟩,
    ⟨.eqv 1 false (.tm 0) (.c (.pointer none)), .tm, none⟩,
    ⟨.mov (.tm 0), .tm, none⟩,
    ⟨.mov (.fr 0), .tm, some ((.tm 0), false)⟩,
    ⟨.nilck (.tm 0), .tm, some ((.tm 1), false)⟩,
    ⟨.faddr 0 (.tm 0), .tm, some ((.tm 2), false)⟩,
    ⟨.faddr 2 (.tm 0), .tm, some ((.tm 3), false)⟩,
    ⟨.load1 (.tm 0), .tm, some ((.tm 4), false)⟩,
    ⟨.eqv 6 false (.tm 0) (.c .nilIface), .tm, some ((.tm 5), false)⟩,
    ⟨.pick (.tm 6) (.c (.bool true)) (.tm 0), .fr 2, none⟩]) <|
    .cond (.fr 2)
      (.seq (.reg [
      ⟨.mov (.c (.int .i64 (-1))), .fr 1, none⟩]) <|
      .ret)
      (.skip)) <|
    .seq (.reg [
    ⟨.mov (.fr 0), .tm, none⟩,
    ⟨.nilck (.tm 0), .tm, none⟩,
    ⟨.faddr 0 (.tm 0), .tm, none⟩,
    ⟨.faddr 2 (.tm 0), .tm, none⟩,
    ⟨.load1 (.tm 0), .tm, none⟩,
    ⟨.assert 2 (.int .i64 0) false (.tm 0), .tm, none⟩,
    ⟨.mov (.tm 0), .fr 1, none⟩]) <|
    .ret, [.t 1]⟩
/-- (*semaphore/semaphoreref24.Relay).Fence ; args 3 ; slots [0, 1, 2, 6, 7, 22, 45] -/
def f21 : AFunc := ⟨[0, 1, 2, 6, 7, 22, 45],
  .seq (.reg [
    ⟨.mov (.c (.int .i64 0)), .fr 3, none⟩]) <|
    .seq (.block 0 (.seq (.reg [
      ⟨.mov (.fr 1), .tm, none⟩,
      ⟨.bin .neq (.tm 0) (.c (.int .i64 0)), .tm, none⟩,
      ⟨.mov (.tm 0), .tm, none⟩,
      ⟨.mov (.fr 1), .tm, some ((.tm 0), true)⟩,
      ⟨.bin .neq (.tm 0) (.c (.int .i64 1)), .tm, some ((.tm 1), true)⟩,
      ⟨.pick (.tm 2) (.tm 0) (.c (.bool false)), .tm, none⟩,
      ⟨.mov (.tm 0), .tm, none⟩,
      ⟨.mov (.fr 2), .tm, some ((.tm 0), false)⟩,
      ⟨.bin .lss (.tm 0) (.c (.int .i64 1)), .tm, some ((.tm 1), false)⟩,
      ⟨.pick (.tm 2) (.c (.bool true)) (.tm 0), .tm, none⟩,
      ⟨.mov (.tm 0), .tm, none⟩,
      ⟨.mov (.fr 2), .tm, some ((.tm 0), false)⟩,
      ⟨.bin .gtr (.tm 0) (.c (.int .i64 1099511627776)), .tm, some ((.tm 1), false)⟩,
      ⟨.pick (.tm 2) (.c (.bool true)) (.tm 0), .tm, none⟩,
      ⟨.mov (.tm 0), .fr 4, none⟩]) <|
      .cond (.fr 4)
        (.seq (.reg [
        ⟨.mov (.c (.int .i64 2)), .fr 3, none⟩]) <|
        .ret)
        (.seq (.reg [
        ⟨.mov (.fr 2), .tm, none⟩,
        ⟨.mov (.fr 0), .tm, none⟩,
        ⟨.nilck (.tm 0), .tm, none⟩,
        ⟨.faddr 3 (.tm 0), .tm, none⟩,
        ⟨.load1 (.tm 0), .tm, none⟩,
        ⟨.bin .lss (.tm 4) (.tm 0), .tm, none⟩,
        ⟨.mov (.tm 0), .tm, none⟩,
        ⟨.mov (.fr 2), .tm, some ((.tm 0), false)⟩,
        ⟨.mov (.fr 0), .tm, some ((.tm 1), false)⟩,
        ⟨.nilck (.tm 0), .tm, some ((.tm 2), false)⟩,
        ⟨.faddr 3 (.tm 0), .tm, some ((.tm 3), false)⟩,
        ⟨.load1 (.tm 0), .tm, some ((.tm 4), false)⟩,
        ⟨.bin .eql (.tm 4) (.tm 0), .tm, some ((.tm 5), false)⟩,
        ⟨.mov (.tm 0), .tm, some ((.tm 6), false)⟩,
        ⟨.mov (.fr 1), .tm, some ((.tm 0), true)⟩,
        ⟨.mov (.fr 0), .tm, some ((.tm 1), true)⟩,
        ⟨.nilck (.tm 0), .tm, some ((.tm 2), true)⟩,
        ⟨.faddr 4 (.tm 0), .tm, some ((.tm 3), true)⟩,
        ⟨.load1 (.tm 0), .tm, some ((.tm 4), true)⟩,
        ⟨.bin .neq (.tm 4) (.tm 0), .tm, some ((.tm 5), true)⟩,
        ⟨.pick (.tm 6) (.tm 0) (.c (.bool false)), .tm, some ((.tm 13), false)⟩,
        ⟨.pick (.tm 14) (.c (.bool true)) (.tm 0), .tm, none⟩,
        ⟨.mov (.tm 0), .fr 5, none⟩]) <|
        .cond (.fr 5)
          (.seq (.reg [
          ⟨.mov (.c (.int .i64 230)), .fr 3, none⟩]) <|
          .ret)
          (.seq (.reg [
          ⟨.mov (.fr 2), .tm, none⟩,
          ⟨.mov (.fr 0), .tm, none⟩,
          ⟨.nilck (.tm 0), .tm, none⟩,
          ⟨.faddr 3 (.tm 0), .tm, none⟩,
          ⟨.load1 (.tm 0), .tm, none⟩,
          ⟨.bin .gtr (.tm 4) (.tm 0), .tm, none⟩,
          ⟨.mov (.tm 0), .fr 6, none⟩]) <|
          .cond (.fr 6)
            (.seq (.reg [
            ⟨.mov (.fr 0), .tm, none⟩,
            ⟨.mov (.fr 2), .tm, none⟩,
            ⟨.nilck (.tm 1), .tm, none⟩,
            ⟨.faddr 3 (.tm 0), .tm, none⟩,
            ⟨.store1 (.tm 0) (.tm 2), .no, none⟩]) <|
            .seq (.reg [
            ⟨.mov (.fr 0), .tm, none⟩,
            ⟨.mov (.fr 1), .tm, none⟩,
            ⟨.nilck (.tm 1), .tm, none⟩,
            ⟨.faddr 4 (.tm 0), .tm, none⟩,
            ⟨.store1 (.tm 0) (.tm 2), .no, none⟩]) <|
            .reg [
            ⟨.mov (.fr 0), .tm, none⟩,
            ⟨.nilck (.tm 0), .tm, none⟩,
            ⟨.faddr 5 (.tm 0), .tm, none⟩,
            ⟨.store1 (.tm 0) (.c (.int .i64 (-1))), .no, none⟩])
            (.skip))))) <|
    .seq (.reg [
    ⟨.mov (.c (.int .i64 0)), .fr 3, none⟩]) <|
    .ret, [.t 3]⟩
/-- (*semaphore/semaphoreref24.Relay).Stop ; args 3 ; slots [0, 1, 2, 6, 7, 13] -/
def f22 : AFunc := ⟨[0, 1, 2, 6, 7, 13],
  .seq (.reg [
    ⟨.mov (.c (.int .i64 0)), .fr 3, none⟩]) <|
    .seq (.reg [
    ⟨.mov (.fr 0), .tm, none⟩,
    ⟨.mov (.fr 1), .tm, none⟩,
    ⟨.mov (.fr 2), .tm, none⟩,
    ⟨.callf 21 [(.tm 2), (.tm 1), (.tm 0)], .tm, none⟩,
    ⟨.mov (.tm 0), .fr 4, none⟩]) <|
    .seq (.seq (.reg [
    ⟨.mov (.fr 4), .tm, none⟩,
    ⟨.bin .eql (.tm 0) (.c (.int .i64 0)), .fr 5, none⟩]) <|
    .cond (.fr 5)
      (.reg [
      ⟨.mov (.fr 0), .tm, none⟩,
      ⟨.callf 28 [(.tm 0)], .tm, none⟩])
      (.skip)) <|
    .seq (.reg [
    ⟨.mov (.fr 4), .tm, none⟩,
    ⟨.mov (.tm 0), .fr 3, none⟩]) <|
    .ret, [.t 3]⟩
/-- (*semaphore/semaphoreref24.Relay).Tick ; args 1 ; slots [0, 17] -/
def f23 : AFunc := ⟨[0, 17],
  .seq (.reg [
    ⟨.mov (.fr 0), .tm, none⟩,
    ⟨.nilck (.tm 0), .tm, none⟩,
    ⟨.faddr 1 (.tm 0), .tm, none⟩,
    ⟨.load1 (.tm 0), .tm, none⟩,
    ⟨.bin .add (.tm 0) (.c (.int .i64 1)), .tm, none⟩,
    ⟨.nilck (.tm 4), .tm, none⟩,
    ⟨.faddr 1 (.tm 0), .tm, none⟩,
    ⟨.store1 (.tm 0) (.tm 2), .no, none⟩]) <|
    .seq (.dreg [
    (⟨.mov (.fr 0), .tm, none⟩, []),
    (⟨.nilck (.tm 0), .tm, none⟩, []),
    (⟨.faddr 1 (.tm 0), .tm, none⟩, []),
    (⟨.load1 (.tm 0), .tm, none⟩, []),
    (⟨.mov (.fr 0), .tm, none⟩, []),
    (⟨.nilck (.tm 0), .tm, none⟩, []),
    (⟨.faddr 0 (.tm 0), .tm, none⟩, []),
    (⟨.load1 (.tm 0), .tm, none⟩, []),
    (⟨.bin .gtr (.tm 4) (.tm 0), .fr 1, none⟩, [])]) <|
    .cond (.fr 1)
      (.seq (.reg [
      ⟨.mov (.fr 0), .tm, none⟩,
      ⟨.mov (.fr 0), .tm, none⟩,
      ⟨.nilck (.tm 0), .tm, none⟩,
      ⟨.faddr 0 (.tm 0), .tm, none⟩,
      ⟨.load1 (.tm 0), .tm, none⟩,
      ⟨.bin .add (.tm 0) (.c (.int .i64 1)), .tm, none⟩,
      ⟨.nilck (.tm 5), .tm, none⟩,
      ⟨.faddr 1 (.tm 0), .tm, none⟩,
      ⟨.store1 (.tm 0) (.tm 2), .no, none⟩]) <|
      .reg [
      ⟨.mov (.fr 0), .tm, none⟩,
      ⟨.callf 28 [(.tm 0)], .tm, none⟩])
      (.skip), []⟩
/-- (*semaphore/semaphoreref24.Relay).Reset ; args 1 ; slots [0, 2, 7] -/
def f24 : AFunc := ⟨[0, 2, 7],
  .seq (.reg [
    ⟨.mov (.c (.int .i64 0)), .fr 1, none⟩]) <|
    .seq (.seq (.reg [
    ⟨.mov (.fr 0), .tm, none⟩,
    ⟨.nilck (.tm 0), .tm, none⟩,
    ⟨.faddr 2 (.tm 0), .tm, none⟩,
    ⟨.load1 (.tm 0), .tm, none⟩,
    ⟨.un .not (.tm 0), .fr 2, none⟩]) <|
    .cond (.fr 2)
      (.seq (.reg [
      ⟨.mov (.c (.int .i64 4)), .fr 1, none⟩]) <|
      .ret)
      (.skip)) <|
    .seq (.reg [
    ⟨.mov (.fr 0), .tm, none⟩,
    ⟨.nilck (.tm 0), .tm, none⟩,
    ⟨.faddr 2 (.tm 0), .tm, none⟩,
    ⟨.store1 (.tm 0) (.c (.bool false)), .no, none⟩]) <|
    .seq (.reg [
    ⟨.mov (.fr 0), .tm, none⟩,
    ⟨.nilck (.tm 0), .tm, none⟩,
    ⟨.faddr 1 (.tm 0), .tm, none⟩,
    ⟨.store1 (.tm 0) (.c (.int .i64 0)), .no, none⟩]) <|
    .seq (.reg [
    ⟨.mov (.c (.int .i64 0)), .fr 1, none⟩]) <|
    .ret, [.t 1]⟩
/-- (*semaphore/semaphoreref24.Relay).Admit ; args 6 ; slots [0, 1, 2, 3, 4, 5, 10, 11, 12, 13, 14, 22, 26, 44, 49] -/
def f25 : AFunc := ⟨[0, 1, 2, 3, 4, 5, 10, 11, 12, 13, 14, 22, 26, 44, 49],
  .seq (.reg [
    ⟨.box 35 2 (.fr 4), .fr 6, none⟩,
    ⟨.box 40 68 (.fr 5), .fr 7, none⟩,
    ⟨.mov (.c (.int .i64 0)), .fr 8, none⟩]) <|
    .seq (.reg [
    ⟨.mov (.fr 0), .tm, none⟩,
    ⟨.nilck (.tm 0), .tm, none⟩,
    ⟨.loadn 79 (.tm 0), .tm, none⟩,
    ⟨.new 62 79 Z79, .fr 9, none⟩,
    ⟨.storen 79 (.fr 9) (.tm 0), .no, none⟩]) <|
    .seq (.reg [
    ⟨.mov (.fr 0), .tm, none⟩,
    ⟨.mov (.fr 1), .tm, none⟩,
    ⟨.mov (.fr 2), .tm, none⟩,
    ⟨.callf 21 [(.tm 2), (.tm 1), (.tm 0)], .tm, none⟩,
    ⟨.mov (.tm 0), .fr 10, none⟩]) <|
    .seq (.block 0 (.seq (.reg [
      ⟨.mov (.fr 10), .tm, none⟩,
      ⟨.bin .neq (.tm 0) (.c (.int .i64 0)), .tm, none⟩,
      ⟨.mov (.tm 0), .fr 11, none⟩]) <|
      .cond (.fr 11)
        (.seq (.reg [
        ⟨.mov (.fr 10), .tm, none⟩,
        ⟨.mov (.tm 0), .fr 8, none⟩]) <|
        .ret)
        (.seq (.reg [
        ⟨.mov (.fr 3), .tm, none⟩,
        ⟨.bin .lss (.tm 0) (.c (.int .i64 0)), .tm, none⟩,
        ⟨.mov (.tm 0), .tm, none⟩,
        ⟨.mov (.fr 3), .tm, some ((.tm 0), false)⟩,
        ⟨.bin .gtr (.tm 0) (.c (.int .i64 1099511627776)), .tm, some ((.tm 1), false)⟩,
        ⟨.pick (.tm 2) (.c (.bool true)) (.tm 0), .tm, none⟩,
        ⟨.mov (.tm 0), .tm, none⟩,
        ⟨.faddr 0 (.fr 6), .tm, some ((.tm 0), false)⟩,
        ⟨.load1 (.tm 0), .tm, some ((.tm 1), false)⟩,
        ⟨.faddr 0 (.fr 7), .tm, some ((.tm 2), false)⟩,
        ⟨.load1 (.tm 0), .tm, some ((.tm 3), false)⟩,
        ⟨.bin .andNot (.tm 2) (.tm 0), .tm, some ((.tm 4), false)⟩,
        ⟨.bin .neq (.tm 0) (.c (.int .u64 0)), .tm, some ((.tm 5), false)⟩,
        ⟨.pick (.tm 6) (.c (.bool true)) (.tm 0), .tm, none⟩,
        ⟨.mov (.tm 0), .fr 12, none⟩]) <|
        .cond (.fr 12)
          (.seq (.reg [
          ⟨.mov (.fr 0), .tm, none⟩,
          ⟨.loadn 79 (.fr 9), .tm, none⟩,
          ⟨.nilck (.tm 1), .tm, none⟩,
          ⟨.storen 79 (.tm 0) (.tm 1), .no, none⟩]) <|
          .seq (.reg [
          ⟨.mov (.c (.int .i64 2)), .fr 8, none⟩]) <|
          .ret)
          (.seq (.reg [
          ⟨.mov (.fr 0), .tm, none⟩,
          ⟨.nilck (.tm 0), .tm, none⟩,
          ⟨.faddr 2 (.tm 0), .tm, none⟩,
          ⟨.load1 (.tm 0), .tm, none⟩,
          ⟨.mov (.tm 0), .fr 13, none⟩]) <|
          .cond (.fr 13)
            (.seq (.reg [
            ⟨.mov (.c (.int .i64 220)), .fr 8, none⟩]) <|
            .ret)
            (.seq (.reg [
            ⟨.mov (.fr 3), .tm, none⟩,
            ⟨.mov (.fr 0), .tm, none⟩,
            ⟨.nilck (.tm 0), .tm, none⟩,
            ⟨.faddr 5 (.tm 0), .tm, none⟩,
            ⟨.load1 (.tm 0), .tm, none⟩,
            ⟨.bin .leq (.tm 4) (.tm 0), .tm, none⟩,
            ⟨.mov (.tm 0), .fr 14, none⟩]) <|
            .cond (.fr 14)
              (.seq (.reg [
              ⟨.mov (.c (.int .i64 4)), .fr 8, none⟩]) <|
              .ret)
              (.skip)))))) <|
    .seq (.reg [
    ⟨.mov (.fr 0), .tm, none⟩,
    ⟨.loadn 2 (.fr 6), .tm, none⟩,
    ⟨.nilck (.tm 1), .tm, none⟩,
    ⟨.faddr 6 (.tm 0), .tm, none⟩,
    ⟨.storen 2 (.tm 0) (.tm 2), .no, none⟩]) <|
    .seq (.reg [
    ⟨.mov (.fr 0), .tm, none⟩,
    ⟨.nilck (.tm 0), .tm, none⟩,
    ⟨.faddr 8 (.tm 0), .tm, none⟩,
    ⟨.store1 (.tm 0) (.c (.bool true)), .no, none⟩]) <|
    .seq (.reg [
    ⟨.mov (.fr 0), .tm, none⟩,
    ⟨.loadn 68 (.fr 7), .tm, none⟩,
    ⟨.nilck (.tm 1), .tm, none⟩,
    ⟨.faddr 9 (.tm 0), .tm, none⟩,
    ⟨.storen 68 (.tm 0) (.tm 2), .no, none⟩]) <|
    .seq (.reg [
    ⟨.mov (.fr 0), .tm, none⟩,
    ⟨.mov (.fr 3), .tm, none⟩,
    ⟨.nilck (.tm 1), .tm, none⟩,
    ⟨.faddr 77 (.tm 0), .tm, none⟩,
    ⟨.store1 (.tm 0) (.tm 2), .no, none⟩]) <|
    .seq (.reg [
    ⟨.mov (.fr 0), .tm, none⟩,
    ⟨.mov (.fr 2), .tm, none⟩,
    ⟨.nilck (.tm 1), .tm, none⟩,
    ⟨.faddr 78 (.tm 0), .tm, none⟩,
    ⟨.store1 (.tm 0) (.tm 2), .no, none⟩]) <|
    .seq (.reg [
    ⟨.mov (.fr 0), .tm, none⟩,
    ⟨.mov (.fr 3), .tm, none⟩,
    ⟨.nilck (.tm 1), .tm, none⟩,
    ⟨.faddr 5 (.tm 0), .tm, none⟩,
    ⟨.store1 (.tm 0) (.tm 2), .no, none⟩]) <|
    .seq (.reg [
    ⟨.mov (.fr 0), .tm, none⟩,
    ⟨.nilck (.tm 0), .tm, none⟩,
    ⟨.faddr 1 (.tm 0), .tm, none⟩,
    ⟨.store1 (.tm 0) (.c (.int .i64 0)), .no, none⟩]) <|
    .seq (.reg [
    ⟨.mov (.c (.int .i64 0)), .fr 8, none⟩]) <|
    .ret, [.t 8]⟩
/-- (semaphore/relay.fence).raised ; args 3 ; slots [0, 1, 2, 3, 6, 7, 8, 24, 42] -/
def f26 : AFunc := ⟨[0, 1, 2, 3, 6, 7, 8, 24, 42],
  .seq (.reg [
    ⟨.box 58 3 (.fr 0), .fr 3, none⟩,
    ⟨.new 58 3 [(.int .i64 0), (.int .i64 0), .nilIface], .fr 4, none⟩,
    ⟨.mov (.c (.int .i64 0)), .fr 5, none⟩]) <|
    .seq (.block 0 (.seq (.reg [
      ⟨.mov (.fr 1), .tm, none⟩,
      ⟨.bin .lss (.tm 0) (.c (.int .i64 0)), .tm, none⟩,
      ⟨.mov (.tm 0), .tm, none⟩,
      ⟨.mov (.fr 1), .tm, some ((.tm 0), false)⟩,
      ⟨.bin .gtr (.tm 0) (.c (.int .i64 1)), .tm, some ((.tm 1), false)⟩,
      ⟨.pick (.tm 2) (.c (.bool true)) (.tm 0), .tm, none⟩,
      ⟨.mov (.tm 0), .tm, none⟩,
      ⟨.mov (.fr 2), .tm, some ((.tm 0), false)⟩,
      ⟨.bin .lss (.tm 0) (.c (.int .i64 1)), .tm, some ((.tm 1), false)⟩,
      ⟨.pick (.tm 2) (.c (.bool true)) (.tm 0), .tm, none⟩,
      ⟨.mov (.tm 0), .tm, none⟩,
      ⟨.mov (.fr 2), .tm, some ((.tm 0), false)⟩,
      ⟨.bin .gtr (.tm 0) (.c (.int .i64 1099511627776)), .tm, some ((.tm 1), false)⟩,
      ⟨.pick (.tm 2) (.c (.bool true)) (.tm 0), .tm, none⟩,
      ⟨.mov (.tm 0), .fr 6, none⟩]) <|
      .cond (.fr 6)
        (.seq (.reg [
        ⟨.loadn 3 (.fr 3), .tm, none⟩,
        ⟨.storen 3 (.fr 4) (.tm 0), .no, none⟩,
        ⟨.mov (.c (.int .i64 2)), .fr 5, none⟩]) <|
        .ret)
        (.seq (.reg [
        ⟨.mov (.fr 2), .tm, none⟩,
        ⟨.faddr 0 (.fr 3), .tm, none⟩,
        ⟨.load1 (.tm 0), .tm, none⟩,
        ⟨.bin .lss (.tm 2) (.tm 0), .tm, none⟩,
        ⟨.mov (.tm 0), .tm, none⟩,
        ⟨.mov (.fr 2), .tm, some ((.tm 0), false)⟩,
        ⟨.faddr 0 (.fr 3), .tm, some ((.tm 1), false)⟩,
        ⟨.load1 (.tm 0), .tm, some ((.tm 2), false)⟩,
        ⟨.bin .eql (.tm 2) (.tm 0), .tm, some ((.tm 3), false)⟩,
        ⟨.mov (.tm 0), .tm, some ((.tm 4), false)⟩,
        ⟨.mov (.fr 1), .tm, some ((.tm 0), true)⟩,
        ⟨.faddr 1 (.fr 3), .tm, some ((.tm 1), true)⟩,
        ⟨.load1 (.tm 0), .tm, some ((.tm 2), true)⟩,
        ⟨.bin .neq (.tm 2) (.tm 0), .tm, some ((.tm 3), true)⟩,
        ⟨.pick (.tm 4) (.tm 0) (.c (.bool false)), .tm, some ((.tm 9), false)⟩,
        ⟨.pick (.tm 10) (.c (.bool true)) (.tm 0), .tm, none⟩,
        ⟨.mov (.tm 0), .fr 7, none⟩]) <|
        .cond (.fr 7)
          (.seq (.reg [
          ⟨.loadn 3 (.fr 3), .tm, none⟩,
          ⟨.storen 3 (.fr 4) (.tm 0), .no, none⟩,
          ⟨.mov (.c (.int .i64 230)), .fr 5, none⟩]) <|
          .ret)
          (.seq (.reg [
          ⟨.mov (.fr 2), .tm, none⟩,
          ⟨.faddr 0 (.fr 3), .tm, none⟩,
          ⟨.load1 (.tm 0), .tm, none⟩,
          ⟨.bin .gtr (.tm 2) (.tm 0), .tm, none⟩,
          ⟨.mov (.tm 0), .fr 8, none⟩]) <|
          .cond (.fr 8)
            (.seq (.reg [
            ⟨.mov (.fr 2), .tm, none⟩,
            ⟨.mov (.fr 1), .tm, none⟩,
            ⟨.build [(.int .i64 0), (.int .i64 0), .nilIface] [(0, 1, (.tm 1)), (1, 1, (.tm 0))], .tm, none⟩,
            ⟨.storen 3 (.fr 4) (.tm 0), .no, none⟩,
            ⟨.mov (.c (.int .i64 0)), .fr 5, none⟩]) <|
            .ret)
            (.skip))))) <|
    .seq (.reg [
    ⟨.loadn 3 (.fr 3), .tm, none⟩,
    ⟨.storen 3 (.fr 4) (.tm 0), .no, none⟩,
    ⟨.mov (.c (.int .i64 0)), .fr 5, none⟩]) <|
    .ret, [.cn 3 4, .t 5]⟩
/-- (*semaphore/relay.Relay).stop ; args 1 ; slots [0] -/
def f27 : AFunc := ⟨[0],
  .seq (.reg [
    ⟨.mov (.fr 0), .tm, none⟩,
    ⟨.nilck (.tm 0), .tm, none⟩,
    ⟨.faddr 5 (.tm 0), .tm, none⟩,
    ⟨.store1 (.tm 0) (.c (.bool true)), .no, none⟩]) <|
    .reg [
    ⟨.mov (.fr 0), .tm, none⟩,
    ⟨.nilck (.tm 0), .tm, none⟩,
    ⟨.faddr 6 (.tm 0), .tm, none⟩,
    ⟨.faddr 0 (.tm 0), .tm, none⟩,
    ⟨.store1 (.tm 0) (.c (.int .u64 0)), .no, none⟩], []⟩
/-- (*semaphore/semaphoreref24.Relay).stop ; args 1 ; slots [0] -/
def f28 : AFunc := ⟨[0],
  .seq (.reg [
    ⟨.mov (.fr 0), .tm, none⟩,
    ⟨.nilck (.tm 0), .tm, none⟩,
    ⟨.faddr 2 (.tm 0), .tm, none⟩,
    ⟨.store1 (.tm 0) (.c (.bool true)), .no, none⟩]) <|
    .reg [
    ⟨.mov (.fr 0), .tm, none⟩,
    ⟨.nilck (.tm 0), .tm, none⟩,
    ⟨.faddr 6 (.tm 0), .tm, none⟩,
    ⟨.faddr 0 (.tm 0), .tm, none⟩,
    ⟨.store1 (.tm 0) (.c (.int .u64 0)), .no, none⟩], []⟩
theorem f3_ok : compF Go.Proofs.Try.prog 0 [0, 1, 4, 5, 6, 7, 8, 11, 21, 38, 42, 58] 3 = some f3 := by kernel_rfl
theorem f3_n : argsOK Go.Proofs.Try.prog 3 2 = true := by kernel_rfl
theorem f4_ok : compF Go.Proofs.Try.prog 0 [0, 1, 4, 5, 6, 7, 8, 9, 10, 11, 12, 13, 14, 15, 16, 17, 18, 19, 22, 32, 36, 45, 54, 63, 72, 73, 80, 84, 107, 111, 117, 139, 169, 181, 182, 208] 4 = some f4 := by kernel_rfl
theorem f4_n : argsOK Go.Proofs.Try.prog 4 2 = true := by kernel_rfl
theorem f5_ok : compF Go.Proofs.Try.prog 0 [0, 1, 2, 3, 4, 5, 6, 8, 9, 11, 12, 14, 167, 168, 169, 170, 176] 5 = some f5 := by kernel_rfl
theorem f5_n : argsOK Go.Proofs.Try.prog 5 0 = true := by kernel_rfl
theorem f6_ok : compF Go.Proofs.Try.prog 0 [0, 1, 2, 4, 5, 6, 7, 8, 9, 10, 11, 12, 13, 14, 15, 21, 85] 6 = some f6 := by kernel_rfl
theorem f6_n : argsOK Go.Proofs.Try.prog 6 0 = true := by kernel_rfl
theorem f7_ok : compF Go.Proofs.Try.prog 0 [0, 2, 3, 9] 7 = some f7 := by kernel_rfl
theorem f7_n : argsOK Go.Proofs.Try.prog 7 1 = true := by kernel_rfl
theorem f8_ok : compF Go.Proofs.Try.prog 0 [0, 2, 8] 8 = some f8 := by kernel_rfl
theorem f8_n : argsOK Go.Proofs.Try.prog 8 1 = true := by kernel_rfl
theorem f9_ok : compF Go.Proofs.Try.prog 0 [0, 1, 4, 5, 6, 7, 8, 51] 9 = some f9 := by kernel_rfl
theorem f9_n : argsOK Go.Proofs.Try.prog 9 2 = true := by kernel_rfl
theorem f10_ok : compF Go.Proofs.Try.prog 0 [0, 1, 2, 5, 6, 9, 10, 27, 44, 51] 10 = some f10 := by kernel_rfl
theorem f10_n : argsOK Go.Proofs.Try.prog 10 3 = true := by kernel_rfl
theorem f11_ok : compF Go.Proofs.Try.prog 0 [0, 1, 2, 6, 7, 8, 10] 11 = some f11 := by kernel_rfl
theorem f11_n : argsOK Go.Proofs.Try.prog 11 3 = true := by kernel_rfl
theorem f12_ok : compF Go.Proofs.Try.prog 0 [0, 1, 2, 6, 7, 13] 12 = some f12 := by kernel_rfl
theorem f12_n : argsOK Go.Proofs.Try.prog 12 3 = true := by kernel_rfl
theorem f13_ok : compF Go.Proofs.Try.prog 0 [0, 3, 12] 13 = some f13 := by kernel_rfl
theorem f13_n : argsOK Go.Proofs.Try.prog 13 1 = true := by kernel_rfl
theorem f14_ok : compF Go.Proofs.Try.prog 0 [0, 2, 3, 6] 14 = some f14 := by kernel_rfl
theorem f14_n : argsOK Go.Proofs.Try.prog 14 1 = true := by kernel_rfl
theorem f15_ok : compF Go.Proofs.Try.prog 0 [0, 1, 2, 3, 6, 7, 8, 9, 10, 11, 12, 14, 26, 30, 58, 63] 15 = some f15 := by kernel_rfl
theorem f15_n : argsOK Go.Proofs.Try.prog 15 4 = true := by kernel_rfl
theorem f16_ok : compF Go.Proofs.Try.prog 0 [0, 2, 4] 16 = some f16 := by kernel_rfl
theorem f16_n : argsOK Go.Proofs.Try.prog 16 1 = true := by kernel_rfl
theorem f17_ok : compF Go.Proofs.Try.prog 0 [0, 2, 4] 17 = some f17 := by kernel_rfl
theorem f17_n : argsOK Go.Proofs.Try.prog 17 1 = true := by kernel_rfl
theorem f18_ok : compF Go.Proofs.Try.prog 0 [0, 2, 3, 4, 5, 7] 18 = some f18 := by kernel_rfl
theorem f18_n : argsOK Go.Proofs.Try.prog 18 1 = true := by kernel_rfl
theorem f19_ok : compF Go.Proofs.Try.prog 0 [0, 2, 3, 5] 19 = some f19 := by kernel_rfl
theorem f19_n : argsOK Go.Proofs.Try.prog 19 1 = true := by kernel_rfl
theorem f20_ok : compF Go.Proofs.Try.prog 0 [0, 2, 12] 20 = some f20 := by kernel_rfl
theorem f20_n : argsOK Go.Proofs.Try.prog 20 1 = true := by kernel_rfl
theorem f21_ok : compF Go.Proofs.Try.prog 0 [0, 1, 2, 6, 7, 22, 45] 21 = some f21 := by kernel_rfl
theorem f21_n : argsOK Go.Proofs.Try.prog 21 3 = true := by kernel_rfl
theorem f22_ok : compF Go.Proofs.Try.prog 0 [0, 1, 2, 6, 7, 13] 22 = some f22 := by kernel_rfl
theorem f22_n : argsOK Go.Proofs.Try.prog 22 3 = true := by kernel_rfl
theorem f23_ok : compF Go.Proofs.Try.prog 0 [0, 17] 23 = some f23 := by kernel_rfl
theorem f23_n : argsOK Go.Proofs.Try.prog 23 1 = true := by kernel_rfl
theorem f24_ok : compF Go.Proofs.Try.prog 0 [0, 2, 7] 24 = some f24 := by kernel_rfl
theorem f24_n : argsOK Go.Proofs.Try.prog 24 1 = true := by kernel_rfl
theorem f25_ok : compF Go.Proofs.Try.prog 0 [0, 1, 2, 3, 4, 5, 10, 11, 12, 13, 14, 22, 26, 44, 49] 25 = some f25 := by kernel_rfl
theorem f25_n : argsOK Go.Proofs.Try.prog 25 6 = true := by kernel_rfl
theorem f26_ok : compF Go.Proofs.Try.prog 0 [0, 1, 2, 3, 6, 7, 8, 24, 42] 26 = some f26 := by kernel_rfl
theorem f26_n : argsOK Go.Proofs.Try.prog 26 3 = true := by kernel_rfl
theorem f27_ok : compF Go.Proofs.Try.prog 0 [0] 27 = some f27 := by kernel_rfl
theorem f27_n : argsOK Go.Proofs.Try.prog 27 1 = true := by kernel_rfl
theorem f28_ok : compF Go.Proofs.Try.prog 0 [0] 28 = some f28 := by kernel_rfl
theorem f28_n : argsOK Go.Proofs.Try.prog 28 1 = true := by kernel_rfl
end Go.AM.Rl
