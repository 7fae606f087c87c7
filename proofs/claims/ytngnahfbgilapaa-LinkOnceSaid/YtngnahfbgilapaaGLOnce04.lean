/- Part of the proof. -/
import Derived.Test.YtngnahfbgilapaaGLOnce03
set_option linter.unusedSimpArgs false
set_option linter.unusedVariables false
set_option maxRecDepth 100000
namespace Go.AM.F
def O68 : List Nat := [1, 1, 1, 1, 1, 1, 1, 1, 1, 1, 1, 1, 1, 1, 1, 1, 1, 1, 1, 1, 1, 1, 1, 1, 1, 1, 1, 1, 1, 1, 1, 1, 1, 1, 1, 1, 1, 1, 1, 1, 1, 1, 1, 1, 1, 1, 1, 1, 1, 1, 1, 1, 1, 1, 1, 1, 1, 1, 1, 1, 1, 1, 1, 1, 1, 1, 1, 1]
def O70 : List Nat := [1, 1, 1, 1, 1, 1, 1, 1, 1, 1, 1, 1, 1, 1, 1, 1, 1, 1, 1, 1, 1, 1, 1, 1, 1, 1, 1, 1, 1, 1, 1, 1, 1, 1, 1, 1, 1, 1, 1, 1, 1, 1, 1, 1, 1, 1, 1, 1, 1, 1, 1, 1, 1, 1, 1, 1, 1, 1, 1, 1, 1, 1, 1, 1, 1, 1, 1, 1, 1, 1]
def f3 : AFunc := ⟨[0, 2, 3, 4, 5, 6, 7, 8, 9, 10, 11, 12, 13, 14, 15, 16, 17, 18, 19, 20, 21, 22, 23, 24, 25, 26, 27, 28, 29, 32, 140],
 .seq (.reg [
 ⟨.mov (.c (.bool false)), .fr 1, none⟩]) <|
 .seq (.seq (.reg [
 ⟨.mov (.fr 0), .tm, none⟩,
 ⟨.len false (.tm 0), .tm, none⟩,
 ⟨.bin .gtr (.tm 0) (.c (.int .i64 3000)), .fr 29, none⟩]) <|
 .cond (.fr 29)
 (.seq (.reg [
 ⟨.callf 11 [], .tm, none⟩,
 ⟨.mov (.tm 0), .fr 1, none⟩]) <|
 .ret)
 (.skip)) <|
 .seq (.reg [
 ⟨.mov (.fr 0), .tm, none⟩,
 ⟨.b2s (.tm 0), .tm, none⟩,
 ⟨.s2b 5 (.tm 0), .tm, none⟩,
 ⟨.mov (.tm 0), .fr 2, none⟩]) <|
 .seq (.reg [
 ⟨.mov (.fr 2), .tm, none⟩,
 ⟨.callf 12 [(.tm 0)], .tm, none⟩,
 ⟨.mov (.tm 0), .tm, none⟩,
 ⟨.extract (.tm 0) 0, .tm, none⟩,
 ⟨.extract (.tm 1) 1, .tm, none⟩,
 ⟨.new 30 6 [(.int .u8 0), (.int .i64 0), (.int .u64 0), (.int .u32 0), (.int .u32 0), (.slice none 0 0)], .fr 3, none⟩,
 ⟨.storen 6 (.fr 3) (.tm 1), .no, none⟩,
 ⟨.mov (.tm 0), .fr 4, none⟩]) <|
 .seq (.reg [
 ⟨.mov (.fr 0), .tm, none⟩,
 ⟨.callf 13 [(.tm 0)], .tm, none⟩,
 ⟨.mov (.tm 0), .tm, none⟩,
 ⟨.extract (.tm 0) 0, .tm, none⟩,
 ⟨.extract (.tm 1) 1, .tm, none⟩,
 ⟨.new 34 6 [(.int .u8 0), (.int .i64 0), (.int .u64 0), (.int .u32 0), (.int .u32 0), (.slice none 0 0)], .fr 5, none⟩,
 ⟨.storen 6 (.fr 5) (.tm 1), .no, none⟩,
 ⟨.mov (.tm 0), .fr 6, none⟩]) <|
 .seq (.dreg [
 (⟨.loadn 6 (.fr 3), .tm, none⟩, []),
 (⟨.callf 15 [(.tm 0)], .tm, none⟩, []),
 (⟨.loadn 6 (.fr 5), .tm, none⟩, [1]),
 (⟨.callf 14 [(.tm 1), (.tm 0)], .tm, none⟩, []),
 (⟨.mov (.tm 0), .tm, none⟩, []),
 (⟨.mov (.fr 4), .tm, some ((.tm 0), true)⟩, []),
 (⟨.bin .eql (.tm 0) (.c (.int .i64 0)), .tm, some ((.tm 1), true)⟩, []),
 (⟨.mov (.fr 6), .tm, some ((.tm 2), true)⟩, []),
 (⟨.eqv 0 false (.tm 1) (.tm 0), .tm, some ((.tm 3), true)⟩, []),
 (⟨.pick (.tm 4) (.tm 0) (.c (.bool false)), .tm, none⟩, []),
 (⟨.mov (.tm 0), .fr 7, none⟩, [])]) <|
 .seq (.reg [
 ⟨.mov (.fr 2), .tm, none⟩,
 ⟨.callf 16 [(.tm 0)], .tm, none⟩,
 ⟨.mov (.tm 0), .tm, none⟩,
 ⟨.extract (.tm 0) 0, .tm, none⟩,
 ⟨.extract (.tm 1) 1, .tm, none⟩,
 ⟨.new 42 5 [(.int .u8 0), (.int .i64 0), (.int .i64 0), (.int .u64 0), (.int .u32 0)], .fr 8, none⟩,
 ⟨.storen 5 (.fr 8) (.tm 1), .no, none⟩,
 ⟨.mov (.tm 0), .fr 9, none⟩]) <|
 .seq (.reg [
 ⟨.mov (.fr 0), .tm, none⟩,
 ⟨.callf 17 [(.tm 0)], .tm, none⟩,
 ⟨.mov (.tm 0), .tm, none⟩,
 ⟨.extract (.tm 0) 0, .tm, none⟩,
 ⟨.extract (.tm 1) 1, .tm, none⟩,
 ⟨.new 45 5 [(.int .u8 0), (.int .i64 0), (.int .i64 0), (.int .u64 0), (.int .u32 0)], .fr 10, none⟩,
 ⟨.storen 5 (.fr 10) (.tm 1), .no, none⟩,
 ⟨.mov (.tm 0), .fr 11, none⟩]) <|
 .seq (.dreg [
 (⟨.loadn 5 (.fr 8), .tm, none⟩, []),
 (⟨.callf 18 [(.tm 0)], .tm, none⟩, []),
 (⟨.loadn 5 (.fr 10), .tm, none⟩, [1]),
 (⟨.eqs [1, 1, 1, 1, 1] false (.tm 1) (.tm 0), .tm, none⟩, []),
 (⟨.mov (.tm 0), .tm, none⟩, []),
 (⟨.mov (.fr 9), .tm, some ((.tm 0), true)⟩, []),
 (⟨.bin .eql (.tm 0) (.c (.int .i64 0)), .tm, some ((.tm 1), true)⟩, []),
 (⟨.mov (.fr 11), .tm, some ((.tm 2), true)⟩, []),
 (⟨.eqv 0 false (.tm 1) (.tm 0), .tm, some ((.tm 3), true)⟩, []),
 (⟨.pick (.tm 4) (.tm 0) (.c (.bool false)), .tm, none⟩, []),
 (⟨.mov (.tm 0), .fr 12, none⟩, [])]) <|
 .seq (.reg [
 ⟨.mov (.fr 2), .tm, none⟩,
 ⟨.callf 19 [(.tm 0)], .tm, none⟩,
 ⟨.mov (.tm 0), .tm, none⟩,
 ⟨.extract (.tm 0) 0, .tm, none⟩,
 ⟨.extract (.tm 1) 1, .tm, none⟩,
 ⟨.new 51 68 Z68, .fr 13, none⟩,
 ⟨.storen 68 (.fr 13) (.tm 1), .no, none⟩,
 ⟨.mov (.tm 0), .fr 14, none⟩]) <|
 .seq (.reg [
 ⟨.mov (.fr 0), .tm, none⟩,
 ⟨.callf 20 [(.tm 0)], .tm, none⟩,
 ⟨.mov (.tm 0), .tm, none⟩,
 ⟨.extract (.tm 0) 0, .tm, none⟩,
 ⟨.extract (.tm 1) 1, .tm, none⟩,
 ⟨.new 51 68 Z68, .fr 15, none⟩,
 ⟨.storen 68 (.fr 15) (.tm 1), .no, none⟩,
 ⟨.mov (.tm 0), .fr 16, none⟩]) <|
 .seq (.reg [
 ⟨.loadn 68 (.fr 13), .tm, none⟩,
 ⟨.loadn 68 (.fr 15), .tm, none⟩,
 ⟨.eqs O68 false (.tm 1) (.tm 0), .tm, none⟩,
 ⟨.mov (.tm 0), .tm, none⟩,
 ⟨.mov (.fr 14), .tm, some ((.tm 0), true)⟩,
 ⟨.bin .eql (.tm 0) (.c (.int .i64 0)), .tm, some ((.tm 1), true)⟩,
 ⟨.mov (.fr 16), .tm, some ((.tm 2), true)⟩,
 ⟨.eqv 0 false (.tm 1) (.tm 0), .tm, some ((.tm 3), true)⟩,
 ⟨.pick (.tm 4) (.tm 0) (.c (.bool false)), .tm, none⟩,
 ⟨.mov (.tm 0), .fr 17, none⟩]) <|
 .seq (.reg [
 ⟨.mov (.fr 2), .tm, none⟩,
 ⟨.callf 21 [(.tm 0)], .tm, none⟩,
 ⟨.mov (.tm 0), .tm, none⟩,
 ⟨.extract (.tm 0) 0, .tm, none⟩,
 ⟨.extract (.tm 1) 1, .tm, none⟩,
 ⟨.new 57 70 Z70, .fr 18, none⟩,
 ⟨.storen 70 (.fr 18) (.tm 1), .no, none⟩,
 ⟨.mov (.tm 0), .fr 19, none⟩]) <|
 .seq (.reg [
 ⟨.mov (.fr 0), .tm, none⟩,
 ⟨.callf 22 [(.tm 0)], .tm, none⟩,
 ⟨.mov (.tm 0), .tm, none⟩,
 ⟨.extract (.tm 0) 0, .tm, none⟩,
 ⟨.extract (.tm 1) 1, .tm, none⟩,
 ⟨.new 60 70 Z70, .fr 20, none⟩,
 ⟨.storen 70 (.fr 20) (.tm 1), .no, none⟩,
 ⟨.mov (.tm 0), .fr 21, none⟩]) <|
 .seq (.dreg [
 (⟨.loadn 70 (.fr 18), .tm, none⟩, []),
 (⟨.callf 23 [(.tm 0)], .tm, none⟩, []),
 (⟨.loadn 70 (.fr 20), .tm, none⟩, [1]),
 (⟨.eqs O70 false (.tm 1) (.tm 0), .tm, none⟩, []),
 (⟨.mov (.tm 0), .tm, none⟩, []),
 (⟨.mov (.fr 19), .tm, some ((.tm 0), true)⟩, []),
 (⟨.bin .eql (.tm 0) (.c (.int .i64 0)), .tm, some ((.tm 1), true)⟩, []),
 (⟨.mov (.fr 21), .tm, some ((.tm 2), true)⟩, []),
 (⟨.eqv 0 false (.tm 1) (.tm 0), .tm, some ((.tm 3), true)⟩, []),
 (⟨.pick (.tm 4) (.tm 0) (.c (.bool false)), .tm, none⟩, []),
 (⟨.mov (.tm 0), .fr 22, none⟩, [])]) <|
 .seq (.reg [
 ⟨.mov (.fr 2), .tm, none⟩,
 ⟨.callf 24 [(.tm 0)], .tm, none⟩,
 ⟨.mov (.tm 0), .tm, none⟩,
 ⟨.extract (.tm 0) 0, .tm, none⟩,
 ⟨.extract (.tm 1) 1, .tm, none⟩,
 ⟨.new 65 5 [(.int .u8 0), (.int .u8 0), (.int .i64 0), (.int .i64 0), (.slice none 0 0)], .fr 23, none⟩,
 ⟨.storen 5 (.fr 23) (.tm 1), .no, none⟩,
 ⟨.mov (.tm 0), .fr 24, none⟩]) <|
 .seq (.reg [
 ⟨.mov (.fr 0), .tm, none⟩,
 ⟨.callf 25 [(.tm 0)], .tm, none⟩,
 ⟨.mov (.tm 0), .tm, none⟩,
 ⟨.extract (.tm 0) 0, .tm, none⟩,
 ⟨.extract (.tm 1) 1, .tm, none⟩,
 ⟨.new 69 5 [(.int .u8 0), (.int .u8 0), (.int .i64 0), (.int .i64 0), (.string ByteArray.empty)], .fr 25, none⟩,
 ⟨.storen 5 (.fr 25) (.tm 1), .no, none⟩,
 ⟨.mov (.tm 0), .fr 26, none⟩]) <|
 .seq (.dreg [
 (⟨.loadn 5 (.fr 23), .tm, none⟩, []),
 (⟨.callf 26 [(.tm 0)], .tm, none⟩, []),
 (⟨.loadn 5 (.fr 25), .tm, none⟩, [1]),
 (⟨.eqs [1, 1, 1, 1, 2] false (.tm 1) (.tm 0), .tm, none⟩, []),
 (⟨.mov (.tm 0), .tm, none⟩, []),
 (⟨.mov (.fr 24), .tm, some ((.tm 0), true)⟩, []),
 (⟨.bin .eql (.tm 0) (.c (.int .i64 0)), .tm, some ((.tm 1), true)⟩, []),
 (⟨.mov (.fr 26), .tm, some ((.tm 2), true)⟩, []),
 (⟨.eqv 0 false (.tm 1) (.tm 0), .tm, some ((.tm 3), true)⟩, []),
 (⟨.pick (.tm 4) (.tm 0) (.c (.bool false)), .tm, none⟩, []),
 (⟨.mov (.tm 0), .fr 27, none⟩, [])]) <|
 .seq (.seq (.reg [
 ⟨.mov (.c (.int .i64 0)), .fr 28, none⟩]) <|
 .block 0 (.loop (.seq (.seq (.reg [
 ⟨.mov (.fr 28), .tm, none⟩,
 ⟨.faddr 4 (.fr 23), .tm, none⟩,
 ⟨.load1 (.tm 0), .tm, none⟩,
 ⟨.len false (.tm 0), .tm, none⟩,
 ⟨.bin .lss (.tm 3) (.tm 0), .fr 30, none⟩]) <|
 .cond (.fr 30)
 (.skip)
 (.exit 0)) <|
 .seq (.block 1 (.dreg [
 (⟨.faddr 4 (.fr 23), .tm, none⟩, []),
 (⟨.load1 (.tm 0), .tm, none⟩, []),
 (⟨.mov (.fr 28), .tm, none⟩, []),
 (⟨.faddr 4 (.fr 23), .tm, none⟩, []),
 (⟨.load1 (.tm 0), .tm, none⟩, []),
 (⟨.mov (.fr 28), .tm, none⟩, []),
 (⟨.iaddr 1 (.tm 1) (.tm 0), .tm, none⟩, []),
 (⟨.load1 (.tm 0), .tm, none⟩, []),
 (⟨.bin .add (.tm 0) (.c (.int .u8 1)), .tm, none⟩, []),
 (⟨.iaddr 1 (.tm 7) (.tm 6), .tm, none⟩, []),
 (⟨.store1 (.tm 0) (.tm 1), .no, none⟩, [])])) <|
 .reg [
 ⟨.mov (.fr 28), .tm, none⟩,
 ⟨.bin .add (.tm 0) (.c (.int .i64 1)), .tm, none⟩,
 ⟨.mov (.tm 0), .fr 28, none⟩]))) <|
 .seq (.reg [
 ⟨.mov (.fr 7), .tm, none⟩,
 ⟨.mov (.tm 0), .tm, none⟩,
 ⟨.mov (.fr 12), .tm, some ((.tm 0), true)⟩,
 ⟨.pick (.tm 1) (.tm 0) (.c (.bool false)), .tm, none⟩,
 ⟨.mov (.tm 0), .tm, none⟩,
 ⟨.mov (.fr 17), .tm, some ((.tm 0), true)⟩,
 ⟨.pick (.tm 1) (.tm 0) (.c (.bool false)), .tm, none⟩,
 ⟨.mov (.tm 0), .tm, none⟩,
 ⟨.mov (.fr 22), .tm, some ((.tm 0), true)⟩,
 ⟨.pick (.tm 1) (.tm 0) (.c (.bool false)), .tm, none⟩,
 ⟨.mov (.tm 0), .tm, none⟩,
 ⟨.mov (.fr 27), .tm, some ((.tm 0), true)⟩,
 ⟨.pick (.tm 1) (.tm 0) (.c (.bool false)), .tm, none⟩,
 ⟨.mov (.tm 0), .tm, none⟩,
 ⟨.mov (.fr 4), .tm, some ((.tm 0), true)⟩,
 ⟨.mov (.fr 9), .tm, some ((.tm 1), true)⟩,
 ⟨.mov (.fr 14), .tm, some ((.tm 2), true)⟩,
 ⟨.mov (.fr 19), .tm, some ((.tm 3), true)⟩,
 ⟨.mov (.fr 24), .tm, some ((.tm 4), true)⟩,
 ⟨.callf 27 [(.tm 4), (.tm 3), (.tm 2), (.tm 1), (.tm 0)], .tm, some ((.tm 5), true)⟩,
 ⟨.pick (.tm 6) (.tm 0) (.c (.bool false)), .tm, none⟩,
 ⟨.mov (.tm 0), .tm, none⟩,
 ⟨.mov (.fr 2), .tm, some ((.tm 0), true)⟩,
 ⟨.callf 28 [(.tm 0)], .tm, some ((.tm 1), true)⟩,
 ⟨.mov (.fr 0), .tm, some ((.tm 2), true)⟩,
 ⟨.callf 29 [(.tm 0)], .tm, some ((.tm 3), true)⟩,
 ⟨.bin .eql (.tm 2) (.tm 0), .tm, some ((.tm 4), true)⟩,
 ⟨.pick (.tm 5) (.tm 0) (.c (.bool false)), .tm, none⟩,
 ⟨.mov (.tm 0), .tm, none⟩,
 ⟨.mov (.fr 2), .tm, some ((.tm 0), true)⟩,
 ⟨.b2s (.tm 0), .tm, some ((.tm 1), true)⟩,
 ⟨.mov (.fr 0), .tm, some ((.tm 2), true)⟩,
 ⟨.b2s (.tm 0), .tm, some ((.tm 3), true)⟩,
 ⟨.bin .eql (.tm 2) (.tm 0), .tm, some ((.tm 4), true)⟩,
 ⟨.pick (.tm 5) (.tm 0) (.c (.bool false)), .tm, none⟩,
 ⟨.mov (.tm 0), .tm, none⟩,
 ⟨.callf 11 [], .tm, some ((.tm 0), true)⟩,
 ⟨.pick (.tm 1) (.tm 0) (.c (.bool false)), .tm, none⟩,
 ⟨.mov (.tm 0), .fr 1, none⟩]) <|
 .ret, [.t 1]⟩
def f5 : AFunc := ⟨[0, 1, 2, 3, 4, 5, 6, 7, 8, 9, 10, 11, 12, 13, 14, 15, 16, 20, 23, 55, 69, 73],
 .seq (.reg [
 ⟨.box 30 6 (.fr 0), .fr 5, none⟩,
 ⟨.box 42 5 (.fr 1), .fr 6, none⟩,
 ⟨.box 51 68 (.fr 2), .fr 7, none⟩,
 ⟨.box 57 70 (.fr 3), .fr 8, none⟩,
 ⟨.box 65 5 (.fr 4), .fr 9, none⟩,
 ⟨.mov (.c (.bool false)), .fr 10, none⟩]) <|
 .seq (.seq (.reg [
 ⟨.loadn 6 (.fr 5), .tm, none⟩,
 ⟨.loadn 5 (.fr 9), .tm, none⟩,
 ⟨.callf 43 [(.tm 1), (.tm 0)], .tm, none⟩,
 ⟨.un .not (.tm 0), .fr 17, none⟩]) <|
 .cond (.fr 17)
 (.seq (.reg [
 ⟨.callf 11 [], .tm, none⟩,
 ⟨.mov (.tm 0), .fr 10, none⟩]) <|
 .ret)
 (.skip)) <|
 .seq (.seq (.reg [
 ⟨.mov (.c (.int .i64 0)), .fr 11, none⟩]) <|
 .block 0 (.loop (.seq (.seq (.reg [
 ⟨.mov (.fr 11), .tm, none⟩,
 ⟨.bin .lss (.tm 0) (.c (.int .i64 2)), .fr 18, none⟩]) <|
 .cond (.fr 18)
 (.skip)
 (.exit 0)) <|
 .seq (.block 1 (.seq (.dreg [
 (⟨.loadn 6 (.fr 5), .tm, none⟩, []),
 (⟨.callf 44 [(.tm 0)], .tm, none⟩, []),
 (⟨.loadn 5 (.fr 6), .tm, none⟩, [1]),
 (⟨.callf 45 [(.tm 0)], .tm, none⟩, []),
 (⟨.loadn 68 (.fr 7), .tm, none⟩, [1, 3]),
 (⟨.callf 46 [(.tm 0)], .tm, none⟩, []),
 (⟨.loadn 70 (.fr 8), .tm, none⟩, [1, 3, 5]),
 (⟨.callf 47 [(.tm 0)], .tm, none⟩, []),
 (⟨.loadn 5 (.fr 9), .tm, none⟩, [1, 3, 5, 7]),
 (⟨.callf 36 [(.tm 0)], .tm, none⟩, []),
 (⟨.bslice 22 1 5 [(.slice none 0 0), (.slice none 0 0), (.slice none 0 0), (.slice none 0 0), (.slice none 0 0)] [(0, 1, (.tm 8)), (1, 1, (.tm 6)), (2, 1, (.tm 4)), (3, 1, (.tm 2)), (4, 1, (.tm 0))], .tm, none⟩, []),
 (⟨.mov (.tm 0), .fr 12, none⟩, [])]) <|
 .seq (.dreg [
 (⟨.loadn 6 (.fr 5), .tm, none⟩, []),
 (⟨.callf 15 [(.tm 0)], .tm, none⟩, []),
 (⟨.callf 48 [(.tm 0)], .tm, none⟩, []),
 (⟨.loadn 5 (.fr 6), .tm, none⟩, [1, 2]),
 (⟨.callf 18 [(.tm 0)], .tm, none⟩, []),
 (⟨.callf 49 [(.tm 0)], .tm, none⟩, []),
 (⟨.loadn 68 (.fr 7), .tm, none⟩, [1, 2, 4, 5]),
 (⟨.callf 50 [(.tm 0)], .tm, none⟩, []),
 (⟨.loadn 70 (.fr 8), .tm, none⟩, [1, 2, 4, 5, 7]),
 (⟨.callf 23 [(.tm 0)], .tm, none⟩, []),
 (⟨.callf 51 [(.tm 0)], .tm, none⟩, []),
 (⟨.loadn 5 (.fr 9), .tm, none⟩, [1, 2, 4, 5, 7, 9, 10]),
 (⟨.callf 26 [(.tm 0)], .tm, none⟩, []),
 (⟨.callf 52 [(.tm 0)], .tm, none⟩, []),
 (⟨.bslice 22 1 5 [(.slice none 0 0), (.slice none 0 0), (.slice none 0 0), (.slice none 0 0), (.slice none 0 0)] [(0, 1, (.tm 11)), (1, 1, (.tm 8)), (2, 1, (.tm 6)), (3, 1, (.tm 3)), (4, 1, (.tm 0))], .tm, none⟩, []),
 (⟨.mov (.tm 0), .fr 13, none⟩, [])]) <|
 .seq (.reg [
 ⟨.mov (.c (.int .i64 0)), .fr 14, none⟩]) <|
 .block 2 (.loop (.seq (.seq (.reg [
 ⟨.mov (.fr 14), .tm, none⟩,
 ⟨.mov (.fr 12), .tm, none⟩,
 ⟨.len false (.tm 0), .tm, none⟩,
 ⟨.bin .lss (.tm 2) (.tm 0), .fr 19, none⟩]) <|
 .cond (.fr 19)
 (.skip)
 (.exit 2)) <|
 .seq (.block 3 (.seq (.reg [
 ⟨.mov (.fr 12), .tm, none⟩,
 ⟨.mov (.fr 14), .tm, none⟩,
 ⟨.iaddr 1 (.tm 1) (.tm 0), .tm, none⟩,
 ⟨.load1 (.tm 0), .tm, none⟩,
 ⟨.mov (.tm 0), .fr 15, none⟩]) <|
 .seq (.seq (.dreg [
 (⟨.mov (.fr 15), .tm, none⟩, []),
 (⟨.b2s (.tm 0), .tm, none⟩, []),
 (⟨.mov (.fr 13), .tm, none⟩, []),
 (⟨.mov (.fr 14), .tm, none⟩, []),
 (⟨.iaddr 1 (.tm 1) (.tm 0), .tm, none⟩, []),
 (⟨.load1 (.tm 0), .tm, none⟩, []),
 (⟨.b2s (.tm 0), .tm, none⟩, []),
 (⟨.bin .neq (.tm 5) (.tm 0), .fr 20, none⟩, [])]) <|
 .cond (.fr 20)
 (.seq (.reg [
 ⟨.mov (.c (.bool false)), .fr 10, none⟩]) <|
 .ret)
 (.skip)) <|
 .seq (.reg [
 ⟨.mov (.c (.int .i64 0)), .fr 16, none⟩]) <|
 .block 4 (.loop (.seq (.seq (.reg [
 ⟨.mov (.fr 16), .tm, none⟩,
 ⟨.mov (.fr 15), .tm, none⟩,
 ⟨.len false (.tm 0), .tm, none⟩,
 ⟨.bin .lss (.tm 2) (.tm 0), .fr 21, none⟩]) <|
 .cond (.fr 21)
 (.skip)
 (.exit 4)) <|
 .seq (.block 5 (.reg [
 ⟨.mov (.fr 15), .tm, none⟩,
 ⟨.mov (.fr 16), .tm, none⟩,
 ⟨.mov (.fr 15), .tm, none⟩,
 ⟨.mov (.fr 16), .tm, none⟩,
 ⟨.iaddr 1 (.tm 1) (.tm 0), .tm, none⟩,
 ⟨.load1 (.tm 0), .tm, none⟩,
 ⟨.bin .add (.tm 0) (.c (.int .u8 1)), .tm, none⟩,
 ⟨.iaddr 1 (.tm 6) (.tm 5), .tm, none⟩,
 ⟨.store1 (.tm 0) (.tm 1), .no, none⟩])) <|
 .reg [
 ⟨.mov (.fr 16), .tm, none⟩,
 ⟨.bin .add (.tm 0) (.c (.int .i64 1)), .tm, none⟩,
 ⟨.mov (.tm 0), .fr 16, none⟩])))) <|
 .reg [
 ⟨.mov (.fr 14), .tm, none⟩,
 ⟨.bin .add (.tm 0) (.c (.int .i64 1)), .tm, none⟩,
 ⟨.mov (.tm 0), .fr 14, none⟩])))) <|
 .reg [
 ⟨.mov (.fr 11), .tm, none⟩,
 ⟨.bin .add (.tm 0) (.c (.int .i64 1)), .tm, none⟩,
 ⟨.mov (.tm 0), .fr 11, none⟩]))) <|
 .seq (.reg [
 ⟨.callf 11 [], .tm, none⟩,
 ⟨.mov (.tm 0), .fr 10, none⟩]) <|
 .ret, [.t 10]⟩
def f6 : AFunc := ⟨[0, 1, 2, 3, 4, 5, 6, 7, 8, 9, 10, 12, 13, 14, 15, 16, 17, 18, 19, 28, 56, 80, 99, 123, 149],
 .seq (.reg [
 ⟨.box 30 6 (.fr 0), .fr 6, none⟩,
 ⟨.box 42 5 (.fr 1), .fr 7, none⟩,
 ⟨.box 51 68 (.fr 2), .fr 8, none⟩,
 ⟨.box 57 70 (.fr 3), .fr 9, none⟩,
 ⟨.box 65 5 (.fr 4), .fr 10, none⟩,
 ⟨.mov (.c (.bool false)), .fr 11, none⟩]) <|
 .seq (.seq (.reg [
 ⟨.loadn 6 (.fr 6), .tm, none⟩,
 ⟨.loadn 5 (.fr 10), .tm, none⟩,
 ⟨.callf 43 [(.tm 1), (.tm 0)], .tm, none⟩,
 ⟨.un .not (.tm 0), .tm, none⟩,
 ⟨.mov (.tm 0), .tm, none⟩,
 ⟨.mov (.fr 5), .tm, some ((.tm 0), false)⟩,
 ⟨.len false (.tm 0), .tm, some ((.tm 1), false)⟩,
 ⟨.bin .gtr (.tm 0) (.c (.int .i64 3000)), .tm, some ((.tm 2), false)⟩,
 ⟨.pick (.tm 3) (.c (.bool true)) (.tm 0), .fr 19, none⟩]) <|
 .cond (.fr 19)
 (.seq (.reg [
 ⟨.callf 11 [], .tm, none⟩,
 ⟨.mov (.tm 0), .fr 11, none⟩]) <|
 .ret)
 (.skip)) <|
 .seq (.reg [
 ⟨.loadn 6 (.fr 6), .tm, none⟩,
 ⟨.callf 44 [(.tm 0)], .tm, none⟩,
 ⟨.mov (.tm 0), .fr 12, none⟩]) <|
 .seq (.reg [
 ⟨.mov (.fr 12), .tm, none⟩,
 ⟨.callf 12 [(.tm 0)], .tm, none⟩,
 ⟨.mov (.tm 0), .tm, none⟩,
 ⟨.extract (.tm 0) 0, .tm, none⟩,
 ⟨.extract (.tm 1) 1, .tm, none⟩,
 ⟨.new 30 6 [(.int .u8 0), (.int .i64 0), (.int .u64 0), (.int .u32 0), (.int .u32 0), (.slice none 0 0)], .fr 13, none⟩,
 ⟨.storen 6 (.fr 13) (.tm 1), .no, none⟩,
 ⟨.mov (.tm 0), .fr 14, none⟩]) <|
 .seq (.seq (.dreg [
 (⟨.mov (.fr 12), .tm, none⟩, []),
 (⟨.len false (.tm 0), .tm, none⟩, []),
 (⟨.bin .gtr (.tm 0) (.c (.int .i64 0)), .tm, none⟩, []),
 (⟨.mov (.tm 0), .tm, none⟩, []),
 (⟨.mov (.fr 14), .tm, some ((.tm 0), true)⟩, []),
 (⟨.bin .neq (.tm 0) (.c (.int .i64 0)), .tm, some ((.tm 1), true)⟩, []),
 (⟨.mov (.tm 0), .tm, some ((.tm 2), true)⟩, []),
 (⟨.loadn 6 (.fr 13), .tm, some ((.tm 0), false)⟩, []),
 (⟨.callf 15 [(.tm 0)], .tm, some ((.tm 1), false)⟩, []),
 (⟨.loadn 6 (.fr 6), .tm, some ((.tm 2), false)⟩, [8]),
 (⟨.callf 15 [(.tm 0)], .tm, some ((.tm 3), false)⟩, []),
 (⟨.callf 14 [(.tm 2), (.tm 0)], .tm, some ((.tm 4), false)⟩, []),
 (⟨.un .not (.tm 0), .tm, some ((.tm 5), false)⟩, []),
 (⟨.pick (.tm 6) (.c (.bool true)) (.tm 0), .tm, some ((.tm 9), true)⟩, []),
 (⟨.mov (.tm 0), .tm, some ((.tm 10), true)⟩, []),
 (⟨.mov (.fr 12), .tm, some ((.tm 0), false)⟩, []),
 (⟨.callf 28 [(.tm 0)], .tm, some ((.tm 1), false)⟩, []),
 (⟨.bin .neq (.tm 0) (.c (.int .u8 1)), .tm, some ((.tm 2), false)⟩, []),
 (⟨.pick (.tm 3) (.c (.bool true)) (.tm 0), .tm, some ((.tm 14), true)⟩, []),
 (⟨.pick (.tm 15) (.tm 0) (.c (.bool false)), .fr 20, none⟩, [])]) <|
 .cond (.fr 20)
 (.seq (.reg [
 ⟨.mov (.c (.bool false)), .fr 11, none⟩]) <|
 .ret)
 (.skip)) <|
 .seq (.reg [
 ⟨.loadn 5 (.fr 7), .tm, none⟩,
 ⟨.callf 45 [(.tm 0)], .tm, none⟩,
 ⟨.mov (.tm 0), .fr 12, none⟩]) <|
 .seq (.reg [
 ⟨.mov (.fr 12), .tm, none⟩,
 ⟨.callf 16 [(.tm 0)], .tm, none⟩,
 ⟨.mov (.tm 0), .tm, none⟩,
 ⟨.extract (.tm 0) 0, .tm, none⟩,
 ⟨.extract (.tm 1) 1, .tm, none⟩,
 ⟨.new 42 5 [(.int .u8 0), (.int .i64 0), (.int .i64 0), (.int .u64 0), (.int .u32 0)], .fr 15, none⟩,
 ⟨.storen 5 (.fr 15) (.tm 1), .no, none⟩,
 ⟨.mov (.tm 0), .fr 14, none⟩]) <|
 .seq (.seq (.reg [
 ⟨.mov (.fr 12), .tm, none⟩,
 ⟨.len false (.tm 0), .tm, none⟩,
 ⟨.bin .gtr (.tm 0) (.c (.int .i64 0)), .tm, none⟩,
 ⟨.mov (.tm 0), .tm, none⟩,
 ⟨.mov (.fr 14), .tm, some ((.tm 0), true)⟩,
 ⟨.bin .neq (.tm 0) (.c (.int .i64 0)), .tm, some ((.tm 1), true)⟩,
 ⟨.mov (.tm 0), .tm, some ((.tm 2), true)⟩,
 ⟨.loadn 5 (.fr 15), .tm, some ((.tm 0), false)⟩,
 ⟨.loadn 5 (.fr 7), .tm, some ((.tm 1), false)⟩,
 ⟨.eqs [1, 1, 1, 1, 1] true (.tm 1) (.tm 0), .tm, some ((.tm 2), false)⟩,
 ⟨.pick (.tm 3) (.c (.bool true)) (.tm 0), .tm, some ((.tm 6), true)⟩,
 ⟨.mov (.tm 0), .tm, some ((.tm 7), true)⟩,
 ⟨.mov (.fr 12), .tm, some ((.tm 0), false)⟩,
 ⟨.callf 28 [(.tm 0)], .tm, some ((.tm 1), false)⟩,
 ⟨.bin .neq (.tm 0) (.c (.int .u8 2)), .tm, some ((.tm 2), false)⟩,
 ⟨.pick (.tm 3) (.c (.bool true)) (.tm 0), .tm, some ((.tm 11), true)⟩,
 ⟨.pick (.tm 12) (.tm 0) (.c (.bool false)), .fr 21, none⟩]) <|
 .cond (.fr 21)
 (.seq (.reg [
 ⟨.mov (.c (.bool false)), .fr 11, none⟩]) <|
 .ret)
 (.skip)) <|
 .seq (.reg [
 ⟨.loadn 68 (.fr 8), .tm, none⟩,
 ⟨.callf 46 [(.tm 0)], .tm, none⟩,
 ⟨.mov (.tm 0), .fr 12, none⟩]) <|
 .seq (.reg [
 ⟨.mov (.fr 12), .tm, none⟩,
 ⟨.callf 19 [(.tm 0)], .tm, none⟩,
 ⟨.mov (.tm 0), .tm, none⟩,
 ⟨.extract (.tm 0) 0, .tm, none⟩,
 ⟨.extract (.tm 1) 1, .tm, none⟩,
 ⟨.new 51 68 Z68, .fr 16, none⟩,
 ⟨.storen 68 (.fr 16) (.tm 1), .no, none⟩,
 ⟨.mov (.tm 0), .fr 14, none⟩]) <|
 .seq (.seq (.reg [
 ⟨.mov (.fr 14), .tm, none⟩,
 ⟨.bin .neq (.tm 0) (.c (.int .i64 0)), .tm, none⟩,
 ⟨.mov (.tm 0), .tm, none⟩,
 ⟨.loadn 68 (.fr 16), .tm, some ((.tm 0), false)⟩,
 ⟨.loadn 68 (.fr 8), .tm, some ((.tm 1), false)⟩,
 ⟨.eqs O68 true (.tm 1) (.tm 0), .tm, some ((.tm 2), false)⟩,
 ⟨.pick (.tm 3) (.c (.bool true)) (.tm 0), .tm, none⟩,
 ⟨.mov (.tm 0), .tm, none⟩,
 ⟨.mov (.fr 12), .tm, some ((.tm 0), false)⟩,
 ⟨.callf 28 [(.tm 0)], .tm, some ((.tm 1), false)⟩,
 ⟨.bin .neq (.tm 0) (.c (.int .u8 3)), .tm, some ((.tm 2), false)⟩,
 ⟨.pick (.tm 3) (.c (.bool true)) (.tm 0), .fr 22, none⟩]) <|
 .cond (.fr 22)
 (.seq (.reg [
 ⟨.mov (.c (.bool false)), .fr 11, none⟩]) <|
 .ret)
 (.skip)) <|
 .seq (.reg [
 ⟨.loadn 70 (.fr 9), .tm, none⟩,
 ⟨.callf 47 [(.tm 0)], .tm, none⟩,
 ⟨.mov (.tm 0), .fr 12, none⟩]) <|
 .seq (.reg [
 ⟨.mov (.fr 12), .tm, none⟩,
 ⟨.callf 21 [(.tm 0)], .tm, none⟩,
 ⟨.mov (.tm 0), .tm, none⟩,
 ⟨.extract (.tm 0) 0, .tm, none⟩,
 ⟨.extract (.tm 1) 1, .tm, none⟩,
 ⟨.new 57 70 Z70, .fr 17, none⟩,
 ⟨.storen 70 (.fr 17) (.tm 1), .no, none⟩,
 ⟨.mov (.tm 0), .fr 14, none⟩]) <|
 .seq (.seq (.reg [
 ⟨.mov (.fr 12), .tm, none⟩,
 ⟨.len false (.tm 0), .tm, none⟩,
 ⟨.bin .gtr (.tm 0) (.c (.int .i64 0)), .tm, none⟩,
 ⟨.mov (.tm 0), .tm, none⟩,
 ⟨.mov (.fr 14), .tm, some ((.tm 0), true)⟩,
 ⟨.bin .neq (.tm 0) (.c (.int .i64 0)), .tm, some ((.tm 1), true)⟩,
 ⟨.mov (.tm 0), .tm, some ((.tm 2), true)⟩,
 ⟨.loadn 70 (.fr 17), .tm, some ((.tm 0), false)⟩,
 ⟨.loadn 70 (.fr 9), .tm, some ((.tm 1), false)⟩,
 ⟨.eqs O70 true (.tm 1) (.tm 0), .tm, some ((.tm 2), false)⟩,
 ⟨.pick (.tm 3) (.c (.bool true)) (.tm 0), .tm, some ((.tm 6), true)⟩,
 ⟨.mov (.tm 0), .tm, some ((.tm 7), true)⟩,
 ⟨.mov (.fr 12), .tm, some ((.tm 0), false)⟩,
 ⟨.callf 28 [(.tm 0)], .tm, some ((.tm 1), false)⟩,
 ⟨.bin .neq (.tm 0) (.c (.int .u8 4)), .tm, some ((.tm 2), false)⟩,
 ⟨.pick (.tm 3) (.c (.bool true)) (.tm 0), .tm, some ((.tm 11), true)⟩,
 ⟨.pick (.tm 12) (.tm 0) (.c (.bool false)), .fr 23, none⟩]) <|
 .cond (.fr 23)
 (.seq (.reg [
 ⟨.mov (.c (.bool false)), .fr 11, none⟩]) <|
 .ret)
 (.skip)) <|
 .seq (.reg [
 ⟨.loadn 5 (.fr 10), .tm, none⟩,
 ⟨.callf 36 [(.tm 0)], .tm, none⟩,
 ⟨.mov (.tm 0), .fr 12, none⟩]) <|
 .seq (.reg [
 ⟨.mov (.fr 12), .tm, none⟩,
 ⟨.callf 24 [(.tm 0)], .tm, none⟩,
 ⟨.mov (.tm 0), .tm, none⟩,
 ⟨.extract (.tm 0) 0, .tm, none⟩,
 ⟨.extract (.tm 1) 1, .tm, none⟩,
 ⟨.new 65 5 [(.int .u8 0), (.int .u8 0), (.int .i64 0), (.int .i64 0), (.slice none 0 0)], .fr 18, none⟩,
 ⟨.storen 5 (.fr 18) (.tm 1), .no, none⟩,
 ⟨.mov (.tm 0), .fr 14, none⟩]) <|
 .seq (.seq (.dreg [
 (⟨.mov (.fr 12), .tm, none⟩, []),
 (⟨.len false (.tm 0), .tm, none⟩, []),
 (⟨.bin .gtr (.tm 0) (.c (.int .i64 0)), .tm, none⟩, []),
 (⟨.mov (.tm 0), .tm, none⟩, []),
 (⟨.mov (.fr 14), .tm, some ((.tm 0), true)⟩, []),
 (⟨.bin .neq (.tm 0) (.c (.int .i64 0)), .tm, some ((.tm 1), true)⟩, []),
 (⟨.mov (.tm 0), .tm, some ((.tm 2), true)⟩, []),
 (⟨.loadn 5 (.fr 18), .tm, some ((.tm 0), false)⟩, []),
 (⟨.callf 26 [(.tm 0)], .tm, some ((.tm 1), false)⟩, []),
 (⟨.loadn 5 (.fr 10), .tm, some ((.tm 2), false)⟩, [8]),
 (⟨.callf 26 [(.tm 0)], .tm, some ((.tm 3), false)⟩, []),
 (⟨.eqs [1, 1, 1, 1, 2] true (.tm 2) (.tm 0), .tm, some ((.tm 4), false)⟩, []),
 (⟨.pick (.tm 5) (.c (.bool true)) (.tm 0), .tm, some ((.tm 8), true)⟩, []),
 (⟨.mov (.tm 0), .tm, some ((.tm 9), true)⟩, []),
 (⟨.mov (.fr 12), .tm, some ((.tm 0), false)⟩, []),
 (⟨.callf 28 [(.tm 0)], .tm, some ((.tm 1), false)⟩, []),
 (⟨.bin .neq (.tm 0) (.c (.int .u8 5)), .tm, some ((.tm 2), false)⟩, []),
 (⟨.pick (.tm 3) (.c (.bool true)) (.tm 0), .tm, some ((.tm 13), true)⟩, []),
 (⟨.pick (.tm 14) (.tm 0) (.c (.bool false)), .fr 24, none⟩, [])]) <|
 .cond (.fr 24)
 (.seq (.reg [
 ⟨.mov (.c (.bool false)), .fr 11, none⟩]) <|
 .ret)
 (.skip)) <|
 .seq (.reg [
 ⟨.mov (.fr 5), .tm, none⟩,
 ⟨.callf 53 [(.tm 0)], .tm, none⟩,
 ⟨.mov (.tm 0), .tm, none⟩,
 ⟨.callf 11 [], .tm, some ((.tm 0), true)⟩,
 ⟨.pick (.tm 1) (.tm 0) (.c (.bool false)), .tm, none⟩,
 ⟨.mov (.tm 0), .fr 11, none⟩]) <|
 .ret, [.t 11]⟩
end Go.AM.F

set_option linter.unusedSimpArgs false
set_option linter.unusedVariables false
namespace Go.AM.Fd
open Nat (reduceAdd reduceEqDiff reduceLT reduceLeDiff reduceMul reduceSub)
open Go.Proofs Go.AM.F
def er (ok : Bool) : Int := if ok then 0 else 130
theorem e24 {H : AHeap} {v : Value} {b : List UInt8} (hb : BQ H v b) (hl : b.length ≤ 1000000) : ∃ w H', ARun Go.Proofs.Try.prog 0 24 [v] H w H' ∧ ∃ vb, w = GotV (cLi vb ((geLi b).getD Li0)) (er (geLi b).isSome) ∧ Keeps H H' ∧ Fresh H.n vb ∧ AP H' 5 1 vb ((geLi b).getD Li0).B.length (cellsOf ((geLi b).getD Li0).B) := by
  obtain ⟨w, H', a, k, vc, f, e⟩ := t24 hb (by omega)
  refine ⟨w, H', a, ?_⟩
  cases hg : geLi b with
  | none =>
    rw [hg] at e
    exact ⟨.slice none 0 0, e, k, fun b hb => (by cases hb), .inl ⟨rfl, rfl, rfl⟩⟩
  | some x =>
    rw [hg] at e
    exact ⟨vc, e.1, k, f, e.2⟩
end Go.AM.Fd

set_option linter.unusedSimpArgs false
set_option linter.unusedVariables false
namespace Go.AM.Fd
open Nat (reduceAdd reduceEqDiff reduceLT reduceLeDiff reduceMul reduceSub)
open Go.Proofs Go.AM.F
theorem PutR.bs {H H' : AHeap} {v : Value} {l : List UInt8} (h : PutR H H' v l) : BS H' v l := h.1.bs
theorem PutR.bq {H H' : AHeap} {v : Value} {l : List UInt8} (h : PutR H H' v l) : BQ H' v l := h.1.bq
end Go.AM.Fd

set_option linter.unusedSimpArgs false
set_option linter.unusedVariables false
namespace Go.AM
def cpre : Nat → ACode → ACode
  | 0, _ => .skip
  | 1, .seq a _ => a
  | n + 2, .seq a b => .seq a (cpre (n + 1) b)
  | _ + 1, c => c
def cpost : Nat → ACode → ACode
  | 0, c => c
  | n + 1, .seq _ b => cpost n b
  | _ + 1, _ => .skip
def cok : Nat → ACode → Bool
  | 0, _ => false
  | 1, .seq _ _ => true
  | n + 2, .seq _ b => cok (n + 1) b
  | _ + 1, _ => false
variable {P : Program} {ng : Nat} {H : AHeap} {Q : AQ} {fr : List Value}
theorem andThen2 (Q : AQ) (K K' : List Value → AHeap → Prop) : (Q.andThen K).andThen K' = Q.andThen K' := by
  funext e fr H
  cases e <;> rfl
theorem W_pp : ∀ (n : Nat) (c : ACode) (Q : AQ) (fr : List Value) (H : AHeap), cok n c = true → W P ng c Q fr H = W P ng (cpre n c) (Q.andThen (W P ng (cpost n c) Q)) fr H
  | 0, c, Q, fr, H, h => by simp [cok] at h
  | 1, c, Q, fr, H, h => by
    cases c <;> simp [cok] at h
    rfl
  | n + 2, c, Q, fr, H, h => by
    cases c <;> simp [cok] at h
    rename_i a b
    simp only [cpre, cpost, W_seq]
    rw [andThen2]
    congr 1
    funext e fr H
    cases e
    · exact W_pp (n + 1) b Q fr H h
    all_goals rfl
theorem W_part {c : ACode} (n : Nat) (M : List Value → AHeap → Prop) (hok : cok n c = true)
    (h1 : ∀ Q' : AQ, (∀ fr H, M fr H → Q' .normal fr H) → (∀ i fr H, Q (.exit i) fr H → Q' (.exit i) fr H) → (∀ fr H, Q .ret fr H → Q' .ret fr H) → W P ng (cpre n c) Q' fr H)
    (h2 : ∀ fr H, M fr H → W P ng (cpost n c) Q fr H) : W P ng c Q fr H := by
  rw [W_pp n c Q fr H hok]
  exact h1 _ (fun fr H h => h2 fr H h) (fun _ _ _ h => h) (fun _ _ h => h)
end Go.AM

set_option linter.unusedSimpArgs false
set_option linter.unusedVariables false
namespace Go.AM
inductive CKd
  | int (k : IntKind)
  | bool
  | str
  | sl (t : TypeId)
def ckFs (P : Program) (f : TypeId → Option (List CKd)) : List Field → Nat → Option (List CKd)
  | [], _ => some []
  | fd :: r, off => if fd.offset = off then match f fd.type with
    | some l => if P.cellsOf fd.type = l.length then (ckFs P f r (off + l.length)).map (l ++ ·) else none
    | none => none
    else none
def ckT (P : Program) : Nat → TypeId → Option (List CKd)
  | 0, _ => none
  | d + 1, t => match P.underlying t with
    | some .bool => some [.bool]
    | some (.int k) => some [.int k]
    | some .string => some [.str]
    | some (.slice _) => some [.sl t]
    | some (.struct fs) => match ckFs P (ckT P d) fs.toList 0 with
      | some l => if P.cellsOf t = l.length then some l else none
      | none => none
    | some (.array n e) => match ckT P d e with
      | some l => if P.cellsOf e = l.length ∧ P.cellsOf t = n * l.length then some (List.replicate n l).flatten else none
      | none => none
    | _ => none
def fits (P : Program) (G : Gf) : CKd → Value → Prop
  | .int k, v => ∃ n, v = .int k n ∧ (Lit.int k n).wf = true
  | .bool, v => ∃ b, v = .bool b
  | .str, v => ∃ s, v = .string s ∧ s.size ≤ maxLen
  | .sl t, v => AR P G t [v]
def fitsL (P : Program) (G : Gf) : List CKd → List Value → Prop
  | [], [] => True
  | k :: ks, v :: vs => fits P G k v ∧ fitsL P G ks vs
  | _, _ => False
section
variable {P : Program} {G : Gf}
theorem fitsL.len : ∀ {ks : List CKd} {cs : List Value}, fitsL P G ks cs → cs.length = ks.length
  | [], [], _ => rfl
  | _ :: ks, _ :: cs, h => by simp [fitsL.len h.2]
theorem fitsL.inv {k : CKd} {ks : List CKd} {cs : List Value} (h : fitsL P G (k :: ks) cs) : ∃ v vs, cs = v :: vs ∧ fits P G k v ∧ fitsL P G ks vs := by
  cases cs with
  | nil => exact h.elim
  | cons v vs => exact ⟨v, vs, rfl, h.1, h.2⟩
theorem fitsL.end_ {cs : List Value} (h : fitsL P G [] cs) : cs = [] := by
  cases cs with
  | nil => rfl
  | cons v vs => exact h.elim
theorem fitsL.app : ∀ {a b : List CKd} {c d : List Value}, fitsL P G a c → fitsL P G b d → fitsL P G (a ++ b) (c ++ d)
  | [], _, [], _, _, h => h
  | _ :: _, _, _ :: _, _, h, k => ⟨h.1, fitsL.app h.2 k⟩
theorem fitsL.split : ∀ {a b : List CKd} {cs : List Value}, fitsL P G (a ++ b) cs → fitsL P G a (cs.take a.length) ∧ fitsL P G b (cs.drop a.length)
  | [], b, cs, h => ⟨by simp [fitsL], by simpa using h⟩
  | k :: a, b, v :: cs, h => by
    have := fitsL.split (a := a) (b := b) (cs := cs) h.2
    exact ⟨⟨h.1, this.1⟩, this.2⟩
theorem fitsL.mono {G' : Gf} (hg : ∀ b o, G b = some o → G' b = some o) : ∀ {ks : List CKd} {cs : List Value}, fitsL P G ks cs → fitsL P G' ks cs
  | [], [], _ => trivial
  | .int _ :: _, _ :: _, h => ⟨h.1, h.2.mono hg⟩
  | .bool :: _, _ :: _, h => ⟨h.1, h.2.mono hg⟩
  | .str :: _, _ :: _, h => ⟨h.1, h.2.mono hg⟩
  | .sl t :: _, v :: _, h => ⟨AR.mono hg (show AR P G t [v] from h.1), h.2.mono hg⟩
theorem fitsL.u8 : ∀ {n : Nat} {cs : List Value}, fitsL P G (List.replicate n (.int .u8)) cs → ∃ l : List UInt8, l.length = n ∧ cs = cellsOf l
  | 0, [], _ => ⟨[], rfl, rfl⟩
  | n + 1, v :: cs, h => by
    obtain ⟨⟨m, rfl, hw⟩, h2⟩ := h
    obtain ⟨l, h3, rfl⟩ := fitsL.u8 h2
    simp only [Lit.wf, Bool.and_eq_true, decide_eq_true_eq, IntKind.min, IntKind.max, IntKind.signed, IntKind.bits] at hw
    obtain ⟨m, rfl⟩ : ∃ k : Nat, m = k := ⟨m.toNat, by simp at hw; omega⟩
    have hm : m % 256 = m := by simp at hw; omega
    exact ⟨UInt8.ofNat m :: l, by simp [h3], by simp [cellsOf, hm]⟩
theorem fits_u {k : IntKind} (hk : k.signed = false) {v : Value} (h : fits P G (.int k) v) : ∃ n : Nat, v = .int k n ∧ n < 2 ^ k.bits := by
  obtain ⟨n, rfl, hw⟩ := h
  simp only [Lit.wf, Bool.and_eq_true, decide_eq_true_eq, IntKind.min, IntKind.max, hk, Bool.false_eq_true, if_false] at hw
  refine ⟨n.toNat, by rw [Int.toNat_of_nonneg hw.1], ?_⟩
  have h1 := hw.1
  have h2 := hw.2
  have : (n.toNat : Int) < ((2 ^ k.bits : Nat) : Int) := by
    rw [Int.toNat_of_nonneg h1]
    push_cast
    omega
  exact Int.ofNat_lt.1 this
theorem fits_u8 {v : Value} (h : fits P G (.int .u8) v) : ∃ n : Nat, v = .int .u8 n ∧ n < 256 := fits_u rfl h
theorem fits_i64 {v : Value} (h : fits P G (.int .i64) v) : ∃ n : Int, v = .int .i64 n ∧ -9223372036854775808 ≤ n ∧ n ≤ 9223372036854775807 := by
  obtain ⟨n, rfl, hw⟩ := h
  simp only [Lit.wf, Bool.and_eq_true, decide_eq_true_eq, IntKind.min, IntKind.max, IntKind.signed, IntKind.bits] at hw
  exact ⟨n, rfl, by simpa using hw.1, by have := hw.2; simp at this; omega⟩
theorem fitsL_fields {f : TypeId → Option (List CKd)} {cs : List Value} : ∀ (fs : List Field) (off : Nat) (ks : List CKd), ckFs P f fs off = some ks → cs.length = off + ks.length →
    (∀ fd ∈ fs, ∀ l, f fd.type = some l → P.cellsOf fd.type = l.length → fitsL P G l ((cs.drop fd.offset).take (P.cellsOf fd.type))) → fitsL P G ks (cs.drop off)
  | [], off, ks, h, hl, _ => by
    simp only [ckFs, Option.some.injEq] at h; subst h
    rw [List.drop_of_length_le (by simp at hl; omega)]; trivial
  | fd :: fs, off, ks, h, hl, hf => by
    simp only [ckFs] at h
    split at h
    · rename_i h1
      split at h
      · rename_i l h2
        split at h
        · rename_i h3
          simp only [Option.map_eq_some_iff] at h
          obtain ⟨r, h4, rfl⟩ := h
          have h5 := hf fd (by simp) l h2 h3
          have h6 := fitsL_fields fs (off + l.length) r h4 (by rw [hl, List.length_append]; omega) (fun x hx => hf x (by simp [hx]))
          rw [h1, h3] at h5
          have := h5.app h6
          rwa [← List.drop_drop, List.take_append_drop] at this
        · cases h
      · cases h
    · cases h
theorem fitsL_rep {l : List CKd} {cs : List Value} : ∀ (n : Nat), (∀ i, i < n → fitsL P G l ((cs.drop (i * l.length)).take l.length)) → fitsL P G (List.replicate n l).flatten (cs.take (n * l.length))
  | 0, _ => by simp [fitsL]
  | n + 1, h => by
    have h1 := fitsL_rep n (fun i hi => h i (by omega))
    rw [List.replicate_succ', List.flatten_append, Nat.add_mul, Nat.one_mul, List.take_add]
    simpa using h1.app (h n (by omega))
theorem AR.flat : ∀ {d : Nat} {t : TypeId} {ks : List CKd} {cs : List Value}, ckT P d t = some ks → AR P G t cs → fitsL P G ks cs
  | 0, t, ks, cs, h, _ => by simp [ckT] at h
  | d + 1, t, ks, cs, h, ha => by
    have ha0 := ha
    cases ha with
    | bool hu => simp only [ckT, hu, Option.some.injEq] at h; subst h; exact ⟨⟨_, rfl⟩, trivial⟩
    | int hu hw => simp only [ckT, hu, Option.some.injEq] at h; subst h; exact ⟨⟨_, rfl, hw⟩, trivial⟩
    | str hu hs => simp only [ckT, hu, Option.some.injEq] at h; subst h; exact ⟨⟨_, rfl, hs⟩, trivial⟩
    | nil hu => simp only [ckT, hu, Option.some.injEq] at h; subst h; exact ⟨ha0, trivial⟩
    | zero hu _ => simp only [ckT, hu, Option.some.injEq] at h; subst h; exact ⟨ha0, trivial⟩
    | sl hu => simp only [ckT, hu, Option.some.injEq] at h; subst h; exact ⟨ha0, trivial⟩
    | struct hu hl hf =>
      rename_i fs
      simp only [ckT, hu] at h
      split at h
      · rename_i l h1
        split at h
        · rename_i h2
          simp only [Option.some.injEq] at h; subst h
          have := fitsL_fields (cs := cs) (G := G) fs.toList 0 _ h1 (by rw [hl, h2]; omega) (fun fd hfd l hl' hz => by
            obtain ⟨i, hi, hfi⟩ := List.mem_iff_getElem.1 hfd
            have hi' : i < fs.size := by simpa using hi
            exact (hf i fd (by rw [Array.getElem?_eq_getElem hi', ← hfi]; simp)).flat hl')
          simpa using this
        · cases h
      · cases h
    | array hu hl hi =>
      rename_i e n
      simp only [ckT, hu] at h
      split at h
      · rename_i l h1
        split at h
        · rename_i h2
          simp only [Option.some.injEq] at h; subst h
          have := fitsL_rep (P := P) (G := G) (l := l) (cs := cs) n (fun i hin => by
            have := hi i hin
            rw [h2.1] at this
            exact this.flat h1)
          rwa [List.take_of_length_le (by rw [hl, h2.2]; omega)] at this
        · cases h
      · cases h
end
end Go.AM

set_option linter.unusedSimpArgs false
set_option linter.unusedVariables false
namespace Go.AM.Fd
open Nat (reduceAdd reduceEqDiff reduceLT reduceLeDiff reduceMul reduceSub)
open Go.Proofs Go.AM.F
theorem fLi_len {x : Li} : (fLi x).length ≤ 25 + x.B.length := by
  unfold fLi
  split
  · rw [chk_len, List.length_cons, enLi_len]; omega
  · simp
section
variable {A0 A1 A2 A3' A4 v : Value} {n : Nat} {Hb K : AHeap} {Q : AQ} {fr : List Value}
--flat{
--}flat
end
end Go.AM.Fd

set_option linter.unusedSimpArgs false
set_option linter.unusedVariables false
namespace Go.AM.Fd
open Go.Proofs Go.AM.F
theorem agg_of {v : Value} (h : ∃ cs, v = .agg cs) : ∃ l : List Value, v = .agg l.toArray := by
  obtain ⟨cs, rfl⟩ := h
  exact ⟨cs.toList, by simp⟩
theorem fitLi {H : AHeap} {l : List Value} (hf : fitsL Go.Proofs.Try.prog H.get [.int .u8, .int .u8, .int .i64, .int .i64, .sl 22] l) : ∃ x vb, l = cLi vb x ∧ rgLi x ∧ BQ H vb x.B := by
  obtain ⟨a, r0, rfl, h0, g0⟩ := hf.inv
  obtain ⟨b, r1, rfl, h1, g1⟩ := g0.inv
  obtain ⟨c, r2, rfl, h2, g2⟩ := g1.inv
  obtain ⟨d, r3, rfl, h3, g3⟩ := g2.inv
  obtain ⟨e, r4, rfl, h4, g4⟩ := g3.inv
  obtain rfl := g4.end_
  obtain ⟨n0, rfl, w0⟩ := fits_u8 h0
  obtain ⟨n1, rfl, w1⟩ := fits_u8 h1
  obtain ⟨n2, rfl, _⟩ := fits_i64 h2
  obtain ⟨n3, rfl, _⟩ := fits_i64 h3
  have h4 : AR Go.Proofs.Try.prog H.get 22 [e] := h4
  obtain ⟨B, hB⟩ := h4.bq Go.Proofs.Try.underlying22 Go.Proofs.Try.underlying5 (by kernel_rfl)
  exact ⟨⟨n0, n1, n2, n3, B⟩, e, rfl, ⟨w0, w1⟩, hB⟩
end Go.AM.Fd

set_option maxRecDepth 100000
namespace Go.AM.F
def f4 : AFunc := ⟨[0, 1, 2, 3, 8, 9, 10, 11, 12, 13, 14, 15, 16, 17, 18, 19, 20, 21, 22, 23, 24, 26, 40, 51, 55, 68, 72, 105, 109, 123, 124, 153, 187],
 .seq (.reg [
 ⟨.mov (.c (.bool false)), .fr 4, none⟩]) <|
 .seq (.seq (.reg [
 ⟨.mov (.fr 3), .tm, none⟩,
 ⟨.callf 30 [(.tm 0)], .fr 21, none⟩]) <|
 .cond (.fr 21)
 (.seq (.reg [
 ⟨.callf 31 [], .tm, none⟩,
 ⟨.mov (.tm 0), .fr 4, none⟩]) <|
 .ret)
 (.skip)) <|
 .seq (.reg [
 ⟨.mov (.fr 0), .tm, none⟩,
 ⟨.mov (.fr 1), .tm, none⟩,
 ⟨.mov (.fr 2), .tm, none⟩,
 ⟨.callf 32 [(.tm 2), (.tm 1), (.tm 0)], .tm, none⟩,
 ⟨.mov (.tm 0), .tm, none⟩,
 ⟨.extract (.tm 0) 0, .tm, none⟩,
 ⟨.extract (.tm 1) 1, .tm, none⟩,
 ⟨.mov (.tm 1), .fr 5, none⟩,
 ⟨.mov (.tm 0), .fr 6, none⟩]) <|
 .seq (.reg [
 ⟨.mov (.fr 0), .tm, none⟩,
 ⟨.mov (.fr 1), .tm, none⟩,
 ⟨.mov (.fr 2), .tm, none⟩,
 ⟨.callf 33 [(.tm 2), (.tm 1), (.tm 0)], .tm, none⟩,
 ⟨.mov (.tm 0), .fr 7, none⟩]) <|
 .seq (.seq (.reg [
 ⟨.mov (.fr 7), .tm, none⟩,
 ⟨.eqv 1 false (.tm 0) (.c (.pointer none)), .fr 22, none⟩]) <|
 .cond (.fr 22)
 (.seq (.reg [
 ⟨.mov (.fr 5), .tm, none⟩,
 ⟨.eqv 1 false (.tm 0) (.c (.pointer none)), .tm, none⟩,
 ⟨.mov (.tm 0), .tm, none⟩,
 ⟨.mov (.fr 6), .tm, some ((.tm 0), true)⟩,
 ⟨.bin .eql (.tm 0) (.c (.int .i64 2)), .tm, some ((.tm 1), true)⟩,
 ⟨.pick (.tm 2) (.tm 0) (.c (.bool false)), .tm, none⟩,
 ⟨.mov (.tm 0), .tm, none⟩,
 ⟨.callf 31 [], .tm, some ((.tm 0), true)⟩,
 ⟨.pick (.tm 1) (.tm 0) (.c (.bool false)), .tm, none⟩,
 ⟨.mov (.tm 0), .fr 4, none⟩]) <|
 .ret)
 (.skip)) <|
 .seq (.seq (.reg [
 ⟨.mov (.fr 6), .tm, none⟩,
 ⟨.bin .neq (.tm 0) (.c (.int .i64 0)), .fr 23, none⟩]) <|
 .cond (.fr 23)
 (.seq (.reg [
 ⟨.mov (.c (.bool false)), .fr 4, none⟩]) <|
 .ret)
 (.skip)) <|
 .seq (.seq (.reg [
 ⟨.mov (.c (.int .i64 0)), .fr 8, none⟩]) <|
 .block 0 (.loop (.seq (.seq (.reg [
 ⟨.mov (.fr 8), .tm, none⟩,
 ⟨.mov (.fr 3), .tm, none⟩,
 ⟨.len false (.tm 0), .tm, none⟩,
 ⟨.bin .lss (.tm 2) (.tm 0), .fr 24, none⟩]) <|
 .cond (.fr 24)
 (.skip)
 (.exit 0)) <|
 .seq (.block 1 (.seq (.reg [
 ⟨.mov (.fr 3), .tm, none⟩,
 ⟨.mov (.fr 8), .tm, none⟩,
 ⟨.iaddr 8 (.tm 1) (.tm 0), .tm, none⟩,
 ⟨.loadn 8 (.tm 0), .tm, none⟩,
 ⟨.new 84 8 [(.int .u8 0), (.slice none 0 0), (.int .u8 0), (.int .u8 0), (.int .i64 0), (.int .i64 0), (.slice none 0 0), (.int .i64 0)], .fr 9, none⟩,
 ⟨.storen 8 (.fr 9) (.tm 0), .no, none⟩]) <|
 .seq (.reg [
 ⟨.faddr 1 (.fr 9), .tm, none⟩,
 ⟨.load1 (.tm 0), .tm, none⟩,
 ⟨.b2s (.tm 0), .tm, none⟩,
 ⟨.s2b 5 (.tm 0), .tm, none⟩,
 ⟨.mov (.tm 0), .fr 10, none⟩]) <|
 .seq (.seq (.reg [
 ⟨.faddr 0 (.fr 9), .tm, none⟩,
 ⟨.load1 (.tm 0), .tm, none⟩,
 ⟨.bin .rem (.tm 0) (.c (.int .u8 8)), .fr 25, none⟩]) <|
 .block 2 (.seq (.seq (.reg [
 ⟨.bin .eql (.fr 25) (.c (.int .u8 0)), .tm, none⟩,
 ⟨.mov (.tm 0), .fr 30, none⟩]) <|
 .cond (.fr 30)
 (.skip)
 (.seq (.reg [
 ⟨.bin .eql (.fr 25) (.c (.int .u8 1)), .tm, none⟩,
 ⟨.mov (.tm 0), .fr 30, none⟩]) <|
 .cond (.fr 30)
 (.skip)
 (.seq (.reg [
 ⟨.bin .eql (.fr 25) (.c (.int .u8 5)), .tm, none⟩,
 ⟨.mov (.tm 0), .fr 30, none⟩]) <|
 .cond (.fr 30)
 (.skip)
 (.seq (.reg [
 ⟨.bin .eql (.fr 25) (.c (.int .u8 6)), .tm, none⟩,
 ⟨.mov (.tm 0), .fr 30, none⟩]) <|
 .cond (.fr 30)
 (.skip)
 (.reg [
 ⟨.bin .eql (.fr 25) (.c (.int .u8 7)), .tm, none⟩,
 ⟨.mov (.tm 0), .fr 30, none⟩]))))) <|
 .cond (.fr 30)
 (.seq (.reg [
 ⟨.mov (.fr 5), .tm, none⟩,
 ⟨.mov (.fr 10), .tm, none⟩,
 ⟨.callf 34 [(.tm 1), (.tm 0)], .tm, none⟩,
 ⟨.mov (.tm 0), .tm, none⟩,
 ⟨.extract (.tm 0) 0, .tm, none⟩,
 ⟨.extract (.tm 1) 1, .tm, none⟩,
 ⟨.mov (.tm 1), .fr 11, none⟩,
 ⟨.mov (.tm 0), .fr 12, none⟩]) <|
 .seq (.reg [
 ⟨.mov (.fr 7), .tm, none⟩,
 ⟨.faddr 1 (.fr 9), .tm, none⟩,
 ⟨.load1 (.tm 0), .tm, none⟩,
 ⟨.b2s (.tm 0), .tm, none⟩,
 ⟨.callf 35 [(.tm 3), (.tm 0)], .tm, none⟩,
 ⟨.mov (.tm 0), .tm, none⟩,
 ⟨.extract (.tm 0) 0, .tm, none⟩,
 ⟨.extract (.tm 1) 1, .tm, none⟩,
 ⟨.mov (.tm 1), .fr 13, none⟩,
 ⟨.mov (.tm 0), .fr 14, none⟩]) <|
 .seq (.reg [
 ⟨.mov (.fr 12), .tm, none⟩,
 ⟨.mov (.fr 14), .tm, none⟩,
 ⟨.bin .neq (.tm 1) (.tm 0), .tm, none⟩,
 ⟨.mov (.tm 0), .tm, none⟩,
 ⟨.mov (.fr 11), .tm, some ((.tm 0), false)⟩,
 ⟨.b2s (.tm 0), .tm, some ((.tm 1), false)⟩,
 ⟨.mov (.fr 13), .tm, some ((.tm 2), false)⟩,
 ⟨.b2s (.tm 0), .tm, some ((.tm 3), false)⟩,
 ⟨.bin .neq (.tm 2) (.tm 0), .tm, some ((.tm 4), false)⟩,
 ⟨.pick (.tm 5) (.c (.bool true)) (.tm 0), .fr 31, none⟩]) <|
 .cond (.fr 31)
 (.seq (.reg [
 ⟨.mov (.c (.bool false)), .fr 4, none⟩]) <|
 .ret)
 (.skip))
 (.seq (.seq (.reg [
 ⟨.faddr 0 (.fr 9), .tm, none⟩,
 ⟨.load1 (.tm 0), .tm, none⟩,
 ⟨.bin .rem (.tm 0) (.c (.int .u8 8)), .tm, none⟩,
 ⟨.bin .eql (.tm 0) (.c (.int .u8 2)), .fr 26, none⟩]) <|
 .cond (.fr 26)
 (.reg [
 ⟨.faddr 2 (.fr 9), .tm, none⟩,
 ⟨.loadn 5 (.tm 0), .tm, none⟩,
 ⟨.callf 36 [(.tm 0)], .tm, none⟩,
 ⟨.mov (.tm 0), .fr 10, none⟩])
 (.skip)) <|
 .seq (.reg [
 ⟨.mov (.fr 10), .tm, none⟩,
 ⟨.b2s (.tm 0), .tm, none⟩,
 ⟨.mov (.tm 0), .fr 15, none⟩]) <|
 .seq (.reg [
 ⟨.mov (.fr 5), .tm, none⟩,
 ⟨.mov (.fr 10), .tm, none⟩,
 ⟨.callf 37 [(.tm 1), (.tm 0)], .tm, none⟩,
 ⟨.mov (.tm 0), .tm, none⟩,
 ⟨.extract (.tm 0) 0, .tm, none⟩,
 ⟨.extract (.tm 1) 1, .tm, none⟩,
 ⟨.mov (.tm 1), .fr 16, none⟩,
 ⟨.mov (.tm 0), .fr 17, none⟩]) <|
 .seq (.reg [
 ⟨.mov (.fr 7), .tm, none⟩,
 ⟨.mov (.fr 15), .tm, none⟩,
 ⟨.s2b 5 (.tm 0), .tm, none⟩,
 ⟨.callf 38 [(.tm 2), (.tm 0)], .tm, none⟩,
 ⟨.mov (.tm 0), .tm, none⟩,
 ⟨.extract (.tm 0) 0, .tm, none⟩,
 ⟨.extract (.tm 1) 1, .tm, none⟩,
 ⟨.mov (.tm 1), .fr 18, none⟩,
 ⟨.mov (.tm 0), .fr 19, none⟩]) <|
 .seq (.seq (.reg [
 ⟨.mov (.fr 17), .tm, none⟩,
 ⟨.mov (.fr 19), .tm, none⟩,
 ⟨.bin .neq (.tm 1) (.tm 0), .tm, none⟩,
 ⟨.mov (.tm 0), .tm, none⟩,
 ⟨.mov (.fr 16), .tm, some ((.tm 0), false)⟩,
 ⟨.b2s (.tm 0), .tm, some ((.tm 1), false)⟩,
 ⟨.mov (.fr 18), .tm, some ((.tm 2), false)⟩,
 ⟨.bin .neq (.tm 1) (.tm 0), .tm, some ((.tm 3), false)⟩,
 ⟨.pick (.tm 4) (.c (.bool true)) (.tm 0), .tm, none⟩,
 ⟨.mov (.tm 0), .tm, none⟩,
 ⟨.mov (.fr 10), .tm, some ((.tm 0), false)⟩,
 ⟨.b2s (.tm 0), .tm, some ((.tm 1), false)⟩,
 ⟨.mov (.fr 15), .tm, some ((.tm 2), false)⟩,
 ⟨.bin .neq (.tm 1) (.tm 0), .tm, some ((.tm 3), false)⟩,
 ⟨.pick (.tm 4) (.c (.bool true)) (.tm 0), .fr 27, none⟩]) <|
 .cond (.fr 27)
 (.seq (.reg [
 ⟨.mov (.c (.bool false)), .fr 4, none⟩]) <|
 .ret)
 (.skip)) <|
 .seq (.seq (.reg [
 ⟨.mov (.c (.int .i64 0)), .fr 20, none⟩]) <|
 .block 3 (.loop (.seq (.seq (.reg [
 ⟨.mov (.fr 20), .tm, none⟩,
 ⟨.mov (.fr 16), .tm, none⟩,
 ⟨.len false (.tm 0), .tm, none⟩,
 ⟨.bin .lss (.tm 2) (.tm 0), .fr 28, none⟩]) <|
 .cond (.fr 28)
 (.skip)
 (.exit 3)) <|
 .seq (.block 4 (.reg [
 ⟨.mov (.fr 16), .tm, none⟩,
 ⟨.mov (.fr 20), .tm, none⟩,
 ⟨.mov (.fr 16), .tm, none⟩,
 ⟨.mov (.fr 20), .tm, none⟩,
 ⟨.iaddr 1 (.tm 1) (.tm 0), .tm, none⟩,
 ⟨.load1 (.tm 0), .tm, none⟩,
 ⟨.bin .add (.tm 0) (.c (.int .u8 1)), .tm, none⟩,
 ⟨.iaddr 1 (.tm 6) (.tm 5), .tm, none⟩,
 ⟨.store1 (.tm 0) (.tm 1), .no, none⟩])) <|
 .reg [
 ⟨.mov (.fr 20), .tm, none⟩,
 ⟨.bin .add (.tm 0) (.c (.int .i64 1)), .tm, none⟩,
 ⟨.mov (.tm 0), .fr 20, none⟩]))) <|
 .seq (.reg [
 ⟨.mov (.fr 10), .tm, none⟩,
 ⟨.b2s (.tm 0), .tm, none⟩,
 ⟨.mov (.fr 15), .tm, none⟩,
 ⟨.bin .neq (.tm 1) (.tm 0), .fr 29, none⟩]) <|
 .cond (.fr 29)
 (.seq (.reg [
 ⟨.mov (.c (.bool false)), .fr 4, none⟩]) <|
 .ret)
 (.skip)))) <|
 .seq (.dreg [
 (⟨.mov (.fr 5), .tm, none⟩, []),
 (⟨.callf 39 [(.tm 0)], .tm, none⟩, []),
 (⟨.mov (.fr 7), .tm, none⟩, []),
 (⟨.nilck (.tm 0), .tm, none⟩, []),
 (⟨.faddr 2 (.tm 0), .tm, none⟩, []),
 (⟨.load1 (.tm 0), .tm, none⟩, [1]),
 (⟨.bin .neq (.tm 4) (.tm 0), .tm, none⟩, []),
 (⟨.mov (.tm 0), .tm, none⟩, []),
 (⟨.mov (.fr 5), .tm, some ((.tm 0), false)⟩, []),
 (⟨.callf 40 [(.tm 0)], .tm, some ((.tm 1), false)⟩, []),
 (⟨.mov (.fr 7), .tm, some ((.tm 2), false)⟩, []),
 (⟨.nilck (.tm 0), .tm, some ((.tm 3), false)⟩, []),
 (⟨.faddr 3 (.tm 0), .tm, some ((.tm 4), false)⟩, []),
 (⟨.load1 (.tm 0), .tm, some ((.tm 5), false)⟩, [9]),
 (⟨.bin .neq (.tm 4) (.tm 0), .tm, some ((.tm 6), false)⟩, []),
 (⟨.pick (.tm 7) (.c (.bool true)) (.tm 0), .tm, none⟩, []),
 (⟨.mov (.tm 0), .tm, none⟩, []),
 (⟨.mov (.fr 5), .tm, some ((.tm 0), false)⟩, []),
 (⟨.callf 41 [(.tm 0)], .tm, some ((.tm 1), false)⟩, []),
 (⟨.mov (.fr 7), .tm, some ((.tm 2), false)⟩, []),
 (⟨.nilck (.tm 0), .tm, some ((.tm 3), false)⟩, []),
 (⟨.faddr 4 (.tm 0), .tm, some ((.tm 4), false)⟩, []),
 (⟨.load1 (.tm 0), .tm, some ((.tm 5), false)⟩, [18]),
 (⟨.bin .neq (.tm 4) (.tm 0), .tm, some ((.tm 6), false)⟩, []),
 (⟨.pick (.tm 7) (.c (.bool true)) (.tm 0), .tm, none⟩, []),
 (⟨.mov (.tm 0), .tm, none⟩, []),
 (⟨.mov (.fr 5), .tm, some ((.tm 0), false)⟩, []),
 (⟨.callf 42 [(.tm 0)], .tm, some ((.tm 1), false)⟩, []),
 (⟨.mov (.fr 7), .tm, some ((.tm 2), false)⟩, []),
 (⟨.nilck (.tm 0), .tm, some ((.tm 3), false)⟩, []),
 (⟨.faddr 5 (.tm 0), .tm, some ((.tm 4), false)⟩, []),
 (⟨.load1 (.tm 0), .tm, some ((.tm 5), false)⟩, [27]),
 (⟨.bin .neq (.tm 4) (.tm 0), .tm, some ((.tm 6), false)⟩, []),
 (⟨.pick (.tm 7) (.c (.bool true)) (.tm 0), .fr 32, none⟩, [])]) <|
 .cond (.fr 32)
 (.seq (.reg [
 ⟨.mov (.c (.bool false)), .fr 4, none⟩]) <|
 .ret)
 (.skip))) <|
 .reg [
 ⟨.mov (.fr 8), .tm, none⟩,
 ⟨.bin .add (.tm 0) (.c (.int .i64 1)), .tm, none⟩,
 ⟨.mov (.tm 0), .fr 8, none⟩]))) <|
 .seq (.reg [
 ⟨.callf 31 [], .tm, none⟩,
 ⟨.mov (.tm 0), .fr 4, none⟩]) <|
 .ret, [.t 4]⟩
def f8 : AFunc := ⟨[0, 2, 3, 4, 5, 6, 7, 8, 9, 10, 11, 12, 13, 15, 22, 31, 51, 55, 66, 89, 93, 104, 113, 120],
 .seq (.reg [
 ⟨.mov (.c (.bool false)), .fr 1, none⟩]) <|
 .seq (.seq (.reg [
 ⟨.mov (.fr 0), .tm, none⟩,
 ⟨.callf 30 [(.tm 0)], .fr 13, none⟩]) <|
 .cond (.fr 13)
 (.seq (.reg [
 ⟨.callf 31 [], .tm, none⟩,
 ⟨.mov (.tm 0), .fr 1, none⟩]) <|
 .ret)
 (.skip)) <|
 .seq (.reg [
 ⟨.new 113 1 [(.slice none 0 0)], .fr 2, none⟩]) <|
 .seq (.reg [
 ⟨.build [(.slice none 0 0)] [], .tm, none⟩,
 ⟨.box 117 1 (.tm 0), .tm, none⟩,
 ⟨.mov (.tm 0), .fr 3, none⟩]) <|
 .seq (.seq (.reg [
 ⟨.mov (.c (.int .i64 0)), .fr 4, none⟩]) <|
 .block 0 (.loop (.seq (.seq (.reg [
 ⟨.mov (.fr 4), .tm, none⟩,
 ⟨.mov (.fr 0), .tm, none⟩,
 ⟨.len false (.tm 0), .tm, none⟩,
 ⟨.bin .lss (.tm 2) (.tm 0), .fr 14, none⟩]) <|
 .cond (.fr 14)
 (.skip)
 (.exit 0)) <|
 .seq (.block 1 (.seq (.reg [
 ⟨.mov (.fr 0), .tm, none⟩,
 ⟨.mov (.fr 4), .tm, none⟩,
 ⟨.iaddr 8 (.tm 1) (.tm 0), .tm, none⟩,
 ⟨.loadn 8 (.tm 0), .tm, none⟩,
 ⟨.new 84 8 [(.int .u8 0), (.slice none 0 0), (.int .u8 0), (.int .u8 0), (.int .i64 0), (.int .i64 0), (.slice none 0 0), (.int .i64 0)], .fr 5, none⟩,
 ⟨.storen 8 (.fr 5) (.tm 0), .no, none⟩]) <|
 .seq (.seq (.reg [
 ⟨.faddr 0 (.fr 5), .tm, none⟩,
 ⟨.load1 (.tm 0), .tm, none⟩,
 ⟨.bin .rem (.tm 0) (.c (.int .u8 8)), .fr 15, none⟩]) <|
 .block 2 (.seq (.reg [
 ⟨.bin .eql (.fr 15) (.c (.int .u8 6)), .tm, none⟩,
 ⟨.mov (.tm 0), .fr 18, none⟩]) <|
 .cond (.fr 18)
 (.seq (.reg [
 ⟨.faddr 7 (.fr 5), .tm, none⟩,
 ⟨.load1 (.tm 0), .tm, none⟩,
 ⟨.callf 55 [(.fr 2), (.tm 0)], .tm, none⟩,
 ⟨.mov (.tm 0), .tm, none⟩,
 ⟨.extract (.tm 0) 0, .tm, none⟩,
 ⟨.extract (.tm 1) 1, .tm, none⟩,
 ⟨.mov (.tm 1), .fr 6, none⟩,
 ⟨.mov (.tm 0), .fr 7, none⟩]) <|
 .seq (.reg [
 ⟨.mov (.fr 3), .tm, none⟩,
 ⟨.faddr 7 (.fr 5), .tm, none⟩,
 ⟨.load1 (.tm 0), .tm, none⟩,
 ⟨.callf 56 [(.tm 2), (.tm 0)], .tm, none⟩,
 ⟨.mov (.tm 0), .tm, none⟩,
 ⟨.extract (.tm 0) 0, .tm, none⟩,
 ⟨.extract (.tm 1) 1, .tm, none⟩,
 ⟨.mov (.tm 1), .fr 8, none⟩,
 ⟨.mov (.tm 0), .fr 9, none⟩]) <|
 .seq (.seq (.reg [
 ⟨.mov (.fr 7), .tm, none⟩,
 ⟨.mov (.fr 9), .tm, none⟩,
 ⟨.bin .neq (.tm 1) (.tm 0), .tm, none⟩,
 ⟨.mov (.tm 0), .tm, none⟩,
 ⟨.mov (.fr 6), .tm, some ((.tm 0), false)⟩,
 ⟨.b2s (.tm 0), .tm, some ((.tm 1), false)⟩,
 ⟨.mov (.fr 8), .tm, some ((.tm 2), false)⟩,
 ⟨.bin .neq (.tm 1) (.tm 0), .tm, some ((.tm 3), false)⟩,
 ⟨.pick (.tm 4) (.c (.bool true)) (.tm 0), .fr 19, none⟩]) <|
 .cond (.fr 19)
 (.seq (.reg [
 ⟨.mov (.c (.bool false)), .fr 1, none⟩]) <|
 .ret)
 (.skip)) <|
 .seq (.reg [
 ⟨.mov (.c (.int .i64 0)), .fr 10, none⟩]) <|
 .block 5 (.loop (.seq (.seq (.reg [
 ⟨.mov (.fr 10), .tm, none⟩,
 ⟨.mov (.fr 6), .tm, none⟩,
 ⟨.len false (.tm 0), .tm, none⟩,
 ⟨.bin .lss (.tm 2) (.tm 0), .fr 20, none⟩]) <|
 .cond (.fr 20)
 (.skip)
 (.exit 5)) <|
 .seq (.block 6 (.reg [
 ⟨.mov (.fr 6), .tm, none⟩,
 ⟨.mov (.fr 10), .tm, none⟩,
 ⟨.mov (.fr 6), .tm, none⟩,
 ⟨.mov (.fr 10), .tm, none⟩,
 ⟨.iaddr 1 (.tm 1) (.tm 0), .tm, none⟩,
 ⟨.load1 (.tm 0), .tm, none⟩,
 ⟨.bin .add (.tm 0) (.c (.int .u8 1)), .tm, none⟩,
 ⟨.iaddr 1 (.tm 6) (.tm 5), .tm, none⟩,
 ⟨.store1 (.tm 0) (.tm 1), .no, none⟩])) <|
 .reg [
 ⟨.mov (.fr 10), .tm, none⟩,
 ⟨.bin .add (.tm 0) (.c (.int .i64 1)), .tm, none⟩,
 ⟨.mov (.tm 0), .fr 10, none⟩])))
 (.seq (.reg [
 ⟨.bin .eql (.fr 15) (.c (.int .u8 7)), .tm, none⟩,
 ⟨.mov (.tm 0), .fr 21, none⟩]) <|
 .cond (.fr 21)
 (.seq (.dreg [
 (⟨.faddr 7 (.fr 5), .tm, none⟩, []),
 (⟨.load1 (.tm 0), .tm, none⟩, []),
 (⟨.callf 57 [(.fr 2), (.tm 0)], .tm, none⟩, []),
 (⟨.mov (.fr 3), .tm, none⟩, []),
 (⟨.faddr 7 (.fr 5), .tm, none⟩, []),
 (⟨.load1 (.tm 0), .tm, none⟩, [2]),
 (⟨.callf 58 [(.tm 2), (.tm 0)], .tm, none⟩, []),
 (⟨.bin .neq (.tm 4) (.tm 0), .fr 22, none⟩, [])]) <|
 .cond (.fr 22)
 (.seq (.reg [
 ⟨.mov (.c (.bool false)), .fr 1, none⟩]) <|
 .ret)
 (.skip))
 (.seq (.reg [
 ⟨.faddr 1 (.fr 5), .tm, none⟩,
 ⟨.load1 (.tm 0), .tm, none⟩,
 ⟨.b2s (.tm 0), .tm, none⟩,
 ⟨.s2b 5 (.tm 0), .tm, none⟩,
 ⟨.mov (.tm 0), .fr 11, none⟩]) <|
 .seq (.seq (.dreg [
 (⟨.mov (.fr 11), .tm, none⟩, []),
 (⟨.callf 59 [(.fr 2), (.tm 0)], .tm, none⟩, []),
 (⟨.mov (.fr 3), .tm, none⟩, []),
 (⟨.faddr 1 (.fr 5), .tm, none⟩, []),
 (⟨.load1 (.tm 0), .tm, none⟩, [1]),
 (⟨.b2s (.tm 0), .tm, none⟩, [1]),
 (⟨.callf 60 [(.tm 3), (.tm 0)], .tm, none⟩, []),
 (⟨.bin .neq (.tm 5) (.tm 0), .tm, none⟩, []),
 (⟨.mov (.tm 0), .tm, none⟩, []),
 (⟨.mov (.fr 11), .tm, some ((.tm 0), false)⟩, []),
 (⟨.b2s (.tm 0), .tm, some ((.tm 1), false)⟩, []),
 (⟨.faddr 1 (.fr 5), .tm, some ((.tm 2), false)⟩, []),
 (⟨.load1 (.tm 0), .tm, some ((.tm 3), false)⟩, []),
 (⟨.b2s (.tm 0), .tm, some ((.tm 4), false)⟩, []),
 (⟨.bin .neq (.tm 3) (.tm 0), .tm, some ((.tm 5), false)⟩, []),
 (⟨.pick (.tm 6) (.c (.bool true)) (.tm 0), .fr 16, none⟩, [])]) <|
 .cond (.fr 16)
 (.seq (.reg [
 ⟨.mov (.c (.bool false)), .fr 1, none⟩]) <|
 .ret)
 (.skip)) <|
 .seq (.reg [
 ⟨.mov (.c (.int .i64 0)), .fr 12, none⟩]) <|
 .block 3 (.loop (.seq (.seq (.reg [
 ⟨.mov (.fr 12), .tm, none⟩,
 ⟨.mov (.fr 11), .tm, none⟩,
 ⟨.len false (.tm 0), .tm, none⟩,
 ⟨.bin .lss (.tm 2) (.tm 0), .fr 17, none⟩]) <|
 .cond (.fr 17)
 (.skip)
 (.exit 3)) <|
 .seq (.block 4 (.reg [
 ⟨.mov (.fr 11), .tm, none⟩,
 ⟨.mov (.fr 12), .tm, none⟩,
 ⟨.mov (.fr 11), .tm, none⟩,
 ⟨.mov (.fr 12), .tm, none⟩,
 ⟨.iaddr 1 (.tm 1) (.tm 0), .tm, none⟩,
 ⟨.load1 (.tm 0), .tm, none⟩,
 ⟨.bin .add (.tm 0) (.c (.int .u8 1)), .tm, none⟩,
 ⟨.iaddr 1 (.tm 6) (.tm 5), .tm, none⟩,
 ⟨.store1 (.tm 0) (.tm 1), .no, none⟩])) <|
 .reg [
 ⟨.mov (.fr 12), .tm, none⟩,
 ⟨.bin .add (.tm 0) (.c (.int .i64 1)), .tm, none⟩,
 ⟨.mov (.tm 0), .fr 12, none⟩])))))) <|
 .seq (.dreg [
 (⟨.callf 61 [(.fr 2)], .tm, none⟩, []),
 (⟨.mov (.fr 3), .tm, none⟩, []),
 (⟨.nilck (.tm 0), .tm, none⟩, []),
 (⟨.faddr 0 (.tm 0), .tm, none⟩, []),
 (⟨.load1 (.tm 0), .tm, none⟩, [0]),
 (⟨.len false (.tm 0), .tm, none⟩, []),
 (⟨.bin .neq (.tm 5) (.tm 0), .fr 23, none⟩, [])]) <|
 .cond (.fr 23)
 (.seq (.reg [
 ⟨.mov (.c (.bool false)), .fr 1, none⟩]) <|
 .ret)
 (.skip))) <|
 .reg [
 ⟨.mov (.fr 4), .tm, none⟩,
 ⟨.bin .add (.tm 0) (.c (.int .i64 1)), .tm, none⟩,
 ⟨.mov (.tm 0), .fr 4, none⟩]))) <|
 .seq (.reg [
 ⟨.callf 31 [], .tm, none⟩,
 ⟨.mov (.tm 0), .fr 1, none⟩]) <|
 .ret, [.t 1]⟩
def f9 : AFunc := ⟨[0, 2, 3, 4, 5, 6, 7, 8, 9, 10, 11, 12, 13, 14, 15, 16, 17, 18, 19, 20, 21, 22, 23, 24, 25, 26, 28, 43, 47, 56, 64, 72, 98, 101, 112, 121, 131, 139, 147, 148, 164, 170, 177, 182],
 .seq (.reg [
 ⟨.mov (.c (.bool false)), .fr 1, none⟩]) <|
 .seq (.seq (.reg [
 ⟨.mov (.fr 0), .tm, none⟩,
 ⟨.callf 30 [(.tm 0)], .fr 26, none⟩]) <|
 .cond (.fr 26)
 (.seq (.reg [
 ⟨.callf 31 [], .tm, none⟩,
 ⟨.mov (.tm 0), .fr 1, none⟩]) <|
 .ret)
 (.skip)) <|
 .seq (.reg [
 ⟨.callf 32 [(.c (.int .u8 1)), (.c (.int .u8 2)), (.c (.int .i64 1))], .tm, none⟩,
 ⟨.mov (.tm 0), .tm, none⟩,
 ⟨.extract (.tm 0) 0, .tm, none⟩,
 ⟨.extract (.tm 1) 1, .tm, none⟩,
 ⟨.mov (.tm 1), .fr 2, none⟩,
 ⟨.mov (.tm 0), .fr 3, none⟩]) <|
 .seq (.reg [
 ⟨.callf 32 [(.c (.int .u8 2)), (.c (.int .u8 1)), (.c (.int .i64 1))], .tm, none⟩,
 ⟨.mov (.tm 0), .tm, none⟩,
 ⟨.extract (.tm 0) 0, .tm, none⟩,
 ⟨.extract (.tm 1) 1, .tm, none⟩,
 ⟨.mov (.tm 1), .fr 4, none⟩,
 ⟨.mov (.tm 0), .fr 5, none⟩]) <|
 .seq (.seq (.reg [
 ⟨.mov (.fr 3), .tm, none⟩,
 ⟨.bin .neq (.tm 0) (.c (.int .i64 0)), .tm, none⟩,
 ⟨.mov (.tm 0), .tm, none⟩,
 ⟨.mov (.fr 5), .tm, some ((.tm 0), false)⟩,
 ⟨.bin .neq (.tm 0) (.c (.int .i64 0)), .tm, some ((.tm 1), false)⟩,
 ⟨.pick (.tm 2) (.c (.bool true)) (.tm 0), .fr 27, none⟩]) <|
 .cond (.fr 27)
 (.seq (.reg [
 ⟨.mov (.c (.bool false)), .fr 1, none⟩]) <|
 .ret)
 (.skip)) <|
 .seq (.reg [
 ⟨.new 113 1 [(.slice none 0 0)], .fr 6, none⟩,
 ⟨.new 113 1 [(.slice none 0 0)], .fr 7, none⟩]) <|
 .seq (.reg [
 ⟨.mov (.c (.slice none 0 0)), .fr 8, none⟩]) <|
 .seq (.reg [
 ⟨.mov (.c (.int .i64 0)), .fr 9, none⟩]) <|
 .seq (.reg [
 ⟨.mov (.c (.int .i64 1)), .fr 10, none⟩]) <|
 .seq (.seq (.reg [
 ⟨.mov (.c (.int .i64 0)), .fr 11, none⟩]) <|
 .block 0 (.loop (.seq (.seq (.reg [
 ⟨.mov (.fr 11), .tm, none⟩,
 ⟨.mov (.fr 0), .tm, none⟩,
 ⟨.len false (.tm 0), .tm, none⟩,
 ⟨.bin .lss (.tm 2) (.tm 0), .fr 28, none⟩]) <|
 .cond (.fr 28)
 (.skip)
 (.exit 0)) <|
 .seq (.block 1 (.seq (.reg [
 ⟨.mov (.fr 0), .tm, none⟩,
 ⟨.mov (.fr 11), .tm, none⟩,
 ⟨.iaddr 8 (.tm 1) (.tm 0), .tm, none⟩,
 ⟨.loadn 8 (.tm 0), .tm, none⟩,
 ⟨.new 84 8 [(.int .u8 0), (.slice none 0 0), (.int .u8 0), (.int .u8 0), (.int .i64 0), (.int .i64 0), (.slice none 0 0), (.int .i64 0)], .fr 12, none⟩,
 ⟨.storen 8 (.fr 12) (.tm 0), .no, none⟩]) <|
 .seq (.reg [
 ⟨.faddr 0 (.fr 12), .tm, none⟩,
 ⟨.load1 (.tm 0), .tm, none⟩,
 ⟨.bin .rem (.tm 0) (.c (.int .u8 8)), .fr 29, none⟩]) <|
 .block 2 (.seq (.seq (.reg [
 ⟨.bin .eql (.fr 29) (.c (.int .u8 0)), .tm, none⟩,
 ⟨.mov (.tm 0), .fr 33, none⟩]) <|
 .cond (.fr 33)
 (.skip)
 (.reg [
 ⟨.bin .eql (.fr 29) (.c (.int .u8 1)), .tm, none⟩,
 ⟨.mov (.tm 0), .fr 33, none⟩])) <|
 .cond (.fr 33)
 (.seq (.reg [
 ⟨.mov (.fr 2), .tm, none⟩,
 ⟨.faddr 1 (.fr 12), .tm, none⟩,
 ⟨.load1 (.tm 0), .tm, none⟩,
 ⟨.callf 34 [(.tm 2), (.tm 0)], .tm, none⟩,
 ⟨.mov (.tm 0), .tm, none⟩,
 ⟨.extract (.tm 0) 0, .tm, none⟩,
 ⟨.extract (.tm 1) 1, .tm, none⟩,
 ⟨.mov (.tm 1), .fr 13, none⟩,
 ⟨.mov (.tm 0), .fr 14, none⟩]) <|
 .seq (.seq (.reg [
 ⟨.mov (.fr 14), .tm, none⟩,
 ⟨.bin .neq (.tm 0) (.c (.int .i64 0)), .fr 34, none⟩]) <|
 .cond (.fr 34)
 (.exit 1)
 (.skip)) <|
 .seq (.reg [
 ⟨.mov (.fr 8), .tm, none⟩,
 ⟨.faddr 1 (.fr 12), .tm, none⟩,
 ⟨.load1 (.tm 0), .tm, none⟩,
 ⟨.b2s (.tm 0), .tm, none⟩,
 ⟨.bslice 9 1 1 [(.string ByteArray.empty)] [(0, 1, (.tm 0))], .tm, none⟩,
 ⟨.app 9 1 16 (.tm 4) (.tm 0), .tm, none⟩,
 ⟨.mov (.tm 0), .fr 8, none⟩]) <|
 .reg [
 ⟨.mov (.fr 13), .tm, none⟩,
 ⟨.callf 59 [(.fr 6), (.tm 0)], .tm, none⟩])
 (.seq (.reg [
 ⟨.bin .eql (.fr 29) (.c (.int .u8 2)), .tm, none⟩,
 ⟨.mov (.tm 0), .fr 35, none⟩]) <|
 .cond (.fr 35)
 (.seq (.reg [
 ⟨.mov (.fr 4), .tm, none⟩,
 ⟨.faddr 1 (.fr 12), .tm, none⟩,
 ⟨.load1 (.tm 0), .tm, none⟩,
 ⟨.callf 34 [(.tm 2), (.tm 0)], .tm, none⟩,
 ⟨.mov (.tm 0), .tm, none⟩,
 ⟨.extract (.tm 0) 0, .tm, none⟩,
 ⟨.extract (.tm 1) 1, .tm, none⟩,
 ⟨.mov (.tm 1), .fr 15, none⟩,
 ⟨.mov (.tm 0), .fr 16, none⟩]) <|
 .seq (.seq (.reg [
 ⟨.mov (.fr 16), .tm, none⟩,
 ⟨.bin .eql (.tm 0) (.c (.int .i64 0)), .fr 36, none⟩]) <|
 .cond (.fr 36)
 (.reg [
 ⟨.mov (.fr 15), .tm, none⟩,
 ⟨.callf 59 [(.fr 7), (.tm 0)], .tm, none⟩])
 (.skip)) <|
 .seq (.reg [
 ⟨.callf 55 [(.fr 7), (.c (.int .i64 0))], .tm, none⟩,
 ⟨.mov (.tm 0), .tm, none⟩,
 ⟨.extract (.tm 0) 0, .tm, none⟩,
 ⟨.extract (.tm 1) 1, .tm, none⟩,
 ⟨.mov (.tm 1), .fr 17, none⟩,
 ⟨.mov (.tm 0), .fr 18, none⟩]) <|
 .seq (.seq (.reg [
 ⟨.mov (.fr 18), .tm, none⟩,
 ⟨.bin .eql (.tm 0) (.c (.int .i64 0)), .fr 37, none⟩]) <|
 .cond (.fr 37)
 (.reg [
 ⟨.mov (.fr 2), .tm, none⟩,
 ⟨.mov (.fr 17), .tm, none⟩,
 ⟨.callf 37 [(.tm 1), (.tm 0)], .tm, none⟩])
 (.skip)) <|
 .seq (.reg [
 ⟨.mov (.fr 2), .tm, none⟩,
 ⟨.callf 41 [(.tm 0)], .tm, none⟩,
 ⟨.mov (.fr 4), .tm, none⟩,
 ⟨.callf 40 [(.tm 0)], .tm, none⟩,
 ⟨.bin .gtr (.tm 2) (.tm 0), .fr 38, none⟩]) <|
 .cond (.fr 38)
 (.seq (.reg [
 ⟨.mov (.c (.bool false)), .fr 1, none⟩]) <|
 .ret)
 (.skip))
 (.seq (.reg [
 ⟨.bin .eql (.fr 29) (.c (.int .u8 3)), .tm, none⟩,
 ⟨.mov (.tm 0), .fr 39, none⟩]) <|
 .cond (.fr 39)
 (.seq (.dreg [
 (⟨.mov (.fr 2), .tm, none⟩, []),
 (⟨.callf 39 [(.tm 0)], .tm, none⟩, []),
 (⟨.bin .add (.tm 0) (.c (.int .i64 1)), .tm, none⟩, []),
 (⟨.faddr 0 (.fr 12), .tm, none⟩, []),
 (⟨.load1 (.tm 0), .tm, none⟩, [1]),
 (⟨.bin .quo (.tm 0) (.c (.int .u8 8)), .tm, none⟩, []),
 (⟨.i2i .i64 (.tm 0), .tm, none⟩, []),
 (⟨.bin .add (.tm 4) (.tm 0), .tm, none⟩, []),
 (⟨.mov (.tm 0), .fr 10, none⟩, [])]) <|
 .seq (.reg [
 ⟨.mov (.fr 10), .tm, none⟩,
 ⟨.callf 32 [(.c (.int .u8 1)), (.c (.int .u8 2)), (.tm 0)], .tm, none⟩,
 ⟨.mov (.tm 0), .tm, none⟩,
 ⟨.extract (.tm 0) 0, .tm, none⟩,
 ⟨.extract (.tm 1) 1, .tm, none⟩,
 ⟨.mov (.tm 1), .fr 19, none⟩,
 ⟨.mov (.tm 0), .fr 20, none⟩]) <|
 .seq (.seq (.reg [
 ⟨.mov (.fr 20), .tm, none⟩,
 ⟨.bin .neq (.tm 0) (.c (.int .i64 0)), .fr 40, none⟩]) <|
 .cond (.fr 40)
 (.seq (.reg [
 ⟨.mov (.c (.bool false)), .fr 1, none⟩]) <|
 .ret)
 (.skip)) <|
 .seq (.seq (.reg [
 ⟨.mov (.fr 2), .tm, none⟩,
 ⟨.callf 39 [(.tm 0)], .tm, none⟩,
 ⟨.bin .add (.tm 0) (.c (.int .i64 1)), .tm, none⟩,
 ⟨.mov (.tm 0), .fr 21, none⟩]) <|
 .block 3 (.loop (.seq (.seq (.reg [
 ⟨.mov (.fr 21), .tm, none⟩,
 ⟨.mov (.fr 10), .tm, none⟩,
 ⟨.bin .lss (.tm 1) (.tm 0), .fr 41, none⟩]) <|
 .cond (.fr 41)
 (.skip)
 (.exit 3)) <|
 .seq (.block 4 (.reg [
 ⟨.mov (.fr 8), .tm, none⟩,
 ⟨.bslice 9 1 1 [(.string ByteArray.empty)] [(0, 1, (.c (.string ⟨#[110, 111, 110, 101]⟩)))], .tm, none⟩,
 ⟨.app 9 1 16 (.tm 1) (.tm 0), .tm, none⟩,
 ⟨.mov (.tm 0), .fr 8, none⟩])) <|
 .reg [
 ⟨.mov (.fr 21), .tm, none⟩,
 ⟨.bin .add (.tm 0) (.c (.int .i64 1)), .tm, none⟩,
 ⟨.mov (.tm 0), .fr 21, none⟩]))) <|
 .reg [
 ⟨.mov (.fr 19), .tm, none⟩,
 ⟨.mov (.tm 0), .fr 2, none⟩])
 (.seq (.reg [
 ⟨.bin .eql (.fr 29) (.c (.int .u8 6)), .tm, none⟩,
 ⟨.mov (.tm 0), .fr 42, none⟩]) <|
 .cond (.fr 42)
 (.reg [
 ⟨.faddr 7 (.fr 12), .tm, none⟩,
 ⟨.load1 (.tm 0), .tm, none⟩,
 ⟨.callf 55 [(.fr 6), (.tm 0)], .tm, none⟩])
 (.seq (.reg [
 ⟨.bin .eql (.fr 29) (.c (.int .u8 7)), .tm, none⟩,
 ⟨.mov (.tm 0), .fr 43, none⟩]) <|
 .cond (.fr 43)
 (.reg [
 ⟨.faddr 7 (.fr 12), .tm, none⟩,
 ⟨.load1 (.tm 0), .tm, none⟩,
 ⟨.callf 57 [(.fr 6), (.tm 0)], .tm, none⟩])
 (.seq (.reg [
 ⟨.faddr 7 (.fr 12), .tm, none⟩,
 ⟨.load1 (.tm 0), .tm, none⟩,
 ⟨.callf 55 [(.fr 6), (.tm 0)], .tm, none⟩,
 ⟨.mov (.tm 0), .tm, none⟩,
 ⟨.extract (.tm 0) 0, .tm, none⟩,
 ⟨.extract (.tm 1) 1, .tm, none⟩,
 ⟨.mov (.tm 1), .fr 22, none⟩,
 ⟨.mov (.tm 0), .fr 23, none⟩]) <|
 .seq (.seq (.reg [
 ⟨.mov (.fr 23), .tm, none⟩,
 ⟨.bin .neq (.tm 0) (.c (.int .i64 0)), .fr 30, none⟩]) <|
 .cond (.fr 30)
 (.exit 1)
 (.skip)) <|
 .seq (.reg [
 ⟨.mov (.fr 4), .tm, none⟩,
 ⟨.mov (.fr 22), .tm, none⟩,
 ⟨.callf 37 [(.tm 1), (.tm 0)], .tm, none⟩,
 ⟨.mov (.tm 0), .tm, none⟩,
 ⟨.extract (.tm 0) 0, .tm, none⟩,
 ⟨.extract (.tm 1) 1, .tm, none⟩,
 ⟨.mov (.tm 1), .fr 24, none⟩,
 ⟨.mov (.tm 0), .fr 25, none⟩]) <|
 .seq (.seq (.reg [
 ⟨.mov (.fr 25), .tm, none⟩,
 ⟨.bin .eql (.tm 0) (.c (.int .i64 180)), .fr 31, none⟩]) <|
 .cond (.fr 31)
 (.exit 1)
 (.skip)) <|
 .seq (.seq (.dreg [
 (⟨.mov (.fr 25), .tm, none⟩, []),
 (⟨.bin .neq (.tm 0) (.c (.int .i64 0)), .tm, none⟩, []),
 (⟨.mov (.tm 0), .tm, none⟩, []),
 (⟨.mov (.fr 4), .tm, some ((.tm 0), false)⟩, []),
 (⟨.callf 40 [(.tm 0)], .tm, some ((.tm 1), false)⟩, []),
 (⟨.mov (.fr 9), .tm, some ((.tm 2), false)⟩, []),
 (⟨.bin .leq (.tm 1) (.tm 0), .tm, some ((.tm 3), false)⟩, []),
 (⟨.pick (.tm 4) (.c (.bool true)) (.tm 0), .tm, none⟩, []),
 (⟨.mov (.tm 0), .tm, none⟩, []),
 (⟨.mov (.fr 4), .tm, some ((.tm 0), false)⟩, []),
 (⟨.callf 40 [(.tm 0)], .tm, some ((.tm 1), false)⟩, []),
 (⟨.mov (.fr 8), .tm, some ((.tm 2), false)⟩, []),
 (⟨.len false (.tm 0), .tm, some ((.tm 3), false)⟩, []),
 (⟨.bin .gtr (.tm 2) (.tm 0), .tm, some ((.tm 4), false)⟩, []),
 (⟨.pick (.tm 5) (.c (.bool true)) (.tm 0), .tm, none⟩, []),
 (⟨.mov (.tm 0), .tm, none⟩, []),
 (⟨.mov (.fr 24), .tm, some ((.tm 0), false)⟩, []),
 (⟨.b2s (.tm 0), .tm, some ((.tm 1), false)⟩, []),
 (⟨.mov (.fr 8), .tm, some ((.tm 2), false)⟩, []),
 (⟨.mov (.fr 4), .tm, some ((.tm 3), false)⟩, []),
 (⟨.callf 40 [(.tm 0)], .tm, some ((.tm 4), false)⟩, [17]),
 (⟨.bin .sub (.tm 0) (.c (.int .i64 1)), .tm, some ((.tm 5), false)⟩, []),
 (⟨.iaddr 1 (.tm 3) (.tm 0), .tm, some ((.tm 6), false)⟩, []),
 (⟨.load1 (.tm 0), .tm, some ((.tm 7), false)⟩, []),
 (⟨.bin .neq (.tm 6) (.tm 0), .tm, some ((.tm 8), false)⟩, []),
 (⟨.pick (.tm 9) (.c (.bool true)) (.tm 0), .fr 32, none⟩, [])]) <|
 .cond (.fr 32)
 (.seq (.reg [
 ⟨.mov (.c (.bool false)), .fr 1, none⟩]) <|
 .ret)
 (.skip)) <|
 .reg [
 ⟨.mov (.fr 4), .tm, none⟩,
 ⟨.callf 40 [(.tm 0)], .tm, none⟩,
 ⟨.mov (.tm 0), .fr 9, none⟩])))))))) <|
 .reg [
 ⟨.mov (.fr 11), .tm, none⟩,
 ⟨.bin .add (.tm 0) (.c (.int .i64 1)), .tm, none⟩,
 ⟨.mov (.tm 0), .fr 11, none⟩]))) <|
 .seq (.reg [
 ⟨.mov (.fr 4), .tm, none⟩,
 ⟨.callf 42 [(.tm 0)], .tm, none⟩,
 ⟨.mov (.fr 4), .tm, none⟩,
 ⟨.callf 40 [(.tm 0)], .tm, none⟩,
 ⟨.bin .leq (.tm 2) (.tm 0), .tm, none⟩,
 ⟨.mov (.tm 0), .tm, none⟩,
 ⟨.callf 31 [], .tm, some ((.tm 0), true)⟩,
 ⟨.pick (.tm 1) (.tm 0) (.c (.bool false)), .tm, none⟩,
 ⟨.mov (.tm 0), .fr 1, none⟩]) <|
 .ret, [.t 1]⟩
def f30 : AFunc := ⟨[0, 2, 3, 4, 7, 11, 34],
 .seq (.reg [
 ⟨.mov (.c (.bool false)), .fr 1, none⟩]) <|
 .seq (.seq (.reg [
 ⟨.mov (.fr 0), .tm, none⟩,
 ⟨.len false (.tm 0), .tm, none⟩,
 ⟨.bin .gtr (.tm 0) (.c (.int .i64 200)), .fr 4, none⟩]) <|
 .cond (.fr 4)
 (.seq (.reg [
 ⟨.mov (.c (.bool true)), .fr 1, none⟩]) <|
 .ret)
 (.skip)) <|
 .seq (.reg [
 ⟨.mov (.c (.int .i64 0)), .fr 2, none⟩]) <|
 .seq (.seq (.reg [
 ⟨.mov (.c (.int .i64 0)), .fr 3, none⟩]) <|
 .block 0 (.loop (.seq (.seq (.reg [
 ⟨.mov (.fr 3), .tm, none⟩,
 ⟨.mov (.fr 0), .tm, none⟩,
 ⟨.len false (.tm 0), .tm, none⟩,
 ⟨.bin .lss (.tm 2) (.tm 0), .fr 5, none⟩]) <|
 .cond (.fr 5)
 (.skip)
 (.exit 0)) <|
 .seq (.block 1 (.seq (.seq (.reg [
 ⟨.mov (.fr 0), .tm, none⟩,
 ⟨.mov (.fr 3), .tm, none⟩,
 ⟨.iaddr 8 (.tm 1) (.tm 0), .tm, none⟩,
 ⟨.faddr 1 (.tm 0), .tm, none⟩,
 ⟨.load1 (.tm 0), .tm, none⟩,
 ⟨.len false (.tm 0), .tm, none⟩,
 ⟨.mov (.fr 2), .tm, none⟩,
 ⟨.bin .sub (.c (.int .i64 6000)) (.tm 0), .tm, none⟩,
 ⟨.bin .gtr (.tm 2) (.tm 0), .tm, none⟩,
 ⟨.mov (.tm 0), .tm, none⟩,
 ⟨.mov (.fr 0), .tm, some ((.tm 0), false)⟩,
 ⟨.mov (.fr 3), .tm, some ((.tm 1), false)⟩,
 ⟨.iaddr 8 (.tm 1) (.tm 0), .tm, some ((.tm 2), false)⟩,
 ⟨.faddr 2 (.tm 0), .tm, some ((.tm 3), false)⟩,
 ⟨.faddr 4 (.tm 0), .tm, some ((.tm 4), false)⟩,
 ⟨.load1 (.tm 0), .tm, some ((.tm 5), false)⟩,
 ⟨.len false (.tm 0), .tm, some ((.tm 6), false)⟩,
 ⟨.mov (.fr 2), .tm, some ((.tm 7), false)⟩,
 ⟨.bin .sub (.c (.int .i64 6000)) (.tm 0), .tm, some ((.tm 8), false)⟩,
 ⟨.bin .gtr (.tm 2) (.tm 0), .tm, some ((.tm 9), false)⟩,
 ⟨.pick (.tm 10) (.c (.bool true)) (.tm 0), .fr 6, none⟩]) <|
 .cond (.fr 6)
 (.seq (.reg [
 ⟨.mov (.c (.bool true)), .fr 1, none⟩]) <|
 .ret)
 (.skip)) <|
 .dreg [
 (⟨.mov (.fr 2), .tm, none⟩, []),
 (⟨.mov (.fr 0), .tm, none⟩, []),
 (⟨.mov (.fr 3), .tm, none⟩, []),
 (⟨.iaddr 8 (.tm 1) (.tm 0), .tm, none⟩, []),
 (⟨.faddr 1 (.tm 0), .tm, none⟩, []),
 (⟨.load1 (.tm 0), .tm, none⟩, []),
 (⟨.len false (.tm 0), .tm, none⟩, []),
 (⟨.bin .add (.tm 6) (.tm 0), .tm, none⟩, []),
 (⟨.mov (.fr 0), .tm, none⟩, []),
 (⟨.mov (.fr 3), .tm, none⟩, []),
 (⟨.iaddr 8 (.tm 1) (.tm 0), .tm, none⟩, []),
 (⟨.faddr 2 (.tm 0), .tm, none⟩, []),
 (⟨.faddr 4 (.tm 0), .tm, none⟩, []),
 (⟨.load1 (.tm 0), .tm, none⟩, []),
 (⟨.len false (.tm 0), .tm, none⟩, []),
 (⟨.bin .add (.tm 7) (.tm 0), .tm, none⟩, []),
 (⟨.mov (.tm 0), .fr 2, none⟩, [])])) <|
 .reg [
 ⟨.mov (.fr 3), .tm, none⟩,
 ⟨.bin .add (.tm 0) (.c (.int .i64 1)), .tm, none⟩,
 ⟨.mov (.tm 0), .fr 3, none⟩]))) <|
 .seq (.reg [
 ⟨.mov (.fr 2), .tm, none⟩,
 ⟨.bin .gtr (.tm 0) (.c (.int .i64 6000)), .tm, none⟩,
 ⟨.mov (.tm 0), .fr 1, none⟩]) <|
 .ret, [.t 1]⟩
def f31 : AFunc := ⟨[0, 1, 2, 3, 4, 5, 7, 9, 10, 11, 12, 13, 16, 30],
 .seq (.reg [
 ⟨.mov (.c (.bool false)), .fr 0, none⟩]) <|
 .seq (.reg [
 ⟨.callf 32 [(.c (.int .u8 1)), (.c (.int .u8 2)), (.c (.int .i64 1))], .tm, none⟩,
 ⟨.mov (.tm 0), .tm, none⟩,
 ⟨.extract (.tm 0) 0, .tm, none⟩,
 ⟨.extract (.tm 1) 1, .tm, none⟩,
 ⟨.mov (.tm 1), .fr 1, none⟩,
 ⟨.mov (.tm 0), .fr 2, none⟩]) <|
 .seq (.reg [
 ⟨.callf 32 [(.c (.int .u8 2)), (.c (.int .u8 1)), (.c (.int .i64 1))], .tm, none⟩,
 ⟨.mov (.tm 0), .tm, none⟩,
 ⟨.extract (.tm 0) 0, .tm, none⟩,
 ⟨.extract (.tm 1) 1, .tm, none⟩,
 ⟨.mov (.tm 1), .fr 3, none⟩,
 ⟨.mov (.tm 0), .fr 4, none⟩]) <|
 .seq (.seq (.reg [
 ⟨.mov (.fr 2), .tm, none⟩,
 ⟨.bin .neq (.tm 0) (.c (.int .i64 0)), .tm, none⟩,
 ⟨.mov (.tm 0), .tm, none⟩,
 ⟨.mov (.fr 4), .tm, some ((.tm 0), false)⟩,
 ⟨.bin .neq (.tm 0) (.c (.int .i64 0)), .tm, some ((.tm 1), false)⟩,
 ⟨.pick (.tm 2) (.c (.bool true)) (.tm 0), .fr 13, none⟩]) <|
 .cond (.fr 13)
 (.seq (.reg [
 ⟨.mov (.c (.bool false)), .fr 0, none⟩]) <|
 .ret)
 (.skip)) <|
 .seq (.reg [
 ⟨.mov (.fr 1), .tm, none⟩,
 ⟨.bslice 5 1 1 [(.int .u8 0)] [(0, 1, (.c (.int .u8 97)))], .tm, none⟩,
 ⟨.mark (.tm 0), .tm, none⟩,
 ⟨.callf 34 [(.tm 2), (.tm 0)], .tm, none⟩,
 ⟨.mov (.tm 0), .tm, none⟩,
 ⟨.extract (.tm 0) 0, .tm, none⟩,
 ⟨.extract (.tm 1) 1, .tm, none⟩,
 ⟨.mov (.tm 1), .fr 5, none⟩,
 ⟨.mov (.tm 0), .tm, none⟩]) <|
 .seq (.reg [
 ⟨.mov (.fr 1), .tm, none⟩,
 ⟨.bslice 5 1 1 [(.int .u8 0)] [(0, 1, (.c (.int .u8 98)))], .tm, none⟩,
 ⟨.mark (.tm 0), .tm, none⟩,
 ⟨.callf 34 [(.tm 2), (.tm 0)], .tm, none⟩,
 ⟨.mov (.tm 0), .tm, none⟩,
 ⟨.extract (.tm 0) 0, .tm, none⟩,
 ⟨.extract (.tm 1) 1, .tm, none⟩,
 ⟨.mov (.tm 1), .fr 6, none⟩,
 ⟨.mov (.tm 0), .tm, none⟩]) <|
 .seq (.reg [
 ⟨.mov (.fr 3), .tm, none⟩,
 ⟨.mov (.fr 6), .tm, none⟩,
 ⟨.callf 37 [(.tm 1), (.tm 0)], .tm, none⟩,
 ⟨.mov (.tm 0), .tm, none⟩,
 ⟨.extract (.tm 0) 0, .tm, none⟩,
 ⟨.extract (.tm 1) 1, .tm, none⟩,
 ⟨.mov (.tm 1), .fr 7, none⟩,
 ⟨.mov (.tm 0), .fr 8, none⟩]) <|
 .seq (.reg [
 ⟨.mov (.fr 3), .tm, none⟩,
 ⟨.mov (.fr 5), .tm, none⟩,
 ⟨.callf 37 [(.tm 1), (.tm 0)], .tm, none⟩,
 ⟨.mov (.tm 0), .tm, none⟩,
 ⟨.extract (.tm 0) 0, .tm, none⟩,
 ⟨.extract (.tm 1) 1, .tm, none⟩,
 ⟨.mov (.tm 1), .fr 9, none⟩,
 ⟨.mov (.tm 0), .fr 10, none⟩]) <|
 .seq (.reg [
 ⟨.mov (.fr 3), .tm, none⟩,
 ⟨.callf 34 [(.tm 0), (.c (.slice none 0 0))], .tm, none⟩,
 ⟨.mov (.tm 0), .tm, none⟩,
 ⟨.extract (.tm 0) 0, .tm, none⟩,
 ⟨.extract (.tm 1) 1, .tm, none⟩,
 ⟨.mov (.tm 1), .fr 11, none⟩,
 ⟨.mov (.tm 0), .tm, none⟩]) <|
 .seq (.reg [
 ⟨.mov (.fr 1), .tm, none⟩,
 ⟨.mov (.fr 11), .tm, none⟩,
 ⟨.callf 37 [(.tm 1), (.tm 0)], .tm, none⟩,
 ⟨.mov (.tm 0), .tm, none⟩,
 ⟨.extract (.tm 0) 0, .tm, none⟩,
 ⟨.extract (.tm 1) 1, .tm, none⟩,
 ⟨.mov (.tm 1), .tm, none⟩,
 ⟨.mov (.tm 1), .fr 12, none⟩]) <|
 .seq (.reg [
 ⟨.mov (.fr 7), .tm, none⟩,
 ⟨.b2s (.tm 0), .tm, none⟩,
 ⟨.bin .eql (.tm 0) (.c (.string ⟨#[98]⟩)), .tm, none⟩,
 ⟨.mov (.tm 0), .tm, none⟩,
 ⟨.mov (.fr 8), .tm, some ((.tm 0), true)⟩,
 ⟨.bin .eql (.tm 0) (.c (.int .i64 0)), .tm, some ((.tm 1), true)⟩,
 ⟨.pick (.tm 2) (.tm 0) (.c (.bool false)), .tm, none⟩,
 ⟨.mov (.tm 0), .tm, none⟩,
 ⟨.mov (.fr 9), .tm, some ((.tm 0), true)⟩,
 ⟨.len false (.tm 0), .tm, some ((.tm 1), true)⟩,
 ⟨.bin .eql (.tm 0) (.c (.int .i64 0)), .tm, some ((.tm 2), true)⟩,
 ⟨.pick (.tm 3) (.tm 0) (.c (.bool false)), .tm, none⟩,
 ⟨.mov (.tm 0), .tm, none⟩,
 ⟨.mov (.fr 10), .tm, some ((.tm 0), true)⟩,
 ⟨.bin .eql (.tm 0) (.c (.int .i64 180)), .tm, some ((.tm 1), true)⟩,
 ⟨.pick (.tm 2) (.tm 0) (.c (.bool false)), .tm, none⟩,
 ⟨.mov (.tm 0), .tm, none⟩,
 ⟨.mov (.fr 3), .tm, some ((.tm 0), true)⟩,
 ⟨.callf 40 [(.tm 0)], .tm, some ((.tm 1), true)⟩,
 ⟨.bin .eql (.tm 0) (.c (.int .i64 2)), .tm, some ((.tm 2), true)⟩,
 ⟨.pick (.tm 3) (.tm 0) (.c (.bool false)), .tm, none⟩,
 ⟨.mov (.tm 0), .tm, none⟩,
 ⟨.mov (.fr 12), .tm, some ((.tm 0), true)⟩,
 ⟨.bin .eql (.tm 0) (.c (.int .i64 0)), .tm, some ((.tm 1), true)⟩,
 ⟨.pick (.tm 2) (.tm 0) (.c (.bool false)), .tm, none⟩,
 ⟨.mov (.tm 0), .tm, none⟩,
 ⟨.mov (.fr 1), .tm, some ((.tm 0), true)⟩,
 ⟨.callf 41 [(.tm 0)], .tm, some ((.tm 1), true)⟩,
 ⟨.bin .eql (.tm 0) (.c (.int .i64 2)), .tm, some ((.tm 2), true)⟩,
 ⟨.pick (.tm 3) (.tm 0) (.c (.bool false)), .tm, none⟩,
 ⟨.mov (.tm 0), .tm, none⟩,
 ⟨.mov (.fr 1), .tm, some ((.tm 0), true)⟩,
 ⟨.callf 39 [(.tm 0)], .tm, some ((.tm 1), true)⟩,
 ⟨.bin .eql (.tm 0) (.c (.int .i64 2)), .tm, some ((.tm 2), true)⟩,
 ⟨.pick (.tm 3) (.tm 0) (.c (.bool false)), .tm, none⟩,
 ⟨.mov (.tm 0), .fr 0, none⟩]) <|
 .ret, [.t 0]⟩
def f32 : AFunc := ⟨[0, 1, 2, 6, 7, 18],
 .seq (.reg [
 ⟨.mov (.c (.pointer none)), .fr 3, none⟩,
 ⟨.mov (.c (.int .i64 0)), .fr 4, none⟩]) <|
 .seq (.seq (.reg [
 ⟨.mov (.fr 0), .tm, none⟩,
 ⟨.mov (.fr 1), .tm, none⟩,
 ⟨.bin .eql (.tm 1) (.tm 0), .tm, none⟩,
 ⟨.mov (.tm 0), .tm, none⟩,
 ⟨.mov (.fr 2), .tm, some ((.tm 0), false)⟩,
 ⟨.bin .lss (.tm 0) (.c (.int .i64 1)), .tm, some ((.tm 1), false)⟩,
 ⟨.pick (.tm 2) (.c (.bool true)) (.tm 0), .tm, none⟩,
 ⟨.mov (.tm 0), .tm, none⟩,
 ⟨.mov (.fr 2), .tm, some ((.tm 0), false)⟩,
 ⟨.bin .gtr (.tm 0) (.c (.int .i64 2305843009213693952)), .tm, some ((.tm 1), false)⟩,
 ⟨.pick (.tm 2) (.c (.bool true)) (.tm 0), .fr 5, none⟩]) <|
 .cond (.fr 5)
 (.seq (.reg [
 ⟨.mov (.c (.pointer none)), .fr 3, none⟩,
 ⟨.mov (.c (.int .i64 2)), .fr 4, none⟩]) <|
 .ret)
 (.skip)) <|
 .seq (.reg [
 ⟨.mov (.fr 0), .tm, none⟩,
 ⟨.mov (.fr 1), .tm, none⟩,
 ⟨.mov (.fr 2), .tm, none⟩,
 ⟨.bin .sub (.tm 0) (.c (.int .i64 1)), .tm, none⟩,
 ⟨.build [(.int .u8 0), (.int .u8 0), (.int .i64 0), (.int .i64 0), (.slice none 0 0)] [(0, 1, (.tm 3)), (1, 1, (.tm 2)), (2, 1, (.tm 0))], .tm, none⟩,
 ⟨.build [(.int .u8 0), (.int .u8 0), (.int .i64 0), (.int .i64 0), (.slice none 0 0), (.int .i64 0), (.int .i64 0)] [(0, 5, (.tm 0))], .tm, none⟩,
 ⟨.box 145 7 (.tm 0), .tm, none⟩,
 ⟨.mov (.tm 0), .fr 3, none⟩,
 ⟨.mov (.c (.int .i64 0)), .fr 4, none⟩]) <|
 .ret, [.t 3, .t 4]⟩
def f34 : AFunc := ⟨[0, 1, 4, 5, 6, 7, 10],
 .seq (.reg [
 ⟨.mov (.c (.slice none 0 0)), .fr 2, none⟩,
 ⟨.mov (.c (.int .i64 0)), .fr 3, none⟩]) <|
 .seq (.block 0 (.seq (.reg [
 ⟨.mov (.fr 0), .tm, none⟩,
 ⟨.eqv 1 false (.tm 0) (.c (.pointer none)), .tm, none⟩,
 ⟨.mov (.tm 0), .fr 5, none⟩]) <|
 .cond (.fr 5)
 (.seq (.reg [
 ⟨.mov (.c (.slice none 0 0)), .fr 2, none⟩,
 ⟨.mov (.c (.int .i64 1)), .fr 3, none⟩]) <|
 .ret)
 (.seq (.reg [
 ⟨.mov (.fr 1), .tm, none⟩,
 ⟨.len false (.tm 0), .tm, none⟩,
 ⟨.bin .gtr (.tm 0) (.c (.int .i64 2048)), .tm, none⟩,
 ⟨.mov (.tm 0), .tm, none⟩,
 ⟨.mov (.fr 0), .tm, some ((.tm 0), false)⟩,
 ⟨.nilck (.tm 0), .tm, some ((.tm 1), false)⟩,
 ⟨.faddr 0 (.tm 0), .tm, some ((.tm 2), false)⟩,
 ⟨.faddr 2 (.tm 0), .tm, some ((.tm 3), false)⟩,
 ⟨.load1 (.tm 0), .tm, some ((.tm 4), false)⟩,
 ⟨.bin .geq (.tm 0) (.c (.int .i64 4611686018427387904)), .tm, some ((.tm 5), false)⟩,
 ⟨.pick (.tm 6) (.c (.bool true)) (.tm 0), .tm, none⟩,
 ⟨.mov (.tm 0), .fr 6, none⟩]) <|
 .cond (.fr 6)
 (.seq (.reg [
 ⟨.mov (.c (.slice none 0 0)), .fr 2, none⟩,
 ⟨.mov (.c (.int .i64 3)), .fr 3, none⟩]) <|
 .ret)
 (.skip)))) <|
 .seq (.reg [
 ⟨.mov (.fr 0), .tm, none⟩,
 ⟨.nilck (.tm 0), .tm, none⟩,
 ⟨.faddr 0 (.tm 0), .tm, none⟩,
 ⟨.faddr 2 (.tm 0), .tm, none⟩,
 ⟨.load1 (.tm 0), .tm, none⟩,
 ⟨.bin .add (.tm 0) (.c (.int .i64 1)), .tm, none⟩,
 ⟨.nilck (.tm 5), .tm, none⟩,
 ⟨.faddr 0 (.tm 0), .tm, none⟩,
 ⟨.faddr 2 (.tm 0), .tm, none⟩,
 ⟨.store1 (.tm 0) (.tm 3), .no, none⟩]) <|
 .seq (.reg [
 ⟨.mov (.fr 0), .tm, none⟩,
 ⟨.nilck (.tm 0), .tm, none⟩,
 ⟨.faddr 0 (.tm 0), .tm, none⟩,
 ⟨.loadn 5 (.tm 0), .tm, none⟩,
 ⟨.new 65 5 [(.int .u8 0), (.int .u8 0), (.int .i64 0), (.int .i64 0), (.slice none 0 0)], .fr 4, none⟩,
 ⟨.storen 5 (.fr 4) (.tm 0), .no, none⟩]) <|
 .seq (.reg [
 ⟨.mov (.fr 1), .tm, none⟩,
 ⟨.faddr 4 (.fr 4), .tm, none⟩,
 ⟨.store1 (.tm 0) (.tm 1), .no, none⟩]) <|
 .seq (.reg [
 ⟨.loadn 5 (.fr 4), .tm, none⟩,
 ⟨.callf 36 [(.tm 0)], .tm, none⟩,
 ⟨.mov (.tm 0), .fr 2, none⟩,
 ⟨.mov (.c (.int .i64 0)), .fr 3, none⟩]) <|
 .ret, [.t 2, .t 3]⟩
def f37 : AFunc := ⟨[0, 1, 4, 5, 6, 7, 9, 15, 19, 38, 52, 82],
 .seq (.reg [
 ⟨.mov (.c (.slice none 0 0)), .fr 2, none⟩,
 ⟨.mov (.c (.int .i64 0)), .fr 3, none⟩]) <|
 .seq (.seq (.reg [
 ⟨.mov (.fr 0), .tm, none⟩,
 ⟨.eqv 1 false (.tm 0) (.c (.pointer none)), .fr 6, none⟩]) <|
 .cond (.fr 6)
 (.seq (.reg [
 ⟨.mov (.c (.slice none 0 0)), .fr 2, none⟩,
 ⟨.mov (.c (.int .i64 1)), .fr 3, none⟩]) <|
 .ret)
 (.skip)) <|
 .seq (.reg [
 ⟨.mov (.fr 1), .tm, none⟩,
 ⟨.callf 24 [(.tm 0)], .tm, none⟩,
 ⟨.mov (.tm 0), .tm, none⟩,
 ⟨.extract (.tm 0) 0, .tm, none⟩,
 ⟨.extract (.tm 1) 1, .tm, none⟩,
 ⟨.new 65 5 [(.int .u8 0), (.int .u8 0), (.int .i64 0), (.int .i64 0), (.slice none 0 0)], .fr 4, none⟩,
 ⟨.storen 5 (.fr 4) (.tm 1), .no, none⟩,
 ⟨.mov (.tm 0), .fr 5, none⟩]) <|
 .seq (.block 0 (.seq (.reg [
 ⟨.mov (.fr 5), .tm, none⟩,
 ⟨.bin .neq (.tm 0) (.c (.int .i64 0)), .tm, none⟩,
 ⟨.mov (.tm 0), .fr 7, none⟩]) <|
 .cond (.fr 7)
 (.seq (.reg [
 ⟨.mov (.fr 5), .tm, none⟩,
 ⟨.mov (.c (.slice none 0 0)), .fr 2, none⟩,
 ⟨.mov (.tm 0), .fr 3, none⟩]) <|
 .ret)
 (.seq (.dreg [
 (⟨.faddr 0 (.fr 4), .tm, none⟩, []),
 (⟨.load1 (.tm 0), .tm, none⟩, []),
 (⟨.mov (.fr 0), .tm, none⟩, []),
 (⟨.nilck (.tm 0), .tm, none⟩, []),
 (⟨.faddr 0 (.tm 0), .tm, none⟩, []),
 (⟨.faddr 1 (.tm 0), .tm, none⟩, []),
 (⟨.load1 (.tm 0), .tm, none⟩, []),
 (⟨.bin .neq (.tm 5) (.tm 0), .tm, none⟩, []),
 (⟨.mov (.tm 0), .tm, none⟩, []),
 (⟨.faddr 1 (.fr 4), .tm, some ((.tm 0), false)⟩, []),
 (⟨.load1 (.tm 0), .tm, some ((.tm 1), false)⟩, []),
 (⟨.mov (.fr 0), .tm, some ((.tm 2), false)⟩, []),
 (⟨.nilck (.tm 0), .tm, some ((.tm 3), false)⟩, []),
 (⟨.faddr 0 (.tm 0), .tm, some ((.tm 4), false)⟩, []),
 (⟨.faddr 0 (.tm 0), .tm, some ((.tm 5), false)⟩, []),
 (⟨.load1 (.tm 0), .tm, some ((.tm 6), false)⟩, []),
 (⟨.bin .neq (.tm 5) (.tm 0), .tm, some ((.tm 7), false)⟩, []),
 (⟨.pick (.tm 8) (.c (.bool true)) (.tm 0), .tm, none⟩, []),
 (⟨.mov (.tm 0), .fr 8, none⟩, [])]) <|
 .cond (.fr 8)
 (.seq (.reg [
 ⟨.mov (.c (.slice none 0 0)), .fr 2, none⟩,
 ⟨.mov (.c (.int .i64 2)), .fr 3, none⟩]) <|
 .ret)
 (.seq (.dreg [
 (⟨.faddr 2 (.fr 4), .tm, none⟩, []),
 (⟨.load1 (.tm 0), .tm, none⟩, []),
 (⟨.mov (.fr 0), .tm, none⟩, []),
 (⟨.nilck (.tm 0), .tm, none⟩, []),
 (⟨.faddr 0 (.tm 0), .tm, none⟩, []),
 (⟨.faddr 3 (.tm 0), .tm, none⟩, []),
 (⟨.load1 (.tm 0), .tm, none⟩, []),
 (⟨.bin .leq (.tm 5) (.tm 0), .tm, none⟩, []),
 (⟨.mov (.tm 0), .fr 9, none⟩, [])]) <|
 .cond (.fr 9)
 (.seq (.reg [
 ⟨.mov (.c (.slice none 0 0)), .fr 2, none⟩,
 ⟨.mov (.c (.int .i64 180)), .fr 3, none⟩]) <|
 .ret)
 (.skip))))) <|
 .seq (.seq (.reg [
 ⟨.mov (.fr 0), .tm, none⟩,
 ⟨.nilck (.tm 0), .tm, none⟩,
 ⟨.faddr 0 (.tm 0), .tm, none⟩,
 ⟨.faddr 3 (.tm 0), .tm, none⟩,
 ⟨.load1 (.tm 0), .tm, none⟩,
 ⟨.bin .gtr (.tm 0) (.c (.int .i64 0)), .fr 10, none⟩]) <|
 .cond (.fr 10)
 (.dreg [
 (⟨.mov (.fr 0), .tm, none⟩, []),
 (⟨.nilck (.tm 0), .tm, none⟩, []),
 (⟨.faddr 6 (.tm 0), .tm, none⟩, []),
 (⟨.load1 (.tm 0), .tm, none⟩, []),
 (⟨.faddr 2 (.fr 4), .tm, none⟩, []),
 (⟨.load1 (.tm 0), .tm, none⟩, []),
 (⟨.mov (.fr 0), .tm, none⟩, []),
 (⟨.nilck (.tm 0), .tm, none⟩, []),
 (⟨.faddr 0 (.tm 0), .tm, none⟩, []),
 (⟨.faddr 3 (.tm 0), .tm, none⟩, []),
 (⟨.load1 (.tm 0), .tm, none⟩, []),
 (⟨.bin .sub (.tm 5) (.tm 0), .tm, none⟩, []),
 (⟨.bin .sub (.tm 0) (.c (.int .i64 1)), .tm, none⟩, []),
 (⟨.bin .add (.tm 9) (.tm 0), .tm, none⟩, []),
 (⟨.nilck (.tm 13), .tm, none⟩, []),
 (⟨.faddr 6 (.tm 0), .tm, none⟩, []),
 (⟨.store1 (.tm 0) (.tm 2), .no, none⟩, [])])
 (.skip)) <|
 .seq (.reg [
 ⟨.mov (.fr 0), .tm, none⟩,
 ⟨.faddr 2 (.fr 4), .tm, none⟩,
 ⟨.load1 (.tm 0), .tm, none⟩,
 ⟨.nilck (.tm 2), .tm, none⟩,
 ⟨.faddr 0 (.tm 0), .tm, none⟩,
 ⟨.faddr 3 (.tm 0), .tm, none⟩,
 ⟨.store1 (.tm 0) (.tm 3), .no, none⟩]) <|
 .seq (.seq (.dreg [
 (⟨.faddr 3 (.fr 4), .tm, none⟩, []),
 (⟨.load1 (.tm 0), .tm, none⟩, []),
 (⟨.mov (.fr 0), .tm, none⟩, []),
 (⟨.nilck (.tm 0), .tm, none⟩, []),
 (⟨.faddr 0 (.tm 0), .tm, none⟩, []),
 (⟨.faddr 2 (.tm 0), .tm, none⟩, []),
 (⟨.load1 (.tm 0), .tm, none⟩, []),
 (⟨.bin .leq (.tm 5) (.tm 0), .fr 11, none⟩, [])]) <|
 .cond (.fr 11)
 (.dreg [
 (⟨.mov (.fr 0), .tm, none⟩, []),
 (⟨.mov (.fr 0), .tm, none⟩, []),
 (⟨.nilck (.tm 0), .tm, none⟩, []),
 (⟨.faddr 5 (.tm 0), .tm, none⟩, []),
 (⟨.load1 (.tm 0), .tm, none⟩, []),
 (⟨.faddr 3 (.fr 4), .tm, none⟩, []),
 (⟨.load1 (.tm 0), .tm, none⟩, []),
 (⟨.mm true (.tm 2) (.tm 0), .tm, none⟩, []),
 (⟨.nilck (.tm 7), .tm, none⟩, []),
 (⟨.faddr 5 (.tm 0), .tm, none⟩, []),
 (⟨.store1 (.tm 0) (.tm 2), .no, none⟩, [])])
 (.skip)) <|
 .seq (.reg [
 ⟨.faddr 4 (.fr 4), .tm, none⟩,
 ⟨.load1 (.tm 0), .tm, none⟩,
 ⟨.mov (.tm 0), .fr 2, none⟩,
 ⟨.mov (.c (.int .i64 0)), .fr 3, none⟩]) <|
 .ret, [.t 2, .t 3]⟩
def f39 : AFunc := ⟨[0, 2, 4],
 .seq (.reg [
 ⟨.mov (.c (.int .i64 0)), .fr 1, none⟩]) <|
 .seq (.seq (.reg [
 ⟨.mov (.fr 0), .tm, none⟩,
 ⟨.eqv 1 false (.tm 0) (.c (.pointer none)), .fr 2, none⟩]) <|
 .cond (.fr 2)
 (.seq (.reg [
 ⟨.mov (.c (.int .i64 0)), .fr 1, none⟩]) <|
 .ret)
 (.skip)) <|
 .seq (.reg [
 ⟨.mov (.fr 0), .tm, none⟩,
 ⟨.nilck (.tm 0), .tm, none⟩,
 ⟨.faddr 0 (.tm 0), .tm, none⟩,
 ⟨.faddr 2 (.tm 0), .tm, none⟩,
 ⟨.load1 (.tm 0), .tm, none⟩,
 ⟨.mov (.tm 0), .fr 1, none⟩]) <|
 .ret, [.t 1]⟩
def f40 : AFunc := ⟨[0, 2, 4],
 .seq (.reg [
 ⟨.mov (.c (.int .i64 0)), .fr 1, none⟩]) <|
 .seq (.seq (.reg [
 ⟨.mov (.fr 0), .tm, none⟩,
 ⟨.eqv 1 false (.tm 0) (.c (.pointer none)), .fr 2, none⟩]) <|
 .cond (.fr 2)
 (.seq (.reg [
 ⟨.mov (.c (.int .i64 0)), .fr 1, none⟩]) <|
 .ret)
 (.skip)) <|
 .seq (.reg [
 ⟨.mov (.fr 0), .tm, none⟩,
 ⟨.nilck (.tm 0), .tm, none⟩,
 ⟨.faddr 0 (.tm 0), .tm, none⟩,
 ⟨.faddr 3 (.tm 0), .tm, none⟩,
 ⟨.load1 (.tm 0), .tm, none⟩,
 ⟨.mov (.tm 0), .fr 1, none⟩]) <|
 .ret, [.t 1]⟩
def f41 : AFunc := ⟨[0, 2, 4],
 .seq (.reg [
 ⟨.mov (.c (.int .i64 0)), .fr 1, none⟩]) <|
 .seq (.seq (.reg [
 ⟨.mov (.fr 0), .tm, none⟩,
 ⟨.eqv 1 false (.tm 0) (.c (.pointer none)), .fr 2, none⟩]) <|
 .cond (.fr 2)
 (.seq (.reg [
 ⟨.mov (.c (.int .i64 0)), .fr 1, none⟩]) <|
 .ret)
 (.skip)) <|
 .seq (.reg [
 ⟨.mov (.fr 0), .tm, none⟩,
 ⟨.nilck (.tm 0), .tm, none⟩,
 ⟨.faddr 5 (.tm 0), .tm, none⟩,
 ⟨.load1 (.tm 0), .tm, none⟩,
 ⟨.mov (.tm 0), .fr 1, none⟩]) <|
 .ret, [.t 1]⟩
def f42 : AFunc := ⟨[0, 2, 4],
 .seq (.reg [
 ⟨.mov (.c (.int .i64 0)), .fr 1, none⟩]) <|
 .seq (.seq (.reg [
 ⟨.mov (.fr 0), .tm, none⟩,
 ⟨.eqv 1 false (.tm 0) (.c (.pointer none)), .fr 2, none⟩]) <|
 .cond (.fr 2)
 (.seq (.reg [
 ⟨.mov (.c (.int .i64 0)), .fr 1, none⟩]) <|
 .ret)
 (.skip)) <|
 .seq (.reg [
 ⟨.mov (.fr 0), .tm, none⟩,
 ⟨.nilck (.tm 0), .tm, none⟩,
 ⟨.faddr 6 (.tm 0), .tm, none⟩,
 ⟨.load1 (.tm 0), .tm, none⟩,
 ⟨.mov (.tm 0), .fr 1, none⟩]) <|
 .ret, [.t 1]⟩
def f55 : AFunc := ⟨[0, 1, 4, 5, 6, 7, 12],
 .seq (.reg [
 ⟨.mov (.c (.slice none 0 0)), .fr 2, none⟩,
 ⟨.mov (.c (.int .i64 0)), .fr 3, none⟩]) <|
 .seq (.seq (.reg [
 ⟨.mov (.fr 0), .tm, none⟩,
 ⟨.mov (.fr 1), .tm, none⟩,
 ⟨.callf 94 [(.tm 1), (.tm 0), (.c (.bool false))], .tm, none⟩,
 ⟨.mov (.tm 0), .fr 4, none⟩]) <|
 .seq (.reg [
 ⟨.mov (.fr 4), .tm, none⟩,
 ⟨.bin .neq (.tm 0) (.c (.int .i64 0)), .fr 6, none⟩]) <|
 .cond (.fr 6)
 (.seq (.reg [
 ⟨.mov (.fr 4), .tm, none⟩,
 ⟨.mov (.c (.slice none 0 0)), .fr 2, none⟩,
 ⟨.mov (.tm 0), .fr 3, none⟩]) <|
 .ret)
 (.skip)) <|
 .seq (.reg [
 ⟨.mov (.fr 0), .tm, none⟩,
 ⟨.nilck (.tm 0), .tm, none⟩,
 ⟨.faddr 0 (.tm 0), .tm, none⟩,
 ⟨.load1 (.tm 0), .tm, none⟩,
 ⟨.mov (.fr 1), .tm, none⟩,
 ⟨.iaddr 1 (.tm 1) (.tm 0), .tm, none⟩,
 ⟨.load1 (.tm 0), .tm, none⟩,
 ⟨.mov (.tm 0), .fr 5, none⟩]) <|
 .seq (.reg [
 ⟨.mov (.fr 0), .tm, none⟩,
 ⟨.mov (.fr 0), .tm, none⟩,
 ⟨.nilck (.tm 0), .tm, none⟩,
 ⟨.faddr 0 (.tm 0), .tm, none⟩,
 ⟨.load1 (.tm 0), .tm, none⟩,
 ⟨.mov (.fr 1), .tm, none⟩,
 ⟨.mov (.fr 1), .tm, none⟩,
 ⟨.bin .add (.tm 0) (.c (.int .i64 1)), .tm, none⟩,
 ⟨.callf 95 [(.tm 3), (.tm 2), (.tm 0)], .tm, none⟩,
 ⟨.nilck (.tm 8), .tm, none⟩,
 ⟨.faddr 0 (.tm 0), .tm, none⟩,
 ⟨.store1 (.tm 0) (.tm 2), .no, none⟩]) <|
 .seq (.reg [
 ⟨.mov (.fr 5), .tm, none⟩,
 ⟨.mov (.tm 0), .fr 2, none⟩,
 ⟨.mov (.c (.int .i64 0)), .fr 3, none⟩]) <|
 .ret, [.t 2, .t 3]⟩
def f57 : AFunc := ⟨[0, 1, 4, 5, 10],
 .seq (.reg [
 ⟨.mov (.c (.int .i64 0)), .fr 2, none⟩]) <|
 .seq (.seq (.reg [
 ⟨.mov (.fr 0), .tm, none⟩,
 ⟨.mov (.fr 1), .tm, none⟩,
 ⟨.callf 94 [(.tm 1), (.tm 0), (.c (.bool true))], .tm, none⟩,
 ⟨.mov (.tm 0), .fr 3, none⟩]) <|
 .seq (.reg [
 ⟨.mov (.fr 3), .tm, none⟩,
 ⟨.bin .neq (.tm 0) (.c (.int .i64 0)), .fr 4, none⟩]) <|
 .cond (.fr 4)
 (.seq (.reg [
 ⟨.mov (.fr 3), .tm, none⟩,
 ⟨.mov (.tm 0), .fr 2, none⟩]) <|
 .ret)
 (.skip)) <|
 .seq (.reg [
 ⟨.mov (.fr 0), .tm, none⟩,
 ⟨.mov (.fr 0), .tm, none⟩,
 ⟨.nilck (.tm 0), .tm, none⟩,
 ⟨.faddr 0 (.tm 0), .tm, none⟩,
 ⟨.load1 (.tm 0), .tm, none⟩,
 ⟨.mov (.fr 1), .tm, none⟩,
 ⟨.iaddr 1 (.tm 1) (.tm 0), .tm, none⟩,
 ⟨.load1 (.tm 0), .tm, none⟩,
 ⟨.callf 59 [(.tm 7), (.tm 0)], .tm, none⟩,
 ⟨.mov (.tm 0), .fr 2, none⟩]) <|
 .ret, [.t 2]⟩
def f59 : AFunc := ⟨[0, 1, 4, 5, 8],
 .seq (.reg [
 ⟨.mov (.c (.int .i64 0)), .fr 2, none⟩]) <|
 .seq (.block 0 (.seq (.reg [
 ⟨.mov (.fr 0), .tm, none⟩,
 ⟨.eqv 1 false (.tm 0) (.c (.pointer none)), .tm, none⟩,
 ⟨.mov (.tm 0), .fr 3, none⟩]) <|
 .cond (.fr 3)
 (.seq (.reg [
 ⟨.mov (.c (.int .i64 1)), .fr 2, none⟩]) <|
 .ret)
 (.seq (.reg [
 ⟨.mov (.fr 0), .tm, none⟩,
 ⟨.nilck (.tm 0), .tm, none⟩,
 ⟨.faddr 0 (.tm 0), .tm, none⟩,
 ⟨.load1 (.tm 0), .tm, none⟩,
 ⟨.len false (.tm 0), .tm, none⟩,
 ⟨.bin .geq (.tm 0) (.c (.int .i64 64)), .tm, none⟩,
 ⟨.mov (.tm 0), .fr 4, none⟩]) <|
 .cond (.fr 4)
 (.seq (.reg [
 ⟨.mov (.c (.int .i64 3)), .fr 2, none⟩]) <|
 .ret)
 (.skip)))) <|
 .seq (.dreg [
 (⟨.mov (.fr 0), .tm, none⟩, []),
 (⟨.mov (.fr 0), .tm, none⟩, []),
 (⟨.nilck (.tm 0), .tm, none⟩, []),
 (⟨.faddr 0 (.tm 0), .tm, none⟩, []),
 (⟨.load1 (.tm 0), .tm, none⟩, []),
 (⟨.mov (.fr 1), .tm, none⟩, []),
 (⟨.callf 73 [(.tm 0)], .tm, none⟩, [4]),
 (⟨.bslice 22 1 1 [(.slice none 0 0)] [(0, 1, (.tm 0))], .tm, none⟩, []),
 (⟨.app 22 1 24 (.tm 3) (.tm 0), .tm, none⟩, []),
 (⟨.nilck (.tm 8), .tm, none⟩, []),
 (⟨.faddr 0 (.tm 0), .tm, none⟩, []),
 (⟨.store1 (.tm 0) (.tm 2), .no, none⟩, [])]) <|
 .seq (.reg [
 ⟨.mov (.c (.int .i64 0)), .fr 2, none⟩]) <|
 .ret, [.t 2]⟩
def f94 : AFunc := ⟨[0, 1, 2, 6, 7, 10, 22],
 .seq (.reg [
 ⟨.mov (.c (.int .i64 0)), .fr 3, none⟩]) <|
 .seq (.block 0 (.seq (.reg [
 ⟨.mov (.fr 0), .tm, none⟩,
 ⟨.eqv 1 false (.tm 0) (.c (.pointer none)), .tm, none⟩,
 ⟨.mov (.tm 0), .fr 4, none⟩]) <|
 .cond (.fr 4)
 (.seq (.reg [
 ⟨.mov (.c (.int .i64 1)), .fr 3, none⟩]) <|
 .ret)
 (.seq (.reg [
 ⟨.mov (.fr 1), .tm, none⟩,
 ⟨.bin .lss (.tm 0) (.c (.int .i64 0)), .tm, none⟩,
 ⟨.mov (.tm 0), .tm, none⟩,
 ⟨.mov (.fr 1), .tm, some ((.tm 0), false)⟩,
 ⟨.mov (.fr 0), .tm, some ((.tm 1), false)⟩,
 ⟨.nilck (.tm 0), .tm, some ((.tm 2), false)⟩,
 ⟨.faddr 0 (.tm 0), .tm, some ((.tm 3), false)⟩,
 ⟨.load1 (.tm 0), .tm, some ((.tm 4), false)⟩,
 ⟨.len false (.tm 0), .tm, some ((.tm 5), false)⟩,
 ⟨.bin .geq (.tm 5) (.tm 0), .tm, some ((.tm 6), false)⟩,
 ⟨.pick (.tm 7) (.c (.bool true)) (.tm 0), .tm, none⟩,
 ⟨.mov (.tm 0), .fr 5, none⟩]) <|
 .cond (.fr 5)
 (.seq (.reg [
 ⟨.mov (.c (.int .i64 5)), .fr 3, none⟩]) <|
 .ret)
 (.seq (.reg [
 ⟨.mov (.fr 2), .tm, none⟩,
 ⟨.mov (.tm 0), .tm, none⟩,
 ⟨.mov (.fr 0), .tm, some ((.tm 0), true)⟩,
 ⟨.nilck (.tm 0), .tm, some ((.tm 1), true)⟩,
 ⟨.faddr 0 (.tm 0), .tm, some ((.tm 2), true)⟩,
 ⟨.load1 (.tm 0), .tm, some ((.tm 3), true)⟩,
 ⟨.len false (.tm 0), .tm, some ((.tm 4), true)⟩,
 ⟨.bin .geq (.tm 0) (.c (.int .i64 64)), .tm, some ((.tm 5), true)⟩,
 ⟨.pick (.tm 6) (.tm 0) (.c (.bool false)), .tm, none⟩,
 ⟨.mov (.tm 0), .fr 6, none⟩]) <|
 .cond (.fr 6)
 (.seq (.reg [
 ⟨.mov (.c (.int .i64 3)), .fr 3, none⟩]) <|
 .ret)
 (.skip))))) <|
 .seq (.reg [
 ⟨.mov (.c (.int .i64 0)), .fr 3, none⟩]) <|
 .ret, [.t 3]⟩
def f95 : AFunc := ⟨[0, 1, 2, 6, 7, 16],
 .seq (.reg [
 ⟨.mov (.c (.slice none 0 0)), .fr 3, none⟩]) <|
 .seq (.reg [
 ⟨.mov (.fr 0), .tm, none⟩,
 ⟨.mov (.fr 1), .tm, none⟩,
 ⟨.mov (.fr 2), .tm, none⟩,
 ⟨.mov (.fr 0), .tm, none⟩,
 ⟨.len false (.tm 0), .tm, none⟩,
 ⟨.slsl 1 (.tm 4) (some (.tm 3)) (some (.tm 2)) (some (.tm 0)), .tm, none⟩]) <|
 .seq (.seq (.reg [
 ⟨.mov (.fr 1), .tm, none⟩,
 ⟨.mov (.fr 2), .tm, none⟩,
 ⟨.bin .eql (.tm 1) (.tm 0), .fr 5, none⟩]) <|
 .cond (.fr 5)
 (.seq (.reg [
 ⟨.mov (.fr 0), .tm, none⟩,
 ⟨.mov (.tm 0), .fr 3, none⟩]) <|
 .ret)
 (.skip)) <|
 .seq (.reg [
 ⟨.mov (.fr 0), .tm, none⟩,
 ⟨.len false (.tm 0), .tm, none⟩,
 ⟨.mov (.tm 0), .fr 4, none⟩]) <|
 .seq (.dreg [
 (⟨.mov (.fr 0), .tm, none⟩, []),
 (⟨.mov (.fr 1), .tm, none⟩, []),
 (⟨.slsl 1 (.tm 1) none (some (.tm 0)) none, .tm, none⟩, []),
 (⟨.mov (.fr 0), .tm, none⟩, []),
 (⟨.mov (.fr 2), .tm, none⟩, []),
 (⟨.slsl 1 (.tm 1) (some (.tm 0)) none none, .tm, none⟩, []),
 (⟨.app 22 1 24 (.tm 3) (.tm 0), .tm, none⟩, []),
 (⟨.mov (.tm 0), .fr 0, none⟩, [])]) <|
 .seq (.reg [
 ⟨.mov (.fr 0), .tm, none⟩,
 ⟨.mov (.fr 0), .tm, none⟩,
 ⟨.len false (.tm 0), .tm, none⟩,
 ⟨.mov (.fr 4), .tm, none⟩,
 ⟨.slsl 1 (.tm 3) (some (.tm 1)) (some (.tm 0)) none, .tm, none⟩,
 ⟨.clr 1 [(.slice none 0 0)] (.tm 0), .no, none⟩]) <|
 .seq (.reg [
 ⟨.mov (.fr 0), .tm, none⟩,
 ⟨.mov (.tm 0), .fr 3, none⟩]) <|
 .ret, [.t 3]⟩
theorem f9_ok : compF Go.Proofs.Try.prog 0 [0, 2, 3, 4, 5, 6, 7, 8, 9, 10, 11, 12, 13, 14, 15, 16, 17, 18, 19, 20, 21, 22, 23, 24, 25, 26, 28, 43, 47, 56, 64, 72, 98, 101, 112, 121, 131, 139, 147, 148, 164, 170, 177, 182] 9 = some f9 := by kernel_rfl
theorem f9_n : argsOK Go.Proofs.Try.prog 9 1 = true := by kernel_rfl
theorem f30_ok : compF Go.Proofs.Try.prog 0 [0, 2, 3, 4, 7, 11, 34] 30 = some f30 := by kernel_rfl
theorem f30_n : argsOK Go.Proofs.Try.prog 30 1 = true := by kernel_rfl
theorem f31_ok : compF Go.Proofs.Try.prog 0 [0, 1, 2, 3, 4, 5, 7, 9, 10, 11, 12, 13, 16, 30] 31 = some f31 := by kernel_rfl
theorem f31_n : argsOK Go.Proofs.Try.prog 31 0 = true := by kernel_rfl
theorem f32_ok : compF Go.Proofs.Try.prog 0 [0, 1, 2, 6, 7, 18] 32 = some f32 := by kernel_rfl
theorem f32_n : argsOK Go.Proofs.Try.prog 32 3 = true := by kernel_rfl
theorem f34_ok : compF Go.Proofs.Try.prog 0 [0, 1, 4, 5, 6, 7, 10] 34 = some f34 := by kernel_rfl
theorem f34_n : argsOK Go.Proofs.Try.prog 34 2 = true := by kernel_rfl
theorem f37_ok : compF Go.Proofs.Try.prog 0 [0, 1, 4, 5, 6, 7, 9, 15, 19, 38, 52, 82] 37 = some f37 := by kernel_rfl
theorem f37_n : argsOK Go.Proofs.Try.prog 37 2 = true := by kernel_rfl
theorem f39_ok : compF Go.Proofs.Try.prog 0 [0, 2, 4] 39 = some f39 := by kernel_rfl
theorem f39_n : argsOK Go.Proofs.Try.prog 39 1 = true := by kernel_rfl
theorem f40_ok : compF Go.Proofs.Try.prog 0 [0, 2, 4] 40 = some f40 := by kernel_rfl
theorem f40_n : argsOK Go.Proofs.Try.prog 40 1 = true := by kernel_rfl
theorem f41_ok : compF Go.Proofs.Try.prog 0 [0, 2, 4] 41 = some f41 := by kernel_rfl
theorem f41_n : argsOK Go.Proofs.Try.prog 41 1 = true := by kernel_rfl
theorem f42_ok : compF Go.Proofs.Try.prog 0 [0, 2, 4] 42 = some f42 := by kernel_rfl
theorem f42_n : argsOK Go.Proofs.Try.prog 42 1 = true := by kernel_rfl
theorem f55_ok : compF Go.Proofs.Try.prog 0 [0, 1, 4, 5, 6, 7, 12] 55 = some f55 := by kernel_rfl
theorem f55_n : argsOK Go.Proofs.Try.prog 55 2 = true := by kernel_rfl
theorem f57_ok : compF Go.Proofs.Try.prog 0 [0, 1, 4, 5, 10] 57 = some f57 := by kernel_rfl
theorem f57_n : argsOK Go.Proofs.Try.prog 57 2 = true := by kernel_rfl
theorem f59_ok : compF Go.Proofs.Try.prog 0 [0, 1, 4, 5, 8] 59 = some f59 := by kernel_rfl
theorem f59_n : argsOK Go.Proofs.Try.prog 59 2 = true := by kernel_rfl
theorem f94_ok : compF Go.Proofs.Try.prog 0 [0, 1, 2, 6, 7, 10, 22] 94 = some f94 := by kernel_rfl
theorem f94_n : argsOK Go.Proofs.Try.prog 94 3 = true := by kernel_rfl
theorem f95_ok : compF Go.Proofs.Try.prog 0 [0, 1, 2, 6, 7, 16] 95 = some f95 := by kernel_rfl
theorem f95_n : argsOK Go.Proofs.Try.prog 95 3 = true := by kernel_rfl
end Go.AM.F

set_option linter.unusedSimpArgs false
set_option linter.unusedVariables false
namespace Go.AM.Fd
open Nat (reduceAdd reduceEqDiff reduceLT reduceLeDiff reduceMul reduceSub)
open Go.Proofs Go.AM.F
structure En where
  f : Nat
  t : Nat
  q : Int
  k : Int
  a : Int
  l : Int
def cE (x : En) : List Value := [.int .u8 (x.f : Nat), .int .u8 (x.t : Nat), .int .i64 x.q, .int .i64 x.k, .slice none 0 0, .int .i64 x.a, .int .i64 x.l]
structure WfE (x : En) : Prop where
  hf : x.f < 256
  ht : x.t < 256
  hq : 0 ≤ x.q ∧ x.q ≤ 4611686018427387904
  hk : 0 ≤ x.k ∧ x.k ≤ 4611686018427387904
  ha : 0 ≤ x.a ∧ x.a ≤ 4611686018427387904
  hl : 0 ≤ x.l ∧ x.l ≤ x.k
def hE (x : En) (o : Option Li) : Int := match o with
  | none => 130
  | some m => if m.f ≠ x.t ∨ m.t ≠ x.f then 2 else if m.q ≤ x.k then 180 else 0
def hX (x : En) (m : Li) : En := { x with k := m.q, l := if 0 < x.k then x.l + (m.q - x.k - 1) else x.l, a := if m.k ≤ x.q then max x.a m.k else x.a }
theorem geLi_ok {b : List UInt8} {y : Li} (h : geLi b = some y) : okLi y = true := by
  obtain ⟨e1, e2, e3, e4⟩ := geLi_some h
  cases hk : okLi y with
  | true => rfl
  | false =>
    simp only [fLi, hk, Bool.false_eq_true, if_false] at e1
    rw [← e1] at e4; simp at e4; omega
theorem hX_wf {x : En} (h : WfE x) {m : Li} (ho : okLi m = true) (hh : x.k < m.q) : WfE (hX x m) := by
  obtain ⟨h1, h2, h3⟩ := okLi_iff.1 ho
  obtain ⟨a1, a2, a3, a4, a5, a6⟩ := h
  refine ⟨a1, a2, a3, h1, ?_, ?_⟩
  · simp only [hX]; split
    · rw [Int.max_def]; split <;> omega
    · exact a5
  · simp only [hX]; split <;> omega
def sX (x : En) : En := { x with q := x.q + 1 }
theorem t32 (f t : Nat) (n : Int) (H : AHeap) (hn : -9223372036854775808 ≤ n ∧ n ≤ 9223372036854775807) : ∃ w H', ARun Go.Proofs.Try.prog 0 32 [.int .u8 (f : Nat), .int .u8 (t : Nat), .int .i64 n] H w H' ∧
    w = (if f = t ∨ n < 1 ∨ 2305843009213693952 < n then .tuple #[.pointer none, .int .i64 2] else .tuple #[ptr H.n 0, .int .i64 0]) ∧ H' = (if f = t ∨ n < 1 ∨ 2305843009213693952 < n then H else H.alloc (.cells true false 7 (cE ⟨f, t, n - 1, 0, 0, 0⟩) 145)) := by
  refine walk2 f32_ok f32_n ?_
  intro Q hq1 hq2
  by_cases h1 : f = t
  · subst h1
    simp (disch := first | assumption | omega | (simp only [LN] <;> omega) | (simp (disch := first | assumption | omega | (simp only [LN] <;> omega)) only [row_alloc, row_set]; assumption)) only [f32, W_block, P3, ↓reduceIte, reduceAdd, reduceEqDiff, reduceCtorEq, initFr, reduceLT, clsA, reduceLeDiff, reduceMul, reduceSub, reduceIte]
    exact hq2 _ _ ⟨_, rfl, by simp; rfl, by simp⟩
  have h1' : ¬ (f : Int) = (t : Int) := by omega
  by_cases h2 : n < 1
  · simp (disch := first | assumption | omega | (simp only [LN] <;> omega) | (simp (disch := first | assumption | omega | (simp only [LN] <;> omega)) only [row_alloc, row_set]; assumption)) only [f32, W_block, P3, ↓reduceIte, reduceAdd, reduceEqDiff, reduceCtorEq, initFr, reduceLT, clsA, reduceLeDiff, reduceMul, reduceSub, reduceIte]
    exact hq2 _ _ ⟨_, rfl, by rw [if_pos (.inr (.inl h2))]; rfl, by rw [if_pos (.inr (.inl h2))]⟩
  by_cases h3 : 2305843009213693952 < n
  · simp (disch := first | assumption | omega | (simp only [LN] <;> omega) | (simp (disch := first | assumption | omega | (simp only [LN] <;> omega)) only [row_alloc, row_set]; assumption)) only [f32, W_block, P3, ↓reduceIte, reduceAdd, reduceEqDiff, reduceCtorEq, initFr, reduceLT, clsA, reduceLeDiff, reduceMul, reduceSub, reduceIte]
    exact hq2 _ _ ⟨_, rfl, by rw [if_pos (.inr (.inr h3))]; rfl, by rw [if_pos (.inr (.inr h3))]⟩
  have hw : IntKind.i64.wrap (n - 1) = n - 1 := wrap_i64 (by omega) (by omega)
  have hfl : fillA [.int .u8 0, .int .u8 0, .int .i64 0, .int .i64 0, .slice none 0 0] [(0, 1, .int .u8 (f : Nat)), (1, 1, .int .u8 (t : Nat)), (2, 1, .int .i64 (n - 1))] = some [.int .u8 (f : Nat), .int .u8 (t : Nat), .int .i64 (n - 1), .int .i64 0, .slice none 0 0] := rfl
  have hfl2 : fillA [.int .u8 0, .int .u8 0, .int .i64 0, .int .i64 0, .slice none 0 0, .int .i64 0, .int .i64 0] [(0, 5, .agg #[.int .u8 (f : Nat), .int .u8 (t : Nat), .int .i64 (n - 1), .int .i64 0, .slice none 0 0])] = some (cE ⟨f, t, n - 1, 0, 0, 0⟩) := rfl
  have ho : (cE ⟨f, t, n - 1, 0, 0, 0⟩).all Value.oneCell' = true := rfl
  have hne : ¬ (f = t ∨ n < 1 ∨ 2305843009213693952 < n) := by omega
  simp (disch := first | assumption | omega | (simp only [LN] <;> omega) | (simp (disch := first | assumption | omega | (simp only [LN] <;> omega)) only [row_alloc, row_set]; assumption)) only [f32, W_block, P3, ↓reduceIte, reduceAdd, reduceEqDiff, reduceCtorEq, initFr, reduceLT, clsA, reduceLeDiff, reduceMul, reduceSub, reduceIte, hw, hfl, hfl2, ho]
  exact hq2 _ _ ⟨_, rfl, by rw [if_neg hne]; rfl, by rw [if_neg hne]⟩
theorem cEg (x : En) : (cE x)[0]? = some (.int .u8 (x.f : Nat)) ∧ (cE x)[1]? = some (.int .u8 (x.t : Nat)) ∧ (cE x)[2]? = some (.int .i64 x.q) ∧ (cE x)[3]? = some (.int .i64 x.k) ∧ (cE x)[5]? = some (.int .i64 x.a) ∧ (cE x)[6]? = some (.int .i64 x.l) := ⟨rfl, rfl, rfl, rfl, rfl, rfl⟩
section
variable {H : AHeap} {b : Nat} {x : En}
theorem t39 (g : H.get b = some (.cells true false 7 (cE x) 145)) : ∃ w H', ARun Go.Proofs.Try.prog 0 39 [ptr b 0] H w H' ∧ w = .int .i64 x.q ∧ H' = H := by
  refine walk2 f39_ok f39_n ?_
  intro Q hq1 hq2
  simp (disch := first | assumption | omega | (simp only [LN] <;> omega) | (simp (disch := first | assumption | omega | (simp only [LN] <;> omega)) only [row_alloc, row_set]; assumption)) only [f39, W_block, P3, ↓reduceIte, reduceAdd, reduceEqDiff, reduceCtorEq, initFr, reduceLT, clsA, reduceLeDiff, reduceMul, reduceSub, reduceIte, g, cEg x]
  exact hq2 _ _ ⟨_, rfl, rfl, rfl⟩
theorem t40 (g : H.get b = some (.cells true false 7 (cE x) 145)) : ∃ w H', ARun Go.Proofs.Try.prog 0 40 [ptr b 0] H w H' ∧ w = .int .i64 x.k ∧ H' = H := by
  refine walk2 f40_ok f40_n ?_
  intro Q hq1 hq2
  simp (disch := first | assumption | omega | (simp only [LN] <;> omega) | (simp (disch := first | assumption | omega | (simp only [LN] <;> omega)) only [row_alloc, row_set]; assumption)) only [f40, W_block, P3, ↓reduceIte, reduceAdd, reduceEqDiff, reduceCtorEq, initFr, reduceLT, clsA, reduceLeDiff, reduceMul, reduceSub, reduceIte, g, cEg x]
  exact hq2 _ _ ⟨_, rfl, rfl, rfl⟩
theorem t41 (g : H.get b = some (.cells true false 7 (cE x) 145)) : ∃ w H', ARun Go.Proofs.Try.prog 0 41 [ptr b 0] H w H' ∧ w = .int .i64 x.a ∧ H' = H := by
  refine walk2 f41_ok f41_n ?_
  intro Q hq1 hq2
  simp (disch := first | assumption | omega | (simp only [LN] <;> omega) | (simp (disch := first | assumption | omega | (simp only [LN] <;> omega)) only [row_alloc, row_set]; assumption)) only [f41, W_block, P3, ↓reduceIte, reduceAdd, reduceEqDiff, reduceCtorEq, initFr, reduceLT, clsA, reduceLeDiff, reduceMul, reduceSub, reduceIte, g, cEg x]
  exact hq2 _ _ ⟨_, rfl, rfl, rfl⟩
theorem t42 (g : H.get b = some (.cells true false 7 (cE x) 145)) : ∃ w H', ARun Go.Proofs.Try.prog 0 42 [ptr b 0] H w H' ∧ w = .int .i64 x.l ∧ H' = H := by
  refine walk2 f42_ok f42_n ?_
  intro Q hq1 hq2
  simp (disch := first | assumption | omega | (simp only [LN] <;> omega) | (simp (disch := first | assumption | omega | (simp only [LN] <;> omega)) only [row_alloc, row_set]; assumption)) only [f42, W_block, P3, ↓reduceIte, reduceAdd, reduceEqDiff, reduceCtorEq, initFr, reduceLT, clsA, reduceLeDiff, reduceMul, reduceSub, reduceIte, g, cEg x]
  exact hq2 _ _ ⟨_, rfl, rfl, rfl⟩
end
end Go.AM.Fd

set_option linter.unusedSimpArgs false
set_option linter.unusedVariables false
namespace Go.AM.Fd
open Nat (reduceAdd reduceEqDiff reduceLT reduceLeDiff reduceMul reduceSub)
open Go.Proofs Go.AM.F
section
variable {H : AHeap} {b : Nat} {x : En}
theorem t34no (g : H.get b = some (.cells true false 7 (cE x) 145)) {v : Value} {B : List UInt8} (hB : BS H v B) (hn : 2048 < B.length ∨ 4611686018427387904 ≤ x.q) :
    ∃ w H', ARun Go.Proofs.Try.prog 0 34 [ptr b 0, v] H w H' ∧ w = .tuple #[.slice none 0 0, .int .i64 3] ∧ H' = H := by
  refine walk2 f34_ok f34_n ?_
  intro Q hq1 hq2
  have his := hB.sl.is
  have hlen := hB.sl.len
  rw [List.length_map] at hlen
  by_cases h1 : 2048 < B.length
  · simp (disch := first | assumption | omega | (simp only [LN] <;> omega) | (simp (disch := first | assumption | omega | (simp only [LN] <;> omega)) only [row_alloc, row_set]; assumption)) only [f34, W_block, P3, ↓reduceIte, reduceAdd, reduceEqDiff, reduceCtorEq, initFr, reduceLT, clsA, reduceLeDiff, reduceMul, reduceSub, reduceIte, hlen]
    exact hq2 _ _ ⟨_, rfl, rfl, rfl⟩
  · have h2 : 4611686018427387904 ≤ x.q := by omega
    simp (disch := first | assumption | omega | (simp only [LN] <;> omega) | (simp (disch := first | assumption | omega | (simp only [LN] <;> omega)) only [row_alloc, row_set]; assumption)) only [f34, W_block, P3, ↓reduceIte, reduceAdd, reduceEqDiff, reduceCtorEq, initFr, reduceLT, clsA, reduceLeDiff, reduceMul, reduceSub, reduceIte, hlen, g, cEg x]
    exact hq2 _ _ ⟨_, rfl, rfl, rfl⟩
theorem t34 (hw : WfE x) (g : H.get b = some (.cells true false 7 (cE x) 145)) {v : Value} {B : List UInt8} (hB : BQ H v B) (hv : ∀ y ∈ tb v, y ≠ b) (h1 : B.length ≤ 2048) (h2 : x.q < 4611686018427387904) :
    ∃ w H', ARun Go.Proofs.Try.prog 0 34 [ptr b 0, v] H w H' ∧ ∃ r, w = .tuple #[r, .int .i64 0] ∧ PutR (H.set b (.cells true false 7 (cE (sX x)) 145)) H' r (fLi ⟨x.f, x.t, x.q + 1, x.k, B⟩) := by
  refine walk2 f34_ok f34_n ?_
  intro Q hq1 hq2
  have his := hB.bs.sl.is
  have hlen := hB.bs.sl.len
  have hone := hB.bs.sl.one
  rw [List.length_map] at hlen
  have hwr : IntKind.i64.wrap (x.q + 1) = x.q + 1 := by have := hw.hq; exact wrap_i64 (by omega) (by omega)
  have lb := AHeap.get_lt g
  have hc7 : (cE (sX x)).length = 7 := rfl
  have hd5 : (cE (sX x)).take 5 = cLi (.slice none 0 0) ⟨x.f, x.t, x.q + 1, x.k, []⟩ := rfl
  have hl5 : (cLi (.slice none 0 0) ⟨x.f, x.t, x.q + 1, x.k, []⟩).length = 5 := rfl
  have ho5 : (cLi (.slice none 0 0) ⟨x.f, x.t, x.q + 1, x.k, []⟩).all Value.oneCell' = true := rfl
  have hs4 : (cLi (.slice none 0 0) ⟨x.f, x.t, x.q + 1, x.k, []⟩).set 4 v = cLi v ⟨x.f, x.t, x.q + 1, x.k, B⟩ := rfl
  have hl6 : (cLi v ⟨x.f, x.t, x.q + 1, x.k, B⟩).length = 5 := rfl
  have lE : (cE x).length = 7 := rfl
  have hs2 : (cE x).set 2 (.int .i64 (x.q + 1)) = cE (sX x) := rfl
  have g1 : (H.set b (.cells true false 7 (cE (sX x)) 145)).get b = some (.cells true false 7 (cE (sX x)) 145) := AHeap.get_set_same g _
  simp (disch := first | assumption | omega | (simp only [LN] <;> omega) | (simp (disch := first | assumption | omega | (simp only [LN] <;> omega)) only [row_alloc, row_set]; assumption)) only [f34, W_block, P3, ↓reduceIte, reduceAdd, reduceEqDiff, reduceCtorEq, initFr, reduceLT, clsA, reduceLeDiff, reduceMul, reduceSub, reduceIte, hlen, g, cEg x, hwr, lE, hs2, g1, hd5, hl5, ho5, hs4, hl6, hone]
  have cg := Chg.set H lb (.cells true false 7 (cE (sX x)) 145)
  have hB1 := (hB.chg cg (fun y hy => by simpa using hv y hy)).keeps ((Keeps.refl _).alloc (.cells true false 5 (cLi v ⟨x.f, x.t, x.q + 1, x.k, B⟩) 65))
  refine callK (t36 ⟨x.f, x.t, x.q + 1, x.k, B⟩ ⟨hw.hf, hw.ht⟩ hB1.bs (by show B.length ≤ 50000; omega)) ?_
  rintro r K p
  simp (disch := first | assumption | omega | (simp only [LN] <;> omega) | (simp (disch := first | assumption | omega | (simp only [LN] <;> omega)) only [row_alloc, row_set]; assumption)) only [W_block, P3, ↓reduceIte, reduceAdd, reduceEqDiff, reduceCtorEq, initFr, reduceLT, clsA, reduceLeDiff, reduceMul, reduceSub, reduceIte]
  exact hq2 _ _ ⟨_, rfl, r, rfl, p.from_ ((Keeps.refl _).alloc _)⟩
end
end Go.AM.Fd

set_option linter.unusedSimpArgs false
set_option linter.unusedVariables false
namespace Go.AM.Fd
open Nat (reduceAdd reduceEqDiff reduceLT reduceLeDiff reduceMul reduceSub)
open Go.Proofs Go.AM.F
section
variable {H : AHeap} {b : Nat} {x : En}
theorem errNV {ρ : Nat → Option Nat} (e : Int) : NV ρ (.tuple #[.slice none 0 0, .int .i64 e]) (.tuple #[.slice none 0 0, .int .i64 e]) :=
  NV.tuple_of (l := [.slice none 0 0, .int .i64 e]) (l' := [.slice none 0 0, .int .i64 e]) (.cons .nilSl (.cons (.int _ e) .nil))
theorem t37no (g : H.get b = some (.cells true false 7 (cE x) 145)) {v : Value} {B : List UInt8} (hB : BQ H v B) (hl : B.length ≤ 1000000) (hh : hE x (geLi B) ≠ 0) :
    ∃ w H', ARun Go.Proofs.Try.prog 0 37 [ptr b 0, v] H w H' ∧ w = .tuple #[.slice none 0 0, .int .i64 (hE x (geLi B))] ∧ H' = H := by
  obtain ⟨o, ho⟩ : ∃ o, geLi B = o := ⟨_, rfl⟩
  rw [ho] at hh ⊢
  obtain ⟨w, H', a, rfl, k⟩ : ∃ w H', ARun Go.Proofs.Try.prog 0 37 [ptr b 0, v] H w H' ∧ w = .tuple #[.slice none 0 0, .int .i64 (hE x o)] ∧ Keeps H H' := by
    refine walk2 f37_ok f37_n ?_
    intro Q hq1 hq2
    simp (disch := first | assumption | omega | (simp only [LN] <;> omega) | (simp (disch := first | assumption | omega | (simp only [LN] <;> omega)) only [row_alloc, row_set]; assumption)) only [f37, W_block, P3, ↓reduceIte, reduceAdd, reduceEqDiff, reduceCtorEq, initFr, reduceLT, clsA, reduceLeDiff, reduceMul, reduceSub, reduceIte]
    refine callK (e24 hB hl) ?_
    rintro _ K ⟨vb, rfl, k, fb, ab⟩
    simp only [ho] at *
    obtain ⟨y, hy⟩ : ∃ y, y = o.getD Li0 := ⟨_, rfl⟩
    rw [← hy] at ab ⊢
    have h1b := ab.bs.sl.one
    have om : (cLi vb y).all Value.oneCell' = true := by simp only [cLi, List.all_cons, List.all_nil, h1b]; rfl
    have lm : (cLi vb y).length = 5 := rfl
    have kk := k.alloc (.cells true false 5 (cLi vb y) 65)
    have g2 := k.at_ g
    have lb := AHeap.get_lt g2
    cases o with
    | none =>
      rw [show er (none : Option Li).isSome = 130 from rfl]
      simp (disch := first | assumption | omega | (simp only [LN] <;> omega) | (simp (disch := first | assumption | omega | (simp only [LN] <;> omega)) only [row_alloc, row_set]; assumption)) only [W_block, P3, ↓reduceIte, reduceAdd, reduceEqDiff, reduceCtorEq, initFr, reduceLT, clsA, reduceLeDiff, reduceMul, reduceSub, reduceIte, GotV, lm, om]
      exact hq2 _ _ ⟨_, rfl, rfl, kk⟩
    | some m =>
      obtain rfl : y = m := hy
      rw [show er (some y).isSome = 0 from rfl]
      by_cases h1 : y.f = x.t
      · have h1' : (y.f : Int) = (x.t : Int) := by omega
        by_cases h2 : y.t = x.f
        · have h2' : (y.t : Int) = (x.f : Int) := by omega
          have h12 : ¬ (y.f ≠ x.t ∨ y.t ≠ x.f) := by omega
          have h3 : y.q ≤ x.k := by
            by_cases h3 : y.q ≤ x.k
            · exact h3
            · simp only [hE] at hh; rw [if_neg h12, if_neg h3] at hh; exact absurd rfl hh
          have hv : hE x (some y) = 180 := by simp only [hE]; rw [if_neg h12, if_pos h3]
          rw [hv] at hq2
          simp (disch := first | assumption | omega | (simp only [LN] <;> omega) | (simp (disch := first | assumption | omega | (simp only [LN] <;> omega)) only [row_alloc, row_set]; assumption)) only [W_block, P3, ↓reduceIte, reduceAdd, reduceEqDiff, reduceCtorEq, initFr, reduceLT, clsA, reduceLeDiff, reduceMul, reduceSub, reduceIte, GotV, lm, om, cLiG vb y, g2, cEg x, h1', h2']
          exact hq2 _ _ ⟨_, rfl, rfl, kk⟩
        · have h2' : ¬ (y.t : Int) = (x.f : Int) := by omega
          have hv : hE x (some y) = 2 := by simp only [hE]; rw [if_pos (.inr h2)]
          rw [hv] at hq2
          simp (disch := first | assumption | omega | (simp only [LN] <;> omega) | (simp (disch := first | assumption | omega | (simp only [LN] <;> omega)) only [row_alloc, row_set]; assumption)) only [W_block, P3, ↓reduceIte, reduceAdd, reduceEqDiff, reduceCtorEq, initFr, reduceLT, clsA, reduceLeDiff, reduceMul, reduceSub, reduceIte, GotV, lm, om, cLiG vb y, g2, cEg x, h1', h2']
          exact hq2 _ _ ⟨_, rfl, rfl, kk⟩
      · have h1' : ¬ (y.f : Int) = (x.t : Int) := by omega
        have hv : hE x (some y) = 2 := by simp only [hE]; rw [if_pos (.inl h1)]
        rw [hv] at hq2
        simp (disch := first | assumption | omega | (simp only [LN] <;> omega) | (simp (disch := first | assumption | omega | (simp only [LN] <;> omega)) only [row_alloc, row_set]; assumption)) only [W_block, P3, ↓reduceIte, reduceAdd, reduceEqDiff, reduceCtorEq, initFr, reduceLT, clsA, reduceLeDiff, reduceMul, reduceSub, reduceIte, GotV, lm, om, cLiG vb y, g2, cEg x, h1']
        exact hq2 _ _ ⟨_, rfl, rfl, kk⟩
  exact ⟨_, _, a.gc0 k (.inr (errNV _)), rfl, rfl⟩
theorem hE0 {m : Li} (h : hE x (some m) = 0) : m.f = x.t ∧ m.t = x.f ∧ x.k < m.q := by
  simp only [hE] at h
  split at h
  · exact absurd h (by decide)
  · rename_i h1
    split at h
    · exact absurd h (by decide)
    · exact ⟨by omega, by omega, by omega⟩
theorem t37 (hw : WfE x) (g : H.get b = some (.cells true false 7 (cE x) 145)) {v : Value} {B : List UInt8} (hB : BQ H v B) (hl : B.length ≤ 1000000) {m : Li} (hm : geLi B = some m) (hh : hE x (some m) = 0) :
    ∃ w H', ARun Go.Proofs.Try.prog 0 37 [ptr b 0, v] H w H' ∧ ∃ vb, w = .tuple #[vb, .int .i64 0] ∧ H'.get b = some (.cells true false 7 (cE (hX x m)) 145) ∧ Chg [b] H H' ∧ Fresh H.n vb ∧ AP H' 5 1 vb m.B.length (cellsOf m.B) := by
  obtain ⟨h1, h2, h3⟩ := hE0 hh
  have ho := okLi_iff.1 (geLi_ok hm)
  refine walk2 f37_ok f37_n ?_
  intro Q hq1 hq2
  simp (disch := first | assumption | omega | (simp only [LN] <;> omega) | (simp (disch := first | assumption | omega | (simp only [LN] <;> omega)) only [row_alloc, row_set]; assumption)) only [f37, W_block, P3, ↓reduceIte, reduceAdd, reduceEqDiff, reduceCtorEq, initFr, reduceLT, clsA, reduceLeDiff, reduceMul, reduceSub, reduceIte]
  refine callK (e24 hB hl) ?_
  rintro _ K ⟨vb, rfl, k, fb, ab⟩
  simp only [hm, Option.getD_some, Option.isSome_some] at ab ⊢
  rw [show er true = 0 from rfl]
  have h1b := ab.bs.sl.one
  have om : (cLi vb m).all Value.oneCell' = true := by simp only [cLi, List.all_cons, List.all_nil, h1b]; rfl
  have lm : (cLi vb m).length = 5 := rfl
  have g2 := k.at_ g
  have lb := AHeap.get_lt g
  have lk := k.n
  have h1' : (m.f : Int) = (x.t : Int) := by omega
  have h2' : (m.t : Int) = (x.f : Int) := by omega
  have hkl := hw.hk
  have hll := hw.hl
  have lE : ∀ y : En, (cE y).length = 7 := fun _ => rfl
  have g65 := AHeap.get_alloc_new K (.cells true false 5 (cLi vb m) 65)
  have ab2 := ab.keeps ((Keeps.refl K).alloc (.cells true false 5 (cLi vb m) 65))
  have g3 := (k.alloc (.cells true false 5 (cLi vb m) 65)).at_ g
  have kk := k.alloc (.cells true false 5 (cLi vb m) 65)
  have hns : ∀ z ∈ blkL vb, z ≠ b := fun z hz => by have := fb z (mem_blkL.1 hz); omega
  simp (disch := first | assumption | omega | (simp only [LN] <;> omega) | (simp (disch := first | assumption | omega | (simp only [LN] <;> omega)) only [row_alloc, row_set]; assumption)) only [W_block, P3, ↓reduceIte, reduceAdd, reduceEqDiff, reduceCtorEq, initFr, reduceLT, clsA, reduceLeDiff, reduceMul, reduceSub, reduceIte, GotV, lm, om]
  obtain ⟨K2, hK2⟩ : ∃ X, X = K.alloc (.cells true false 5 (cLi vb m) 65) := ⟨_, rfl⟩
  rw [← hK2] at g65 ab2 g3 kk ⊢
  have hbK : b ≠ K.n := by omega
  have lb2 := AHeap.get_lt g3
  have l65 := AHeap.get_lt g65
  simp (disch := first | assumption | omega | (simp only [LN] <;> omega) | (simp (disch := first | assumption | omega | (simp only [LN] <;> omega)) only [row_alloc, row_set]; assumption)) only [W_block, P3, ↓reduceIte, reduceAdd, reduceEqDiff, reduceCtorEq, initFr, reduceLT, clsA, reduceLeDiff, reduceMul, reduceSub, reduceIte, cLiG vb m, g65, g3, cEg x, h1', h2']
  have fin : ∀ y : En, cE y = cE (hX x m) → (∃ w, (some (Value.tuple #[vb, .int .i64 0]) : Option Value) = some w ∧ ∃ vb', w = .tuple #[vb', .int .i64 0] ∧ (K2.set b (.cells true false 7 (cE y) 145)).get b = some (.cells true false 7 (cE (hX x m)) 145) ∧ Chg [b] H (K2.set b (.cells true false 7 (cE y) 145)) ∧ Fresh H.n vb' ∧ AP (K2.set b (.cells true false 7 (cE y) 145)) 5 1 vb' m.B.length (cellsOf m.B)) := by
    intro y hy
    rw [hy]
    exact ⟨_, rfl, vb, rfl, AHeap.get_set_same g3 _, (kk.chg _).trans (Chg.set K2 lb2 _) (fun z hz => .inl hz), fb, ab2.chg (Chg.set K2 lb2 _) (fun z hz => by simpa using hns z hz)⟩
  have aX : (hX x m).k = m.q := rfl
  by_cases c1 : 0 < x.k
  · have w1 : IntKind.i64.wrap (m.q - x.k) = m.q - x.k := wrap_i64 (by omega) (by omega)
    have w2 : IntKind.i64.wrap (m.q - x.k - 1) = m.q - x.k - 1 := wrap_i64 (by omega) (by omega)
    have w3 : IntKind.i64.wrap (x.l + (m.q - x.k - 1)) = x.l + (m.q - x.k - 1) := wrap_i64 (by omega) (by omega)
    obtain ⟨x1, hx1⟩ : ∃ y : En, y = { x with l := x.l + (m.q - x.k - 1) } := ⟨_, rfl⟩
    have s1 : (cE x).set 6 (.int .i64 (x.l + (m.q - x.k - 1))) = cE x1 := by rw [hx1]; rfl
    obtain ⟨x2, hx2⟩ : ∃ y : En, y = { x1 with k := m.q } := ⟨_, rfl⟩
    have s2 : (cE x1).set 3 (.int .i64 m.q) = cE x2 := by rw [hx2]; rfl
    have q2 : x2.q = x.q ∧ x2.a = x.a := by rw [hx2, hx1]; exact ⟨rfl, rfl⟩
    by_cases c2 : m.k ≤ x.q
    · obtain ⟨x3, hx3⟩ : ∃ y : En, y = { x2 with a := max x.a m.k } := ⟨_, rfl⟩
      have s3 : (cE x2).set 5 (.int .i64 (max x.a m.k)) = cE x3 := by rw [hx3]; rfl
      have e3 : cE x3 = cE (hX x m) := by rw [hx3, hx2, hx1]; simp only [hX, if_pos c1, if_pos c2]
      simp (disch := first | assumption | omega | (simp only [LN] <;> omega) | (simp (disch := first | assumption | omega | (simp only [LN] <;> omega)) only [row_alloc, row_set]; assumption)) only [W_block, P3, ↓reduceIte, reduceAdd, reduceEqDiff, reduceCtorEq, initFr, reduceLT, clsA, reduceLeDiff, reduceMul, reduceSub, reduceIte, cLiG vb m, g65, g3, cEg x, w1, w2, w3, lE, s1, s2, cEg x2, q2, a_mmx, s3]
      exact hq2 _ _ (fin _ e3)
    · have e2 : cE x2 = cE (hX x m) := by rw [hx2, hx1]; simp only [hX, if_pos c1, if_neg c2]
      simp (disch := first | assumption | omega | (simp only [LN] <;> omega) | (simp (disch := first | assumption | omega | (simp only [LN] <;> omega)) only [row_alloc, row_set]; assumption)) only [W_block, P3, ↓reduceIte, reduceAdd, reduceEqDiff, reduceCtorEq, initFr, reduceLT, clsA, reduceLeDiff, reduceMul, reduceSub, reduceIte, cLiG vb m, g65, g3, cEg x, w1, w2, w3, lE, s1, s2, cEg x2, q2]
      exact hq2 _ _ (fin _ e2)
  · obtain ⟨x2, hx2⟩ : ∃ y : En, y = { x with k := m.q } := ⟨_, rfl⟩
    have s2 : (cE x).set 3 (.int .i64 m.q) = cE x2 := by rw [hx2]; rfl
    have q2 : x2.q = x.q ∧ x2.a = x.a := by rw [hx2]; exact ⟨rfl, rfl⟩
    by_cases c2 : m.k ≤ x.q
    · obtain ⟨x3, hx3⟩ : ∃ y : En, y = { x2 with a := max x.a m.k } := ⟨_, rfl⟩
      have s3 : (cE x2).set 5 (.int .i64 (max x.a m.k)) = cE x3 := by rw [hx3]; rfl
      have e3 : cE x3 = cE (hX x m) := by rw [hx3, hx2]; simp only [hX, if_neg c1, if_pos c2]
      simp (disch := first | assumption | omega | (simp only [LN] <;> omega) | (simp (disch := first | assumption | omega | (simp only [LN] <;> omega)) only [row_alloc, row_set]; assumption)) only [W_block, P3, ↓reduceIte, reduceAdd, reduceEqDiff, reduceCtorEq, initFr, reduceLT, clsA, reduceLeDiff, reduceMul, reduceSub, reduceIte, cLiG vb m, g65, g3, cEg x, lE, s2, cEg x2, q2, a_mmx, s3]
      exact hq2 _ _ (fin _ e3)
    · have e2 : cE x2 = cE (hX x m) := by rw [hx2]; simp only [hX, if_neg c1, if_neg c2]
      simp (disch := first | assumption | omega | (simp only [LN] <;> omega) | (simp (disch := first | assumption | omega | (simp only [LN] <;> omega)) only [row_alloc, row_set]; assumption)) only [W_block, P3, ↓reduceIte, reduceAdd, reduceEqDiff, reduceCtorEq, initFr, reduceLT, clsA, reduceLeDiff, reduceMul, reduceSub, reduceIte, cLiG vb m, g65, g3, cEg x, lE, s2, cEg x2, q2]
      exact hq2 _ _ (fin _ e2)
theorem AOr.plain {ρ : Nat → Option Nat} {own room : Bool} {esz e : Nat} {c : List Value} (h : c.all plain1 = true) : AOr ρ (.cells own room esz c e) (.cells own room esz c e) := ⟨own, c, rfl, fun h => h, NL.plain h⟩
end
end Go.AM.Fd

set_option linter.unusedSimpArgs false
set_option linter.unusedVariables false
namespace Go.AM.Fd
open Nat (reduceAdd reduceEqDiff reduceLT reduceLeDiff reduceMul reduceSub)
open Go.Proofs Go.AM.F
theorem PutR.lt {H H' : AHeap} {v : Value} {l : List UInt8} (h : PutR H H' v l) {b : Nat} (hb : blk v = some b) : H.n ≤ b ∧ b < H'.n := ⟨h.2.2 b hb, h.1.lt hb⟩
theorem PutR.isS {H H' : AHeap} {v : Value} {l : List UInt8} (h : PutR H H' v l) : isS v = true := by obtain ⟨a, rfl⟩ := h.1.shape; rfl
end Go.AM.Fd

set_option linter.unusedSimpArgs false
set_option linter.unusedVariables false
namespace Go.AM
def AO.unown : AO → AO
  | .dead => .dead
  | .cells _ room esz c e => .cells false room esz c e
  | .obj _ o => .obj false o
def AHeap.unown (H : AHeap) : AHeap := ⟨H.n, H.l.map AO.unown⟩
theorem AHeap.unown_n (H : AHeap) : H.unown.n = H.n := _root_.id rfl
theorem AHeap.unown_get (H : AHeap) (b : Nat) : H.unown.get b = (H.get b).map AO.unown := by
  unfold AHeap.get AHeap.unown
  split <;> simp
theorem AO.unown_own (o : AO) : o.unown.own = false := by cases o <;> rfl
theorem AHeap.unown_no (H : AHeap) : NoOwn H.unown := fun b o h => by
  rw [AHeap.unown_get] at h
  cases hb : H.get b with
  | none => rw [hb] at h; cases h
  | some x => rw [hb] at h; cases h; exact AO.unown_own x
theorem OR.unown {σ : Sg} {w : World} {i : BI} {o : AO} (h : OR σ w i o) : OR σ w i o.unown := by
  cases o with
  | dead => trivial
  | cells own room esz c e =>
    obtain ⟨a1, a2, a3, a4, a5, c', fr, a6, a7, a8, a9⟩ := h
    exact ⟨a1, a2, a3, a4, a5, c', fr, a6, a7, a8, fun h => by cases h⟩
  | obj own o => exact h
theorem HR.unown {ng : Nat} {σ : Sg} {H : AHeap} {w : World} (h : HR ng σ H.get w) : HR ng σ H.unown.get w := by
  refine ⟨fun b i hb => ?_, fun b1 b2 i1 i2 o1 o2 _ _ _ g1 _ hw => ?_, h.lt, h.glob⟩
  · obtain ⟨o, h1, h2⟩ := h.obj b i hb
    exact ⟨o.unown, by rw [AHeap.unown_get, h1]; rfl, h2.unown⟩
  · rw [H.unown_no b1 o1 g1] at hw; cases hw
def over (H H' : AHeap) : AHeap := ⟨H'.n, (List.range (H'.n - H.n)).map (fun i => (H'.l[i]?).getD .dead) ++ H.l⟩
theorem over_old {H H' : AHeap} (hn : H.n ≤ H'.n) {b : Nat} (hb : b < H.n) : (over H H').get b = H.get b := by
  unfold AHeap.get over
  simp only
  rw [if_pos (by omega), if_pos hb, List.getElem?_append_right (by simp; omega)]
  simp only [List.length_map, List.length_range]
  rw [show H'.n - 1 - b - (H'.n - H.n) = H.n - 1 - b by omega]
theorem over_new {H H' : AHeap} {b : Nat} (hb : H.n ≤ b) (hb2 : b < H'.n) {o : AO} (h : H'.get b = some o) : (over H H').get b = some o := by
  unfold AHeap.get over at *
  simp only
  rw [if_pos hb2] at h ⊢
  rw [List.getElem?_append_left (by simp; omega)]
  simp only [List.getElem?_map]
  rw [List.getElem?_range (by omega)]
  simp [h]
theorem over_keeps {H H' : AHeap} (hn : H.n ≤ H'.n) : Keeps H (over H H') := ⟨hn, fun b hb => over_old hn hb⟩
variable {P : Program} {ng : Nat} {f : FuncId} {args : List Value} {H H' : AHeap} {v : Value}
theorem ARun.over (h : ARun P ng f args H.unown v H') : ARun P ng f args H v (AM.over H H') ∧ Keeps H (AM.over H H') := by
  obtain ⟨h0, h1, h2⟩ := h
  rw [AHeap.unown_n] at h1
  refine ⟨⟨h0, h1, fun σ w args' hr ha => ?_⟩, over_keeps h1⟩
  refine (h2 σ w args' hr.unown ha).mono ?_
  rintro e w' ⟨v', σ', rfl, k1, k2, k3⟩
  have hk : ∀ k, k < w.heap.size → w'.heap[k]? = w.heap[k]? := fun k hk => k2.keep k hk (fun b i o hb ho hw => by rw [H.unown_no b o ho] at hw; cases hw)
  have old : ∀ b i, σ b = some i → b < H.n := fun b i hb => by
    obtain ⟨o, g, _⟩ := hr.obj b i hb
    exact AHeap.get_lt g
  have back : ∀ b i, b < H.n → σ' b = some i → σ b = some i := fun b i hb hs => by
    cases hsb : σ b with
    | none =>
      have := (k2.new b i hsb hs).1.1
      rw [AHeap.unown_n] at this; omega
    | some j => have := k2.sub b j hsb; rw [hs] at this; exact this.symm
  have fresh : ∀ b i, H.n ≤ b → σ' b = some i → w.heap.size ≤ i.c := fun b i hb hs => by
    have hsb : σ b = none := by
      cases hsb : σ b with
      | none => rfl
      | some j => have := old b j hsb; omega
    rcases (k2.new b i hsb hs).2 with h | ⟨b0, i0, o0, _, e2, e3, _⟩
    · exact h
    · rw [H.unown_no b0 o0 e2] at e3; cases e3
  have obj : ∀ b i, σ' b = some i → (b < H.n ∧ σ b = some i ∧ i.c < w.heap.size) ∨ (H.n ≤ b ∧ w.heap.size ≤ i.c ∧ ∃ o, H'.get b = some o ∧ (AM.over H H').get b = some o ∧ OR σ' w' i o) := fun b i hs => by
    by_cases hb : b < H.n
    · have := back b i hb hs
      exact .inl ⟨hb, this, hr.lt b i this⟩
    · obtain ⟨o, g1, g2⟩ := k1.obj b i hs
      exact .inr ⟨by omega, fresh b i (by omega) hs, o, g1, over_new (by omega) (AHeap.get_lt g1) g1, g2⟩
  refine ⟨v', σ', rfl, ⟨?_, ?_, k1.lt, k1.glob⟩, ⟨k2.sub, ?_, ?_, ?_, ?_, k2.size, h1, k2.os, k2.tape, k2.output⟩, k3⟩
  · intro b i hs
    rcases obj b i hs with ⟨hb, hs0, _⟩ | ⟨_, _, o, _, g2, g3⟩
    · obtain ⟨o, g1, g2⟩ := hr.obj b i hs0
      exact ⟨o, by rw [over_old h1 hb]; exact g1, (g2.congr (fun _ => hk _ (hr.lt b i hs0))).mono k2.sub⟩
    · exact ⟨o, g2, g3⟩
  · intro b1 b2 i1 i2 o1 o2 hne s1 s2 g1 g2 hw hl
    rcases obj b1 i1 s1 with ⟨hb1, t1, l1⟩ | ⟨hb1, l1, p1, q1, q2, q3⟩
    · rcases obj b2 i2 s2 with ⟨hb2, t2, l2⟩ | ⟨hb2, l2, p2, r1, r2, r3⟩
      · rw [over_old h1 hb1] at g1
        rw [over_old h1 hb2] at g2
        exact hr.inj b1 b2 i1 i2 o1 o2 hne t1 t2 g1 g2 hw hl
      · omega
    · rcases obj b2 i2 s2 with ⟨hb2, t2, l2⟩ | ⟨hb2, l2, p2, r1, r2, r3⟩
      · omega
      · rw [q2] at g1; cases g1
        rw [r2] at g2; cases g2
        exact k1.inj b1 b2 i1 i2 _ _ hne s1 s2 q1 r1 hw hl
  · intro b i hb hs
    have := k2.new b i hb hs
    rw [AHeap.unown_n] at this
    rcases obj b i hs with ⟨_, hs0, _⟩ | ⟨_, l, _⟩
    · rw [hb] at hs0; cases hs0
    · exact ⟨this.1, .inl l⟩
  · intro b i o' hb ho hw
    obtain ⟨o, g1, _⟩ := hr.obj b i hb
    rw [over_old h1 (old b i hb), g1] at ho
    cases ho
    exact ⟨_, g1, hw⟩
  · intro b i o' hb ho hw
    obtain ⟨o, g1, _⟩ := hr.obj b i hb
    rw [over_old h1 (old b i hb), g1] at ho
    cases ho
    exact ⟨_, g1, hw⟩
  · intro k hlt _
    exact hk k hlt
theorem ARun.pure (h : ARun P ng f args H.unown v H') (hv : plain1 v = true) : ARun P ng f args H v H := by
  obtain ⟨h1, h2⟩ := h.over
  exact h1.gc0 h2 (.inr (NV.plain hv))
end Go.AM

set_option linter.unusedSimpArgs false
set_option linter.unusedVariables false
namespace Go.AM
namespace Hk
abbrev HF := List Value → Nat → HT → CK → Bool
def HFok (P : Program) (ng k : Nat) (h : HF) : Prop := ∀ xs n t K, h xs n t K = true → ∀ H, Rp n t H → ∃ v H', ARun P ng k xs H v H' ∧ KP K v H'
def EFok (P : Program) (ng k : Nat) (f : EF) : Prop := ∃ af, compF P ng f.sl k = some af ∧ af.sl = f.sl ∧ af.res = f.res ∧ (af.body = f.body ∨ simpC af.body = f.body) ∧ argsOK P k f.na = true
def EFof (na : Nat) (af : AFunc) : EF := ⟨na, af.sl, af.res, af.body⟩
theorem ok_af {P : Program} {ng k na : Nat} {sl : List Nat} {af : AFunc} (h : compF P ng sl k = some af) (hs : af.sl = sl) (ha : argsOK P k na = true) : EFok P ng k (EFof na af) := by
  subst hs
  exact ⟨af, h, rfl, rfl, .inl rfl, ha⟩
inductive FT
  | leaf
  | node (k : Nat) (f : EF) (l r : FT)
  | hook (k : Nat) (h : HF) (l r : FT)
noncomputable def FT.find (T : FT) (k : Nat) (K : EF → Bool) (KH : HF → Bool) : Bool :=
  FT.rec (motive := fun _ => Bool) false (fun k' f _ _ l r => Bool.rec (motive := fun _ => Bool) (Bool.rec (motive := fun _ => Bool) r l (Nat.ble k k')) (K f) (Nat.beq k k'))
    (fun k' h _ _ l r => Bool.rec (motive := fun _ => Bool) (Bool.rec (motive := fun _ => Bool) r l (Nat.ble k k')) (KH h) (Nat.beq k k')) T
def FT.ok (P : Program) (ng : Nat) : FT → Prop
  | .leaf => True
  | .node k f l r => EFok P ng k f ∧ l.ok P ng ∧ r.ok P ng
  | .hook k h l r => HFok P ng k h ∧ l.ok P ng ∧ r.ok P ng
theorem FT.find_true {P : Program} {ng : Nat} {k : Nat} {K : EF → Bool} {KH : HF → Bool} : ∀ {T : FT}, T.ok P ng → T.find k K KH = true → (∃ f, EFok P ng k f ∧ K f = true) ∨ ∃ h, HFok P ng k h ∧ KH h = true
  | .leaf, _, h => by cases h
  | .node k' f l r, hT, h => by
    have e : (FT.node k' f l r).find k K KH = Bool.rec (motive := fun _ => Bool) (Bool.rec (motive := fun _ => Bool) (r.find k K KH) (l.find k K KH) (Nat.ble k k')) (K f) (Nat.beq k k') := rfl
    rw [e] at h
    cases e1 : Nat.beq k k'
    · rw [e1] at h
      cases e2 : Nat.ble k k'
      · rw [e2] at h; exact FT.find_true hT.2.2 h
      · rw [e2] at h; exact FT.find_true hT.2.1 h
    · rw [e1] at h
      have := Nat.eq_of_beq_eq_true e1
      subst this
      exact .inl ⟨f, hT.1, h⟩
  | .hook k' f l r, hT, h => by
    have e : (FT.hook k' f l r).find k K KH = Bool.rec (motive := fun _ => Bool) (Bool.rec (motive := fun _ => Bool) (r.find k K KH) (l.find k K KH) (Nat.ble k k')) (KH f) (Nat.beq k k') := rfl
    rw [e] at h
    cases e1 : Nat.beq k k'
    · rw [e1] at h
      cases e2 : Nat.ble k k'
      · rw [e2] at h; exact FT.find_true hT.2.2 h
      · rw [e2] at h; exact FT.find_true hT.2.1 h
    · rw [e1] at h
      have := Nat.eq_of_beq_eq_true e1
      subst this
      exact .inr ⟨f, hT.1, h⟩
noncomputable def callE (T : FT) (rec : ACode → List Value → Nat → HT → EK → Bool) : Caller := fun f xs n t K => T.find f (fun ef => asT (Nat.beq xs.length ef.na) (initK ef.sl xs fun fr => rec ef.body fr n t fun e fr n t => match e with
  | .normal => resK ef.res fr t fun v => K v n t
  | .ret => resK ef.res fr t fun v => K v n t
  | _ => false)) (fun h => h xs n t K)
noncomputable def runS (T : FT) (rec : ACode → List Value → Nat → HT → EK → Bool) (c : ACode) : List Value → Nat → HT → EK → Bool :=
  ACode.rec (motive := fun _ => List Value → Nat → HT → EK → Bool)
    (fun fr n t K => K .normal fr n t)
    (fun ops fr n t K => runOps (callE T rec) ops fr [] n t fun fr n t => K .normal fr n t)
    (fun ops fr n t K => runD (callE T rec) ops fr [] n t [] fun fr n t => K .normal fr n t)
    (fun _ _ iha ihb fr n t K => iha fr n t (seqK ihb K))
    (fun c _ _ iht ihe fr n t K => evX c fr [] fun v => condK v (iht fr n t K) (ihe fr n t K))
    (fun id _ ih fr n t K => ih fr n t (blockK id K))
    (fun c ih fr n t K => ih fr n t (seqK (rec (.loop c)) K))
    (fun id fr n t K => K (.exit id) fr n t)
    (fun fr n t K => K .ret fr n t) c
noncomputable def run (T : FT) (fuel : Nat) : ACode → List Value → Nat → HT → EK → Bool :=
  Nat.rec (motive := fun _ => ACode → List Value → Nat → HT → EK → Bool) (fun _ _ _ _ _ => false) (fun _ ih => runS T ih) fuel
theorem callE_ok {P : Program} {ng : Nat} {T : FT} (hT : T.ok P ng) {rec : ACode → List Value → Nat → HT → EK → Bool} (hr : ∀ c fr n t K, rec c fr n t K = true → ∀ H, Rp n t H → W P ng c (QP K) fr H) : CallOK P ng (callE T rec) := by
  intro f xs n t K h H r
  rcases FT.find_true hT h with ⟨ef, ⟨af, h1, h2, h3, h4, h5⟩, h6⟩ | ⟨hf, h1, h2⟩
  case inr => exact h1 xs n t K h2 H r
  obtain ⟨h7, h8⟩ := asT_true h6
  have hlen := Nat.eq_of_beq_eq_true h7
  rw [initK_eq] at h8
  have hw := hr _ _ _ _ _ h8 H r
  have hw2 : W P ng af.body (QP fun e fr n t => match e with
    | .normal => resK ef.res fr t fun v => K v n t
    | .ret => resK ef.res fr t fun v => K v n t
    | _ => false) (initFr ef.sl xs) H := by
    rcases h4 with h4 | h4
    · rw [h4]; exact hw
    · rw [← h4] at hw; exact W_simp af.body hw
  refine walk h1 (by rw [hlen]; exact h5) ?_
  rw [h2]
  refine W_mono ?_ hw2
  rintro e fr H' ⟨n', t', r', h'⟩
  cases e with
  | normal => obtain ⟨v, h9, h10⟩ := resK_true r' h'; rw [h3]; exact ⟨v, h9, n', t', r', h10⟩
  | ret => obtain ⟨v, h9, h10⟩ := resK_true r' h'; rw [h3]; exact ⟨v, h9, n', t', r', h10⟩
  | exit id => cases h'
  | goto l => cases h'
  | panic ch => cases h'
  | outgrown => cases h'
theorem runS_sound {P : Program} {ng : Nat} {T : FT} (hT : T.ok P ng) {rec : ACode → List Value → Nat → HT → EK → Bool} (hr : ∀ c fr n t K, rec c fr n t K = true → ∀ H, Rp n t H → W P ng c (QP K) fr H) :
    ∀ c fr n t K, runS T rec c fr n t K = true → ∀ H, Rp n t H → W P ng c (QP K) fr H := by
  have hcall := callE_ok hT hr
  intro c
  induction c with
  | skip => intro fr n t K h H r; exact ⟨n, t, r, h⟩
  | reg ops => intro fr n t K h H r; exact runOps_sound hcall (K := fun fr n t => K .normal fr n t) h r
  | dreg ops => intro fr n t K h H r; exact runD_sound hcall (K := fun fr n t => K .normal fr n t) h .nil r
  | seq a b iha ihb =>
    intro fr n t K h H r
    show W P ng a (AQ.andThen (QP K) (W P ng b (QP K))) fr H
    exact W_mono (QP_seq (fun fr n t h H r => ihb fr n t K h H r)) (iha fr n t _ h H r)
  | cond c a b iha ihb =>
    intro fr n t K h H r
    have e : runS T rec (.cond c a b) fr n t K = evX c fr [] fun v => condK v (runS T rec a fr n t K) (runS T rec b fr n t K) := rfl
    rw [e, evX_eq] at h
    simp only [W]
    unfold condK at h
    split at h
    · rename_i tt ht
      rw [ht]
      cases tt
      · exact ihb fr n t K h H r
      · exact iha fr n t K h H r
    · cases h
  | block id c ih =>
    intro fr n t K h H r
    show W P ng c (AQ.inBlock (QP K) id) fr H
    refine W_mono ?_ (ih fr n t _ h H r)
    rintro e fr' H' ⟨n', t', r', h'⟩
    cases e with
    | exit id' =>
      simp only [blockK] at h'
      simp only [AQ.inBlock]
      cases e : Nat.beq id' id
      · rw [e] at h'
        rw [if_neg (fun hh => by subst hh; rw [Nat.beq_refl] at e; cases e)]
        exact ⟨n', t', r', h'⟩
      · rw [e] at h'
        rw [if_pos (Nat.eq_of_beq_eq_true e)]
        exact ⟨n', t', r', h'⟩
    | normal => exact ⟨n', t', r', h'⟩
    | ret => exact ⟨n', t', r', h'⟩
    | goto l => exact ⟨n', t', r', h'⟩
    | panic ch => exact ⟨n', t', r', h'⟩
    | outgrown => exact ⟨n', t', r', h'⟩
  | loop c ih =>
    intro fr n t K h H r
    exact W_again (W_mono (QP_seq (c := .loop c) (fun fr n t h H r => hr (.loop c) fr n t K h H r)) (ih fr n t _ h H r))
  | exit id => intro fr n t K h H r; exact ⟨n, t, r, h⟩
  | ret => intro fr n t K h H r; exact ⟨n, t, r, h⟩
theorem run_sound {P : Program} {ng : Nat} {T : FT} (hT : T.ok P ng) : ∀ (fuel : Nat) (c : ACode) (fr : List Value) (n : Nat) (t : HT) (K : EK), run T fuel c fr n t K = true → ∀ H, Rp n t H → W P ng c (QP K) fr H
  | 0, c, fr, n, t, K, h => by cases h
  | m + 1, c, fr, n, t, K, h => runS_sound hT (rec := run T m) (run_sound hT m) c fr n t K h
noncomputable def runF (T : FT) (fuel : Nat) (f : FuncId) (xs : List Value) (n : Nat) (t : HT) (K : CK) : Bool := callE T (run T fuel) f xs n t K
theorem runF_sound {P : Program} {ng : Nat} {T : FT} (hT : T.ok P ng) {fuel : Nat} {f : FuncId} {xs : List Value} {n : Nat} {t : HT} {K : CK} (h : runF T fuel f xs n t K = true) {H : AHeap} (r : Rp n t H) : ∃ v H', ARun P ng f xs H v H' ∧ KP K v H' :=
  callE_ok hT (run_sound hT fuel) f xs n t K h H r
theorem closed_any {P : Program} {T : FT} (hT : T.ok P 0) {fuel : Nat} {f : FuncId} (h : runF T fuel f [] 0 .leaf isTrue = true) (H : AHeap) : ARun P 0 f [] H (.bool true) H := by
  obtain ⟨v, H', ⟨h0, _, h1⟩, h2⟩ := runF_sound hT h Rp.empty
  have hv := isTrue_spec h2
  subst hv
  refine ⟨h0, Nat.le_refl _, fun σ w args' hr ha => ?_⟩
  cases ha
  refine (h1 (fun _ => none) w [] (HR.empty w) .nil).mono ?_
  rintro e w' ⟨v', σ', rfl, k1, k2, k3⟩
  have hk : ∀ k, k < w.heap.size → w'.heap[k]? = w.heap[k]? := fun k hk => k2.keep k hk (fun b i o hb => by cases hb)
  have hsz := k2.size
  refine ⟨v', σ, rfl, ⟨fun b i hb => ?_, hr.inj, fun b i hb => Nat.lt_of_lt_of_le (hr.lt b i hb) hsz, hr.glob⟩, ⟨Sg.le.refl σ, (fun b i h1 h2 => by rw [h1] at h2; cases h2), fun _ _ o' _ a b => ⟨o', a, b⟩, fun _ _ o' _ a b => ⟨o', a, b⟩, fun k a _ => hk k a, hsz, Nat.le_refl _, k2.os, k2.tape, k2.output⟩, ?_⟩
  · obtain ⟨o, a1, a2⟩ := hr.obj b i hb
    exact ⟨o, a1, a2.congr (fun _ => hk _ (hr.lt b i hb))⟩
  · rw [k3.bool_inv]; exact .bool _
theorem HFok.of {P : Program} {ng k : Nat} {h : HF} (hk : ∀ xs n t K, h xs n t K = true → ∀ H, Rp n t H → ∃ v, ARun P ng k xs H v H ∧ K v n t = true) : HFok P ng k h := fun xs n t K h1 H r => by
  obtain ⟨v, h2, h3⟩ := hk xs n t K h1 H r
  exact ⟨v, H, h2, n, t, r, h3⟩
noncomputable def byK (c : List Value) : (List UInt8 → Bool) → Bool :=
  List.rec (motive := fun _ => (List UInt8 → Bool) → Bool) (fun K => K []) (fun x _ ih K => match x with
    | .int .u8 (.ofNat n) => forceB (Nat.ble n 255) fun b => Bool.rec (motive := fun _ => Bool) false (ih fun l => K (UInt8.ofNat n :: l)) b
    | _ => false) c
theorem byK_cons (x : Value) (c : List Value) (K : List UInt8 → Bool) : byK (x :: c) K = match x with
      | .int .u8 (.ofNat n) => forceB (Nat.ble n 255) fun b => Bool.rec (motive := fun _ => Bool) false (byK c fun l => K (UInt8.ofNat n :: l)) b
      | _ => false := rfl
theorem byK_true : ∀ {c : List Value} {K : List UInt8 → Bool}, byK c K = true → ∃ l, c = cellsOf l ∧ K l = true
  | [], K, h => ⟨[], rfl, h⟩
  | x :: c, K, h => by
    rw [byK_cons] at h
    split at h
    · rename_i n
      rw [forceB_eq] at h
      cases e : Nat.ble n 255
      · rw [e] at h; cases h
      · rw [e] at h
        have hn := Nat.le_of_ble_eq_true e
        obtain ⟨l, rfl, h2⟩ := byK_true h
        exact ⟨UInt8.ofNat n :: l, by simp [cellsOf]; omega, h2⟩
    · cases h
noncomputable def dropK (l : List Value) : Nat → (List Value → Bool) → Bool :=
  List.rec (motive := fun _ => Nat → (List Value → Bool) → Bool) (fun _ K => K []) (fun x r ih n K => Nat.rec (motive := fun _ => Bool) (K (x :: r)) (fun m _ => ih m K) n) l
theorem dropK_eq : ∀ (l : List Value) (n : Nat) (K : List Value → Bool), dropK l n K = K (l.drop n)
  | [], n, K => by simp [dropK]
  | x :: l, 0, K => rfl
  | x :: l, n + 1, K => (dropK_eq l n K).trans (by simp)
noncomputable def takeK (l : List Value) : Nat → (List Value → Bool) → Bool :=
  List.rec (motive := fun _ => Nat → (List Value → Bool) → Bool) (fun _ K => K []) (fun x _ ih n K => Nat.rec (motive := fun _ => Bool) (K []) (fun m _ => ih m fun r => K (x :: r)) n) l
theorem takeK_eq : ∀ (l : List Value) (n : Nat) (K : List Value → Bool), takeK l n K = K (l.take n)
  | [], n, K => by simp [takeK]
  | x :: l, 0, K => rfl
  | x :: l, n + 1, K => (takeK_eq l n _).trans (by simp)
noncomputable def bqK (v : Value) (t : HT) (K : List UInt8 → Bool) : Bool := match v with
  | .slice none n k => asT (Nat.beq n 0) (asT (Nat.beq k 0) (K []))
  | .slice (some ⟨b, o, none⟩) n k => t.getK b fun x => match x with
    | .cells own room esz c e => asT (Nat.beq esz 1) (asT (Nat.ble n k) (asT (Nat.ble (Nat.add o n) c.length) (dropK c o fun c => takeK c n fun c => byK c K)))
    | _ => false
  | _ => false
theorem bqK_true {n : Nat} {t : HT} {H : AHeap} (r : Rp n t H) {v : Value} {K : List UInt8 → Bool} (h : bqK v t K = true) : ∃ l, BQ H v l ∧ K l = true := by
  unfold bqK at h
  split at h
  · obtain ⟨h1, h2⟩ := asT_true h
    obtain ⟨h3, h4⟩ := asT_true h2
    have := Nat.eq_of_beq_eq_true h1
    have := Nat.eq_of_beq_eq_true h3
    subst_vars
    exact ⟨[], .inl ⟨rfl, rfl⟩, h4⟩
  · rename_i b o n k
    obtain ⟨ob, h1, h2⟩ := r.getK h
    split at h2
    · rename_i own room esz c e
      obtain ⟨h3, h4⟩ := asT_true h2
      obtain ⟨h5, h6⟩ := asT_true h4
      obtain ⟨h7, h8⟩ := asT_true h6
      rw [dropK_eq, takeK_eq] at h8
      obtain ⟨l, h9, h10⟩ := byK_true h8
      have h3 := Nat.eq_of_beq_eq_true h3
      have h5 := Nat.le_of_ble_eq_true h5
      have h7 : o + n ≤ c.length := Nat.le_of_ble_eq_true h7
      have hl : l.length = n := by
        have := congrArg List.length h9
        rw [cellsOf_length, List.length_take, List.length_drop] at this; omega
      subst hl
      exact ⟨l, .inr (.inr ⟨b, o, k, own, room, esz, c, e, rfl, h5, h1, .inl h3, h9, h7⟩), h10⟩
    · cases h2
  · cases h
end Hk
theorem BQ.unown {H : AHeap} {v : Value} {l : List UInt8} (h : BQ H v l) : BQ H.unown v l := by
  rcases h with h | h | ⟨b, o, k, own, room, esz, c, e, rfl, h1, h2, h3, h4, h5⟩
  · exact .inl h
  · exact .inr (.inl h)
  · exact .inr (.inr ⟨b, o, k, false, room, esz, c, e, rfl, h1, by rw [AHeap.unown_get, h2]; rfl, h3, h4, h5⟩)
theorem elems_unown (H : AHeap) (esz : Nat) (v : Value) : elemsA H.unown esz v = elemsA H esz v := by
  unfold elemsA
  split
  · rfl
  · rename_i b o n k
    rw [AHeap.unown_get]
    cases H.get b with
    | none => rfl
    | some o => cases o <;> rfl
  · rfl
  · rfl
theorem BS.unown {H : AHeap} {v : Value} {l : List UInt8} (h : BS H v l) : BS H.unown v l := ⟨h.sh, by rw [elems_unown]; exact h.el⟩
theorem Sl.unown {H : AHeap} {esz : Nat} {v : Value} {rows : List (List Value)} (h : Sl H esz v rows) : Sl H.unown esz v rows := ⟨h.sh, h.row, by rw [elems_unown]; exact h.el⟩
end Go.AM

set_option linter.unusedSimpArgs false
set_option linter.unusedVariables false
namespace Go.AM.Hk
open Go.Proofs Go.AM.F Go.AM.Fd
noncomputable def eiK (n : Nat) : Nat → (Nat → Bool) → Bool := Nat.rec (motive := fun _ => Nat → (Nat → Bool) → Bool) (fun r K => K r) (fun _ ih r K => forceN (ah r) fun r' => ih r' K) n
theorem eiK_eq : ∀ (n r : Nat) (K : Nat → Bool), eiK n r K = K (ei n r)
  | 0, r, K => rfl
  | n + 1, r, K => by
    show forceN (ah r) (fun r' => eiK n r' K) = _
    rw [forceN_eq, eiK_eq n]; rfl
noncomputable def crcK (l : List UInt8) : Nat → (Nat → Bool) → Bool := List.rec (motive := fun _ => Nat → (Nat → Bool) → Bool) (fun r K => K r) (fun c _ ih r K => forceN (Nat.xor r c.toNat) fun r1 => eiK 8 r1 fun r2 => ih r2 K) l
theorem crcK_eq : ∀ (l : List UInt8) (r : Nat) (K : Nat → Bool), crcK l r K = K (l.foldl crcS r)
  | [], r, K => rfl
  | c :: l, r, K => by
    show forceN (Nat.xor r c.toNat) (fun r1 => eiK 8 r1 fun r2 => crcK l r2 K) = _
    rw [forceN_eq, eiK_eq, crcK_eq l]; rfl
noncomputable def sumH : HF := fun xs n t K => match xs with
  | [v] => bqK v t fun l => asT (Nat.ble l.length 1000000) (crcK l 4294967295 fun r => forceN (Nat.xor 4294967295 r) fun r => K (.int .u32 (.ofNat r)) n t)
  | _ => false
theorem sumH_true {xs : List Value} {n : Nat} {t : HT} {K : CK} (h : sumH xs n t K = true) {H : AHeap} (r : Rp n t H) : ∃ v l, xs = [v] ∧ BQ H v l ∧ l.length ≤ 1000000 ∧ K (.int .u32 (crc l : Nat)) n t = true := by
  unfold sumH at h
  split at h
  · rename_i v
    obtain ⟨l, h1, h2⟩ := bqK_true r h
    obtain ⟨h3, h4⟩ := asT_true h2
    rw [crcK_eq, forceN_eq] at h4
    exact ⟨v, l, rfl, h1, Nat.le_of_ble_eq_true h3, h4⟩
  · cases h
theorem sum97 : HFok Go.Proofs.Try.prog 0 97 sumH := HFok.of fun xs n t K h H r => by
  obtain ⟨v, l, rfl, h1, h2, h3⟩ := sumH_true h r
  obtain ⟨w, H', a, rfl, rfl⟩ := t97 h1.bs (by omega)
  exact ⟨_, a, h3⟩
noncomputable def iK (v : Value) (K : Int → Bool) : Bool := match v with
  | .int .i64 n => K n
  | _ => false
end Go.AM.Hk

set_option maxRecDepth 100000
namespace Go.AM.TFw
open Go.Proofs
def EFok (P : Program) (ng k : Nat) (f : EF) : Prop := ((compF P ng f.sl k).map fun af => (af.sl, af.res, simpC af.body)) = some (f.sl, f.res, f.body)
def e24 : EF := Hk.EFof 1 F.f24
theorem e24_ok : Hk.EFok Go.Proofs.Try.prog 0 24 e24 := Hk.ok_af F.f24_ok rfl F.f24_n
def e31 : EF := Hk.EFof 0 F.f31
theorem e31_ok : Hk.EFok Go.Proofs.Try.prog 0 31 e31 := Hk.ok_af F.f31_ok rfl F.f31_n
def e32 : EF := Hk.EFof 3 F.f32
theorem e32_ok : Hk.EFok Go.Proofs.Try.prog 0 32 e32 := Hk.ok_af F.f32_ok rfl F.f32_n
def e34 : EF := Hk.EFof 2 F.f34
theorem e34_ok : Hk.EFok Go.Proofs.Try.prog 0 34 e34 := Hk.ok_af F.f34_ok rfl F.f34_n
def e36 : EF := Hk.EFof 1 F.f36
theorem e36_ok : Hk.EFok Go.Proofs.Try.prog 0 36 e36 := Hk.ok_af F.f36_ok rfl F.f36_n
def e37 : EF := Hk.EFof 2 F.f37
theorem e37_ok : Hk.EFok Go.Proofs.Try.prog 0 37 e37 := Hk.ok_af F.f37_ok rfl F.f37_n
def e39 : EF := Hk.EFof 1 F.f39
theorem e39_ok : Hk.EFok Go.Proofs.Try.prog 0 39 e39 := Hk.ok_af F.f39_ok rfl F.f39_n
def e40 : EF := Hk.EFof 1 F.f40
theorem e40_ok : Hk.EFok Go.Proofs.Try.prog 0 40 e40 := Hk.ok_af F.f40_ok rfl F.f40_n
def e41 : EF := Hk.EFof 1 F.f41
theorem e41_ok : Hk.EFok Go.Proofs.Try.prog 0 41 e41 := Hk.ok_af F.f41_ok rfl F.f41_n
def e62 : EF := Hk.EFof 2 F.f62
theorem e62_ok : Hk.EFok Go.Proofs.Try.prog 0 62 e62 := Hk.ok_af F.f62_ok rfl F.f62_n
def e63 : EF := Hk.EFof 1 F.f63
theorem e63_ok : Hk.EFok Go.Proofs.Try.prog 0 63 e63 := Hk.ok_af F.f63_ok rfl F.f63_n
def e64 : EF := Hk.EFof 1 F.f64
theorem e64_ok : Hk.EFok Go.Proofs.Try.prog 0 64 e64 := Hk.ok_af F.f64_ok rfl F.f64_n
def e65 : EF := Hk.EFof 1 F.f65
theorem e65_ok : Hk.EFok Go.Proofs.Try.prog 0 65 e65 := Hk.ok_af F.f65_ok rfl F.f65_n
def e73 : EF := Hk.EFof 1 F.f73
theorem e73_ok : Hk.EFok Go.Proofs.Try.prog 0 73 e73 := Hk.ok_af F.f73_ok rfl F.f73_n
def e74 : EF := Hk.EFof 2 F.f74
theorem e74_ok : Hk.EFok Go.Proofs.Try.prog 0 74 e74 := Hk.ok_af F.f74_ok rfl F.f74_n
def e75 : EF := Hk.EFof 1 F.f75
theorem e75_ok : Hk.EFok Go.Proofs.Try.prog 0 75 e75 := Hk.ok_af F.f75_ok rfl F.f75_n
def e76 : EF := Hk.EFof 3 F.f76
theorem e76_ok : Hk.EFok Go.Proofs.Try.prog 0 76 e76 := Hk.ok_af F.f76_ok rfl F.f76_n
def e77 : EF := Hk.EFof 3 F.f77
theorem e77_ok : Hk.EFok Go.Proofs.Try.prog 0 77 e77 := Hk.ok_af F.f77_ok rfl F.f77_n
def e78 : EF := Hk.EFof 2 F.f78
theorem e78_ok : Hk.EFok Go.Proofs.Try.prog 0 78 e78 := Hk.ok_af F.f78_ok rfl F.f78_n
def e79 : EF := Hk.EFof 2 F.f79
theorem e79_ok : Hk.EFok Go.Proofs.Try.prog 0 79 e79 := Hk.ok_af F.f79_ok rfl F.f79_n
def e80 : EF := Hk.EFof 2 F.f80
theorem e80_ok : Hk.EFok Go.Proofs.Try.prog 0 80 e80 := Hk.ok_af F.f80_ok rfl F.f80_n
def e81 : EF := Hk.EFof 2 F.f81
theorem e81_ok : Hk.EFok Go.Proofs.Try.prog 0 81 e81 := Hk.ok_af F.f81_ok rfl F.f81_n
def e82 : EF := Hk.EFof 2 F.f82
theorem e82_ok : Hk.EFok Go.Proofs.Try.prog 0 82 e82 := Hk.ok_af F.f82_ok rfl F.f82_n
def e84 : EF := Hk.EFof 2 F.f84
theorem e84_ok : Hk.EFok Go.Proofs.Try.prog 0 84 e84 := Hk.ok_af F.f84_ok rfl F.f84_n
def e85 : EF := Hk.EFof 2 F.f85
theorem e85_ok : Hk.EFok Go.Proofs.Try.prog 0 85 e85 := Hk.ok_af F.f85_ok rfl F.f85_n
def e96 : EF := Hk.EFof 1 F.f96
theorem e96_ok : Hk.EFok Go.Proofs.Try.prog 0 96 e96 := Hk.ok_af F.f96_ok rfl F.f96_n
def e98 : EF := Hk.EFof 2 F.f98
theorem e98_ok : Hk.EFok Go.Proofs.Try.prog 0 98 e98 := Hk.ok_af F.f98_ok rfl F.f98_n
def e99 : EF := Hk.EFof 1 F.f99
theorem e99_ok : Hk.EFok Go.Proofs.Try.prog 0 99 e99 := Hk.ok_af F.f99_ok rfl F.f99_n
def e100 : EF := Hk.EFof 1 F.f100
theorem e100_ok : Hk.EFok Go.Proofs.Try.prog 0 100 e100 := Hk.ok_af F.f100_ok rfl F.f100_n
def e101 : EF := Hk.EFof 1 F.f101
theorem e101_ok : Hk.EFok Go.Proofs.Try.prog 0 101 e101 := Hk.ok_af F.f101_ok rfl F.f101_n
def e103 : EF := Hk.EFof 2 F.f103
theorem e103_ok : Hk.EFok Go.Proofs.Try.prog 0 103 e103 := Hk.ok_af F.f103_ok rfl F.f103_n
def e104 : EF := Hk.EFof 1 F.f104
theorem e104_ok : Hk.EFok Go.Proofs.Try.prog 0 104 e104 := Hk.ok_af F.f104_ok rfl F.f104_n
def e105 : EF := Hk.EFof 2 F.f105
theorem e105_ok : Hk.EFok Go.Proofs.Try.prog 0 105 e105 := Hk.ok_af F.f105_ok rfl F.f105_n
def e110 : EF := Hk.EFof 2 F.f110
theorem e110_ok : Hk.EFok Go.Proofs.Try.prog 0 110 e110 := Hk.ok_af F.f110_ok rfl F.f110_n
def e111 : EF := Hk.EFof 1 F.f111
theorem e111_ok : Hk.EFok Go.Proofs.Try.prog 0 111 e111 := Hk.ok_af F.f111_ok rfl F.f111_n
def e112 : EF := Hk.EFof 2 F.f112
theorem e112_ok : Hk.EFok Go.Proofs.Try.prog 0 112 e112 := Hk.ok_af F.f112_ok rfl F.f112_n
def e113 : EF := Hk.EFof 1 F.f113
theorem e113_ok : Hk.EFok Go.Proofs.Try.prog 0 113 e113 := Hk.ok_af F.f113_ok rfl F.f113_n
def e114 : EF := Hk.EFof 1 F.f114
theorem e114_ok : Hk.EFok Go.Proofs.Try.prog 0 114 e114 := Hk.ok_af F.f114_ok rfl F.f114_n
def e116 : EF := Hk.EFof 2 F.f116
theorem e116_ok : Hk.EFok Go.Proofs.Try.prog 0 116 e116 := Hk.ok_af F.f116_ok rfl F.f116_n
def e117 : EF := Hk.EFof 1 F.f117
theorem e117_ok : Hk.EFok Go.Proofs.Try.prog 0 117 e117 := Hk.ok_af F.f117_ok rfl F.f117_n
def e118 : EF := Hk.EFof 2 F.f118
theorem e118_ok : Hk.EFok Go.Proofs.Try.prog 0 118 e118 := Hk.ok_af F.f118_ok rfl F.f118_n
def e119 : EF := Hk.EFof 2 F.f119
theorem e119_ok : Hk.EFok Go.Proofs.Try.prog 0 119 e119 := Hk.ok_af F.f119_ok rfl F.f119_n
noncomputable def tab : Hk.FT := (.node 81 e81 (.node 63 e63 (.node 37 e37 (.node 32 e32 (.node 31 e31 (.node 24 e24 .leaf .leaf) .leaf) (.node 36 e36 (.node 34 e34 .leaf .leaf) .leaf)) (.node 41 e41 (.node 40 e40 (.node 39 e39 .leaf .leaf) .leaf) (.node 62 e62 .leaf .leaf))) (.node 76 e76 (.node 73 e73 (.node 65 e65 (.node 64 e64 .leaf .leaf) .leaf) (.node 75 e75 (.node 74 e74 .leaf .leaf) .leaf)) (.node 79 e79 (.node 78 e78 (.node 77 e77 .leaf .leaf) .leaf) (.node 80 e80 .leaf .leaf)))) (.node 104 e104 (.node 98 e98 (.node 85 e85 (.node 84 e84 (.node 82 e82 .leaf .leaf) .leaf) (.hook 97 Hk.sumH (.node 96 e96 .leaf .leaf) .leaf)) (.node 101 e101 (.node 100 e100 (.node 99 e99 .leaf .leaf) .leaf) (.node 103 e103 .leaf .leaf))) (.node 114 e114 (.node 111 e111 (.node 110 e110 (.node 105 e105 .leaf .leaf) .leaf) (.node 113 e113 (.node 112 e112 .leaf .leaf) .leaf)) (.node 118 e118 (.node 117 e117 (.node 116 e116 .leaf .leaf) .leaf) (.node 119 e119 .leaf .leaf)))))
theorem tab_ok : tab.ok Go.Proofs.Try.prog 0 := ⟨e81_ok, ⟨e63_ok, ⟨e37_ok, ⟨e32_ok, ⟨e31_ok, ⟨e24_ok, trivial, trivial⟩, trivial⟩, ⟨e36_ok, ⟨e34_ok, trivial, trivial⟩, trivial⟩⟩, ⟨e41_ok, ⟨e40_ok, ⟨e39_ok, trivial, trivial⟩, trivial⟩, ⟨e62_ok, trivial, trivial⟩⟩⟩, ⟨e76_ok, ⟨e73_ok, ⟨e65_ok, ⟨e64_ok, trivial, trivial⟩, trivial⟩, ⟨e75_ok, ⟨e74_ok, trivial, trivial⟩, trivial⟩⟩, ⟨e79_ok, ⟨e78_ok, ⟨e77_ok, trivial, trivial⟩, trivial⟩, ⟨e80_ok, trivial, trivial⟩⟩⟩⟩, ⟨e104_ok, ⟨e98_ok, ⟨e85_ok, ⟨e84_ok, ⟨e82_ok, trivial, trivial⟩, trivial⟩, ⟨Hk.sum97, ⟨e96_ok, trivial, trivial⟩, trivial⟩⟩, ⟨e101_ok, ⟨e100_ok, ⟨e99_ok, trivial, trivial⟩, trivial⟩, ⟨e103_ok, trivial, trivial⟩⟩⟩, ⟨e114_ok, ⟨e111_ok, ⟨e110_ok, ⟨e105_ok, trivial, trivial⟩, trivial⟩, ⟨e113_ok, ⟨e112_ok, trivial, trivial⟩, trivial⟩⟩, ⟨e118_ok, ⟨e117_ok, ⟨e116_ok, trivial, trivial⟩, trivial⟩, ⟨e119_ok, trivial, trivial⟩⟩⟩⟩⟩
end Go.AM.TFw

set_option linter.unusedSimpArgs false
set_option linter.unusedVariables false
namespace Go.AM.TFw
open Nat (reduceAdd reduceEqDiff reduceLT reduceLeDiff reduceMul reduceSub)
theorem works_ev : Hk.runF tab 100000 31 [] 0 .leaf isTrue = true := by kernel_rfl
end Go.AM.TFw
namespace Go.AM.Fd
open Nat (reduceAdd reduceEqDiff reduceLT reduceLeDiff reduceMul reduceSub)
open Go.Proofs Go.AM.F
theorem t31 (H : AHeap) : ∃ w H', ARun Go.Proofs.Try.prog 0 31 [] H w H' ∧ w = .bool true ∧ H' = H := ⟨_, _, Hk.closed_any TFw.tab_ok TFw.works_ev H, rfl, rfl⟩
structure Cl where
  n : Nat
  B : List UInt8
  vB : Value
  F : Li
  vF : Value
  I : Int
def cC (c : Cl) : List Value := [.int .u8 (c.n : Nat), c.vB, .int .u8 (c.F.f : Nat), .int .u8 (c.F.t : Nat), .int .i64 c.F.q, .int .i64 c.F.k, c.vF, .int .i64 c.I]
structure okC (H : AHeap) (c : Cl) : Prop where
  hn : c.n < 256
  hB : BQ H c.vB c.B
  hF : BQ H c.vF c.F.B
  hr : rgLi c.F
  hI : -9223372036854775808 ≤ c.I ∧ c.I ≤ 9223372036854775807
theorem okC.keeps {H H' : AHeap} {c : Cl} (h : okC H c) (k : Keeps H H') : okC H' c := ⟨h.hn, h.hB.keeps k, h.hF.keeps k, h.hr, h.hI⟩
def few18 (cs : List Cl) : Prop := cs.length ≤ 200 ∧ ∀ c ∈ cs, c.B.length ≤ 6000 ∧ c.F.B.length ≤ 6000
theorem cCg (c : Cl) : (cC c)[0]? = some (.int .u8 (c.n : Nat)) ∧ (cC c)[1]? = some c.vB ∧ (cC c)[6]? = some c.vF ∧ (cC c)[7]? = some (.int .i64 c.I) := ⟨rfl, rfl, rfl, rfl⟩
theorem t30 {H : AHeap} {v : Value} {cs : List Cl} (hs : Sl H 8 v (cs.map cC)) (hc : ∀ c ∈ cs, okC H c) : ∃ w H', ARun Go.Proofs.Try.prog 0 30 [v] H w H' ∧ ∃ b, w = .bool b ∧ H' = H ∧ (b = false → few18 cs) := by
  refine walk2 f30_ok f30_n ?_
  intro Q hq1 hq2
  have his := hs.is
  have hlen := hs.len
  rw [List.length_map] at hlen
  by_cases h0 : 200 < cs.length
  · simp (disch := first | assumption | omega | (simp only [LN] <;> omega) | (simp (disch := first | assumption | omega | (simp only [LN] <;> omega)) only [row_alloc, row_set]; assumption)) only [f30, W_block, P3, ↓reduceIte, reduceAdd, reduceEqDiff, reduceCtorEq, initFr, reduceLT, clsA, reduceLeDiff, reduceMul, reduceSub, reduceIte, hlen]
    exact hq2 _ _ ⟨_, rfl, true, rfl, rfl, by simp⟩
  simp (disch := first | assumption | omega | (simp only [LN] <;> omega) | (simp (disch := first | assumption | omega | (simp only [LN] <;> omega)) only [row_alloc, row_set]; assumption)) only [f30, W_block, P3, ↓reduceIte, reduceAdd, reduceEqDiff, reduceCtorEq, initFr, reduceLT, clsA, reduceLeDiff, reduceMul, reduceSub, reduceIte, hlen]
  refine W_loop2 (fun q fr K => ∃ (i n : Nat) (a b : Value), i ≤ cs.length ∧ q = cs.length - i ∧ n ≤ 12000 ∧ (∀ j (h : j < i) (h2 : j < cs.length), cs[j].B.length ≤ 6000 ∧ cs[j].F.B.length ≤ 6000) ∧ K = H ∧ fr = [v, .bool false, .int .i64 (n : Nat), .int .i64 (i : Nat), .bool false, a, b]) cs.length ⟨0, 0, _, _, by omega, rfl, by omega, by intro j h; omega, rfl, rfl⟩ ?_
  rintro Q' q fr K ⟨i, n, a, b, hi, rfl, hn, hall, rfl, rfl⟩ hnx hex hrt
  by_cases hci : i < cs.length
  case neg =>
    simp (disch := first | assumption | omega | (simp only [LN] <;> omega) | (simp (disch := first | assumption | omega | (simp only [LN] <;> omega)) only [row_alloc, row_set]; assumption)) only [W_block, P3, ↓reduceIte, reduceAdd, reduceEqDiff, reduceCtorEq, initFr, reduceLT, clsA, reduceLeDiff, reduceMul, reduceSub, reduceIte]
    refine hex _ _ _ ?_
    by_cases h1 : 6000 < n
    · simp (disch := first | assumption | omega | (simp only [LN] <;> omega) | (simp (disch := first | assumption | omega | (simp only [LN] <;> omega)) only [row_alloc, row_set]; assumption)) only [W_block, P3, ↓reduceIte, reduceAdd, reduceEqDiff, reduceCtorEq, initFr, reduceLT, clsA, reduceLeDiff, reduceMul, reduceSub, reduceIte]
      exact hq2 _ _ ⟨_, rfl, true, rfl, rfl, by simp⟩
    · simp (disch := first | assumption | omega | (simp only [LN] <;> omega) | (simp (disch := first | assumption | omega | (simp only [LN] <;> omega)) only [row_alloc, row_set]; assumption)) only [W_block, P3, ↓reduceIte, reduceAdd, reduceEqDiff, reduceCtorEq, initFr, reduceLT, clsA, reduceLeDiff, reduceMul, reduceSub, reduceIte]
      exact hq2 _ _ ⟨_, rfl, false, rfl, rfl, fun _ => ⟨by omega, fun c hcm => by
        obtain ⟨j, hj, rfl⟩ := List.mem_iff_getElem.1 hcm
        exact hall j (by omega) hj⟩⟩
  obtain ⟨hnn, hrow⟩ := hs.at_ (by omega) (i := i) (by simpa using hci)
  rw [List.getElem_map] at hrow
  have hok := hc _ (List.getElem_mem hci)
  obtain ⟨c, hce⟩ : ∃ c, c = cs[i] := ⟨_, rfl⟩
  rw [← hce] at hrow hok
  have e1 := hok.hB.bs.sl.len
  have e2 := hok.hB.bs.sl.is
  have e3 := hok.hF.bs.sl.len
  have e4 := hok.hF.bs.sl.is
  rw [List.length_map] at e1 e3
  have hw : IntKind.i64.wrap (6000 - (n : Int)) = 6000 - (n : Int) := wrap_i64 (by omega) (by omega)
  by_cases h1 : (6000 - (n : Int)) < (c.B.length : Int)
  · simp (disch := first | assumption | omega | (simp only [LN] <;> omega) | (simp (disch := first | assumption | omega | (simp only [LN] <;> omega)) only [row_alloc, row_set]; assumption)) only [W_block, P3, ↓reduceIte, reduceAdd, reduceEqDiff, reduceCtorEq, initFr, reduceLT, clsA, reduceLeDiff, reduceMul, reduceSub, reduceIte, hlen, hrow, cCg c, e1, hw]
    refine hrt _ _ ?_
    exact hq2 _ _ ⟨_, rfl, true, rfl, rfl, by simp⟩
  by_cases h2 : (6000 - (n : Int)) < (c.F.B.length : Int)
  · simp (disch := first | assumption | omega | (simp only [LN] <;> omega) | (simp (disch := first | assumption | omega | (simp only [LN] <;> omega)) only [row_alloc, row_set]; assumption)) only [W_block, P3, ↓reduceIte, reduceAdd, reduceEqDiff, reduceCtorEq, initFr, reduceLT, clsA, reduceLeDiff, reduceMul, reduceSub, reduceIte, hlen, hrow, cCg c, e1, e3, hw]
    refine hrt _ _ ?_
    exact hq2 _ _ ⟨_, rfl, true, rfl, rfl, by simp⟩
  have w1 : IntKind.i64.wrap ((n : Int) + (c.B.length : Int)) = ((n + c.B.length : Nat) : Int) := by rw [wrap_i64 (by omega) (by omega)]; push_cast; rfl
  have w2 : IntKind.i64.wrap (((n + c.B.length : Nat) : Int) + (c.F.B.length : Int)) = ((n + c.B.length + c.F.B.length : Nat) : Int) := by rw [wrap_i64 (by omega) (by omega)]; push_cast; rfl
  simp (disch := first | assumption | omega | (simp only [LN] <;> omega) | (simp (disch := first | assumption | omega | (simp only [LN] <;> omega)) only [row_alloc, row_set]; assumption)) only [W_block, P3, ↓reduceIte, reduceAdd, reduceEqDiff, reduceCtorEq, initFr, reduceLT, clsA, reduceLeDiff, reduceMul, reduceSub, reduceIte, hlen, hrow, cCg c, e1, e3, hw, w1, w2, wrap_succ (n := i) (by omega)]
  refine hnx _ _ _ ⟨i + 1, n + c.B.length + c.F.B.length, _, _, by omega, rfl, by omega, ?_, rfl, rfl⟩ (by omega)
  intro j hj hj2
  by_cases hji : j < i
  · exact hall j hji hj2
  · have : j = i := by omega
    subst this
    rw [← hce]
    omega
end Go.AM.Fd

set_option linter.unusedSimpArgs false
set_option linter.unusedVariables false
namespace Go.AM.Fd
open Nat (reduceAdd reduceEqDiff reduceLT reduceLeDiff reduceMul reduceSub)
open Go.Proofs Go.AM.F
theorem modu8 {n : Nat} (h : n < 256) : binA .rem (.int .u8 (n : Int)) (.int .u8 8) = some (.int .u8 ((n % 8 : Nat) : Int)) := b_rem8 n
theorem fitC {H : AHeap} {r : List Value} (h : AR Go.Proofs.Try.prog H.get 84 r) : ∃ c, r = cC c ∧ okC H c := by
  have hf : fitsL Go.Proofs.Try.prog H.get ([.int .u8, .sl 22] ++ ([.int .u8, .int .u8, .int .i64, .int .i64, .sl 22] ++ [.int .i64])) r := AR.flat (d := 20) (by kernel_rfl) h
  obtain ⟨h1, h2⟩ := hf.split
  obtain ⟨h3, h4⟩ := h2.split
  obtain ⟨a, r1, e1, a1, g1⟩ := h1.inv
  obtain ⟨b, r2, rfl, a2, g2⟩ := g1.inv
  obtain rfl := g2.end_
  obtain ⟨n, rfl, hn⟩ := fits_u8 a1
  have a2 : AR Go.Proofs.Try.prog H.get 22 [b] := a2
  obtain ⟨B, hB⟩ := a2.bq Go.Proofs.Try.underlying22 Go.Proofs.Try.underlying5 (by kernel_rfl)
  obtain ⟨F, vF, e3, hr, hF⟩ := fitLi h3
  obtain ⟨d, r3, e4, a4, g4⟩ := h4.inv
  obtain rfl := g4.end_
  obtain ⟨I, rfl, hI⟩ := fits_i64 a4
  refine ⟨⟨n, B, b, F, vF, I⟩, ?_, ⟨hn, hB, hF, hr, hI⟩⟩
  have e : r = r.take 2 ++ ((r.drop 2).take 5 ++ (r.drop 2).drop 5) := by rw [List.take_append_drop, List.take_append_drop]
  rw [e]
  simp only [List.length_cons, List.length_nil] at e1 e3 e4
  rw [e1, e3, e4]
  rfl
theorem AVcalls {H : AHeap} {v : Value} (h : AV Go.Proofs.Try.prog H.get 76 v) : ∃ cs : List Cl, Sl H 8 v (cs.map cC) ∧ ∀ c ∈ cs, okC H c := by
  obtain ⟨rows, hs, hr⟩ := h.rows (e := 84) (esz := 8) Go.Proofs.Try.underlying76 (by kernel_rfl)
  obtain ⟨m, rfl, hm⟩ := list_choose (f := cC) (Q := okC H) (l := rows) (fun r hrm => fitC (hr r hrm))
  exact ⟨m, hs, hm⟩
end Go.AM.Fd

set_option linter.unusedSimpArgs false
set_option linter.unusedVariables false
namespace Go.AM
def WR (H : AHeap) (e esz : Nat) (v : Value) (n : Nat) (c : List Value) : Prop :=
  (v = .slice none 0 0 ∧ n = 0 ∧ c = []) ∨ ∃ b k room d, v = slc b 0 n k ∧ n ≤ k ∧ d.length = k * esz ∧ d.take (n * esz) = c ∧ H.get b = some (.cells true room esz d e)
section
variable {H H' : AHeap} {e esz : Nat} {v : Value} {n : Nat} {c : List Value}
theorem AP.wr (h : AP H e esz v n c) : WR H e esz v n c := by
  rcases h with h | ⟨b, room, rfl, h1, h2⟩
  · exact .inl h
  · exact .inr ⟨b, n, room, c, rfl, Nat.le_refl _, h1, by rw [← h1, List.take_length], h2⟩
theorem WR.len (h : WR H e esz v n c) : c.length = n * esz := by
  rcases h with ⟨rfl, rfl, rfl⟩ | ⟨b, k, room, d, rfl, h1, h2, rfl, h4⟩
  · simp
  · have := Nat.mul_le_mul_right esz h1
    rw [List.length_take, h2]; omega
theorem WR.elems (h : WR H e esz v n c) : elemsA H esz v = some c := by
  rcases h with ⟨rfl, rfl, rfl⟩ | ⟨b, k, room, d, rfl, h1, h2, rfl, h4⟩
  · rfl
  · have := Nat.mul_le_mul_right esz h1
    simp only [elemsA, slc, h4]
    rw [if_pos (by omega), List.drop_zero]
theorem WR.shape (h : WR H e esz v n c) : ∃ a k, v = .slice a n k := by
  rcases h with ⟨rfl, rfl, rfl⟩ | ⟨b, k, room, d, rfl, h1, h2, h3, h4⟩
  · exact ⟨_, _, rfl⟩
  · exact ⟨_, _, rfl⟩
theorem WR.is (h : WR H e esz v n c) : isS v = true := by obtain ⟨a, k, rfl⟩ := h.shape; rfl
theorem WR.lenS (h : WR H e esz v n c) : Go.AM.lenS v = n := by obtain ⟨a, k, rfl⟩ := h.shape; rfl
theorem WR.one (h : WR H e esz v n c) : v.oneCell' = true := by obtain ⟨a, k, rfl⟩ := h.shape; rfl
theorem WR.lt (h : WR H e esz v n c) {b : Nat} (hb : blk v = some b) : b < H.n := by
  rcases h with ⟨rfl, rfl, rfl⟩ | ⟨b', k, room, d, rfl, h1, h2, h3, h4⟩
  · cases hb
  · cases hb; exact AHeap.get_lt h4
theorem WR.chg {S : List Nat} (h : WR H e esz v n c) (k : Chg S H H') (hS : ∀ x ∈ blkL v, x ∉ S) : WR H' e esz v n c := by
  rcases h with h | ⟨b, m, room, d, rfl, h1, h2, h3, h4⟩
  · exact .inl h
  · exact .inr ⟨b, m, room, d, rfl, h1, h2, h3, k.at_ h4 (hS b (mem_blkL.2 rfl))⟩
theorem WR.keeps (h : WR H e esz v n c) (k : Keeps H H') : WR H' e esz v n c := h.chg (k.chg []) (by simp)
theorem WR.sl {rows : List (List Value)} (h : WR H e esz v n rows.flatten) (hr : ∀ r ∈ rows, r.length = esz) (hn : n = rows.length) : Sl H esz v rows := by
  obtain ⟨a, k, rfl⟩ := h.shape
  exact ⟨⟨a, k, by rw [hn]⟩, hr, h.elems⟩
theorem WR.app {bytes m : Nat} {news : List Value} (h : WR H e esz v n c) (hm : news.length = m * esz) (hs : (n + m) * bytes ≤ 140737488355328 ∧ n + m ≤ 140737488355328) :
    ∃ v' H', appA H e esz bytes v m news = some (v', H') ∧ WR H' e esz v' (n + m) (c ++ news) ∧ Chg (blkL v) H H' ∧ (blk v' = blk v ∨ blk v' = some H.n) := by
  rcases h with ⟨rfl, rfl, rfl⟩ | ⟨b, k, room, d, rfl, h1, h2, h3, h4⟩
  · obtain ⟨v', H', a, b, d⟩ := AP.app (H := H) (e := e) (esz := esz) (v := .slice none 0 0) (n := 0) (c := []) (.inl ⟨rfl, rfl, rfl⟩) hm hs
    exact ⟨v', H', a, b.wr, d⟩
  · simp only [appA, slc]
    by_cases hm0 : m = 0
    · subst hm0
      have : news = [] := by rw [← List.length_eq_zero_iff]; omega
      subst this
      rw [if_pos rfl]
      exact ⟨_, _, rfl, .inr ⟨b, k, room, d, rfl, h1, h2, by simpa using h3, h4⟩, Chg.refl _ _, .inl rfl⟩
    · have hle := Nat.mul_le_mul_right esz h1
      have hc : c.length = n * esz := by rw [← h3, List.length_take, h2]; omega
      have hnm : (n + m) * esz = n * esz + m * esz := Nat.add_mul _ _ _
      rw [if_neg hm0, if_pos hs]
      simp only [h4, true_and]
      rw [if_pos (show 0 + k * esz ≤ d.length by omega)]
      by_cases hk : n + m ≤ k
      · have hle2 := Nat.mul_le_mul_right esz hk
        rw [if_pos hk]
        simp only [if_true]
        refine ⟨_, _, rfl, .inr ⟨b, k, room, _, rfl, hk, ?_, ?_, AHeap.get_set_same h4 _⟩, Chg.set H (AHeap.get_lt h4) _, .inl rfl⟩
        · rw [List.length_append, List.length_append, List.length_take, List.length_drop, hm]; omega
        · rw [Nat.zero_add, h3, List.take_append_of_le_length (by rw [List.length_append, hc, hm]; omega), List.take_of_length_le (by rw [List.length_append, hc, hm]; omega)]
      · rw [if_neg hk, List.drop_zero, h3]
        have hlen : (c ++ news).length = (n + m) * esz := by rw [List.length_append, hc, hm, Nat.add_mul]
        split
        · exact ⟨_, _, rfl, .inr ⟨H.n, n + m, true, _, rfl, Nat.le_refl _, hlen, by rw [← hlen, List.take_length], AHeap.get_alloc_new H _⟩, (Chg.refl _ _).alloc _, .inr rfl⟩
        · exact ⟨_, _, rfl, .inr ⟨H.n, n + m, true, _, rfl, Nat.le_refl _, hlen, by rw [← hlen, List.take_length], AHeap.get_alloc_new (H.set b .dead) _⟩, (Chg.set H (AHeap.get_lt h4) _).alloc _, .inr rfl⟩
end
section
variable {P : Program} {ng : Nat} {H : AHeap} {KF : List Value → AHeap → Prop} {fr tm : List Value} {tr : List TE} {e esz : Nat} {v : Value} {n : Nat} {c : List Value}
theorem WR.appR {d : D} {r : List AOper} {bytes : Nat} {x : Value} {m : Nat} {news : List Value} (h : WR H e esz v n c) (hx : ∃ a k, x = .slice a m k) (h1 : elemsA H esz x = some news) (hm : news.length = m * esz)
    (hs : (n + m) * bytes ≤ 140737488355328 ∧ n + m ≤ 140737488355328)
    (hk : ∀ v' H', WR H' e esz v' (n + m) (c ++ news) → Chg (blkL v) H H' → (blk v' = blk v ∨ blk v' = some H.n) → RW P ng r (d.frame v' fr) (d.temps v' tm) H' KF) : goR P ng (asem (.app e esz bytes v x) H) d r fr tm KF := by
  obtain ⟨v', H', e1, e2, e3, e4⟩ := h.app (bytes := bytes) hm hs
  obtain ⟨a, k, rfl⟩ := hx
  refine ⟨v', H', ?_, hk v' H' e2 e3 e4⟩
  simp only [asem, h1]; exact e1
theorem WR.appD {d : D} {r : List (AOper × List Nat)} {bytes : Nat} {x : Value} {m : Nat} {news : List Value} (h : WR H e esz v n c) (hx : ∃ a k, x = .slice a m k) (h1 : elemsA H esz x = some news) (hm : news.length = m * esz)
    (hs : (n + m) * bytes ≤ 140737488355328 ∧ n + m ≤ 140737488355328)
    (hk : ∀ v' H', WR H' e esz v' (n + m) (c ++ news) → Chg (blkL v) H H' → (blk v' = blk v ∨ blk v' = some H.n) → RD P ng r (d.frame v' fr) (d.temps v' tm) H' (tr ++ [⟨3, [], H, H'⟩]) KF) : goD P ng (.app e esz bytes v x) (asem (.app e esz bytes v x) H) d [] r fr tm H tr KF := by
  obtain ⟨v', H', e1, e2, e3, e4⟩ := h.app (bytes := bytes) hm hs
  obtain ⟨a, k, rfl⟩ := hx
  exact ⟨v', H', by simp only [asem, h1]; exact e1, trivial, hk v' H' e2 e3 e4⟩
end
end Go.AM

set_option linter.unusedSimpArgs false
set_option linter.unusedVariables false
namespace Go.AM.Fd
open Nat (reduceAdd reduceEqDiff reduceLT reduceLeDiff reduceMul reduceSub)
open Go.Proofs Go.AM.F
abbrev It := Value × List UInt8
def wF (b : Nat) (wv : Value) (its : List It) : List Nat := b :: (blkL wv ++ its.flatMap fun it => blkL it.1)
structure WI (b : Nat) (wv : Value) (its : List It) (K : AHeap) : Prop where
  g : K.get b = some (.cells true false 1 [wv] 113)
  w : WR K 22 1 wv its.length (its.map (·.1))
  a : ∀ it ∈ its, AP K 5 1 it.1 it.2.length (cellsOf it.2)
  nd : (wF b wv its).Nodup
theorem mem_wF {b : Nat} {wv : Value} {its : List It} {y : Nat} : y ∈ wF b wv its ↔ y = b ∨ y ∈ blkL wv ∨ ∃ it ∈ its, y ∈ blkL it.1 := by
  simp only [wF, List.mem_cons, List.mem_append, List.mem_flatMap]
theorem WI.lt {b : Nat} {wv : Value} {its : List It} {K : AHeap} (h : WI b wv its K) : ∀ y ∈ wF b wv its, y < K.n := by
  intro y hy
  rcases mem_wF.1 hy with rfl | hy | ⟨it, hit, hy⟩
  · exact AHeap.get_lt h.g
  · exact h.w.lt (mem_blkL.1 hy)
  · exact (h.a it hit).lt (mem_blkL.1 hy)
theorem WI.chg {b : Nat} {wv : Value} {its : List It} {K K' : AHeap} {S : List Nat} (h : WI b wv its K) (k : Chg S K K') (hS : ∀ y ∈ wF b wv its, y ∉ S) : WI b wv its K' :=
  ⟨k.at_ h.g (hS b (mem_wF.2 (.inl rfl))), h.w.chg k (fun y hy => hS y (mem_wF.2 (.inr (.inl hy)))), fun it hit => (h.a it hit).chg k (fun y hy => hS y (mem_wF.2 (.inr (.inr ⟨it, hit, hy⟩)))), h.nd⟩
theorem WI.keeps {b : Nat} {wv : Value} {its : List It} {K K' : AHeap} (h : WI b wv its K) (k : Keeps K K') : WI b wv its K' := h.chg (k.chg []) (by simp)
theorem nodup_app {a c : List Nat} (ha : a.Nodup) (hc : c.Nodup) (hd : ∀ x ∈ a, x ∉ c) : (a ++ c).Nodup := by
  rw [List.nodup_append]
  exact ⟨ha, hc, fun x hx y hy e => hd x hx (e ▸ hy)⟩
theorem blkL_nd (v : Value) : (blkL v).Nodup := by
  unfold blkL
  cases blk v <;> simp
theorem wF_nd {b : Nat} {wv : Value} {its : List It} : (wF b wv its).Nodup ↔ b ∉ blkL wv ∧ (∀ it ∈ its, b ∉ blkL it.1) ∧ (∀ y ∈ blkL wv, ∀ it ∈ its, y ∉ blkL it.1) ∧ (its.flatMap fun it => blkL it.1).Nodup := by
  simp only [wF, List.nodup_cons, List.mem_append, List.mem_flatMap, List.nodup_append]
  constructor
  · rintro ⟨h1, h2, h3, h4⟩
    exact ⟨fun h => h1 (.inl h), fun it hi h => h1 (.inr ⟨it, hi, h⟩), fun y hy it hi h => h4 y hy y ⟨it, hi, h⟩ rfl, h3⟩
  · rintro ⟨h1, h2, h3, h4⟩
    refine ⟨?_, blkL_nd wv, h4, ?_⟩
    · rintro (h | ⟨it, hi, h⟩)
      · exact h1 h
      · exact h2 it hi h
    · rintro y hy z ⟨it, hi, hz⟩ rfl
      exact h3 y hy it hi hz
theorem wF_add {b n : Nat} {wv wv' r : Value} {B : List UInt8} {its : List It} (hnd : (wF b wv its).Nodup) (hlt : ∀ y ∈ wF b wv its, y < n) (hv : ∀ y ∈ blkL wv', y ∈ blkL wv ∨ n ≤ y) (hr : ∀ y ∈ blkL r, n ≤ y) (hd : ∀ y ∈ blkL wv', y ∉ blkL r) : (wF b wv' (its ++ [(r, B)])).Nodup := by
  obtain ⟨h1, h2, h3, h4⟩ := wF_nd.1 hnd
  have hb := hlt b (mem_wF.2 (.inl rfl))
  have hi : ∀ it ∈ its, ∀ y ∈ blkL it.1, y < n := fun it hit y hy => hlt y (mem_wF.2 (.inr (.inr ⟨it, hit, hy⟩)))
  refine wF_nd.2 ⟨fun h => ?_, fun it hit h => ?_, fun y hy it hit h => ?_, ?_⟩
  · rcases hv b h with h | h
    · exact h1 h
    · omega
  · rcases List.mem_append.1 hit with hit | hit
    · exact h2 it hit h
    · simp only [List.mem_singleton] at hit; subst hit
      have := hr b h; omega
  · rcases List.mem_append.1 hit with hit | hit
    · rcases hv y hy with h' | h'
      · exact h3 y h' it hit h
      · have := hi it hit y h; omega
    · simp only [List.mem_singleton] at hit; subst hit
      exact hd y hy h
  · rw [List.flatMap_append]
    refine nodup_app h4 (by simpa using blkL_nd r) (fun y hy hy2 => ?_)
    obtain ⟨it, hit, hy⟩ := List.mem_flatMap.1 hy
    have := hi it hit y hy
    have := hr y (by simpa using hy2)
    omega
section
variable {H : AHeap} {b : Nat} {wv : Value} {its : List It}
def askE (n : Nat) (i : Int) (room : Bool) : Int := if i < 0 ∨ (n : Int) ≤ i then 5 else if room = true ∧ 64 ≤ n then 3 else 0
theorem t94 (h : WI b wv its H) (hl : its.length ≤ 1000) (i : Int) (room : Bool) : ∃ w H', ARun Go.Proofs.Try.prog 0 94 [ptr b 0, .int .i64 i, .bool room] H w H' ∧ w = .int .i64 (askE its.length i room) ∧ H' = H := by
  refine walk2 f94_ok f94_n ?_
  intro Q hq1 hq2
  have e1 := h.w.is
  have e2 := h.w.lenS
  by_cases h1 : i < 0
  · simp (disch := first | assumption | omega | (simp only [LN] <;> omega) | (simp (disch := first | assumption | omega | (simp only [LN] <;> omega)) only [row_alloc, row_set]; assumption)) only [f94, W_block, P3, ↓reduceIte, reduceAdd, reduceEqDiff, reduceCtorEq, initFr, reduceLT, clsA, reduceLeDiff, reduceMul, reduceSub, reduceIte, h.g, e2]
    exact hq2 _ _ ⟨_, rfl, by rw [askE, if_pos (.inl h1)]; rfl, rfl⟩
  by_cases h2 : (its.length : Int) ≤ i
  · simp (disch := first | assumption | omega | (simp only [LN] <;> omega) | (simp (disch := first | assumption | omega | (simp only [LN] <;> omega)) only [row_alloc, row_set]; assumption)) only [f94, W_block, P3, ↓reduceIte, reduceAdd, reduceEqDiff, reduceCtorEq, initFr, reduceLT, clsA, reduceLeDiff, reduceMul, reduceSub, reduceIte, h.g, e2]
    exact hq2 _ _ ⟨_, rfl, by rw [askE, if_pos (.inr h2)]; rfl, rfl⟩
  have h12 : ¬ (i < 0 ∨ (its.length : Int) ≤ i) := by omega
  cases room with
  | false =>
    simp (disch := first | assumption | omega | (simp only [LN] <;> omega) | (simp (disch := first | assumption | omega | (simp only [LN] <;> omega)) only [row_alloc, row_set]; assumption)) only [f94, W_block, P3, ↓reduceIte, reduceAdd, reduceEqDiff, reduceCtorEq, initFr, reduceLT, clsA, reduceLeDiff, reduceMul, reduceSub, reduceIte, h.g, e2]
    exact hq2 _ _ ⟨_, rfl, by rw [askE, if_neg h12]; rfl, rfl⟩
  | true =>
    by_cases h3 : 64 ≤ its.length
    · simp (disch := first | assumption | omega | (simp only [LN] <;> omega) | (simp (disch := first | assumption | omega | (simp only [LN] <;> omega)) only [row_alloc, row_set]; assumption)) only [f94, W_block, P3, ↓reduceIte, reduceAdd, reduceEqDiff, reduceCtorEq, initFr, reduceLT, clsA, reduceLeDiff, reduceMul, reduceSub, reduceIte, h.g, e2]
      exact hq2 _ _ ⟨_, rfl, by rw [askE, if_neg h12, if_pos ⟨rfl, h3⟩]; rfl, rfl⟩
    · simp (disch := first | assumption | omega | (simp only [LN] <;> omega) | (simp (disch := first | assumption | omega | (simp only [LN] <;> omega)) only [row_alloc, row_set]; assumption)) only [f94, W_block, P3, ↓reduceIte, reduceAdd, reduceEqDiff, reduceCtorEq, initFr, reduceLT, clsA, reduceLeDiff, reduceMul, reduceSub, reduceIte, h.g, e2]
      exact hq2 _ _ ⟨_, rfl, by rw [askE, if_neg h12, if_neg (by omega)]; rfl, rfl⟩
theorem t59no (h : WI b wv its H) {x : Value} (hl : 64 ≤ its.length) : ∃ w H', ARun Go.Proofs.Try.prog 0 59 [ptr b 0, x] H w H' ∧ w = .int .i64 3 ∧ H' = H := by
  refine walk2 f59_ok f59_n ?_
  intro Q hq1 hq2
  have e1 := h.w.is
  have e2 := h.w.lenS
  simp (disch := first | assumption | omega | (simp only [LN] <;> omega) | (simp (disch := first | assumption | omega | (simp only [LN] <;> omega)) only [row_alloc, row_set]; assumption)) only [f59, W_block, P3, ↓reduceIte, reduceAdd, reduceEqDiff, reduceCtorEq, initFr, reduceLT, clsA, reduceLeDiff, reduceMul, reduceSub, reduceIte, h.g, e2]
  exact hq2 _ _ ⟨_, rfl, rfl, rfl⟩
theorem fillS1 {a : Value} (ha : isS a = true) : fillA [.slice none 0 0] [(0, 1, a)] = some [a] := by
  obtain ⟨_, _, _, rfl⟩ := isS_inv ha
  rfl
theorem t59 (h : WI b wv its H) {x : Value} {B : List UInt8} (hB : BS H x B) (hBl : B.length ≤ 1000000) (hl : its.length < 64) :
    ∃ w H', ARun Go.Proofs.Try.prog 0 59 [ptr b 0, x] H w H' ∧ w = .int .i64 0 ∧ ∃ wv' v', WI b wv' (its ++ [(v', B)]) H' ∧ Chg (b :: blkL wv) H H' ∧ (∀ y ∈ wF b wv' (its ++ [(v', B)]), y ∈ wF b wv its ∨ H.n ≤ y) := by
  refine walk2 f59_ok f59_n ?_
  intro Q hq1 hq2
  have e1 := h.w.is
  have e2 := h.w.lenS
  simp (disch := first | assumption | omega | (simp only [LN] <;> omega) | (simp (disch := first | assumption | omega | (simp only [LN] <;> omega)) only [row_alloc, row_set]; assumption)) only [f59, W_block, P3, ↓reduceIte, reduceAdd, reduceEqDiff, reduceCtorEq, initFr, reduceLT, clsA, reduceLeDiff, reduceMul, reduceSub, reduceIte, h.g, e2]
  refine callK (t73 hB (by omega)) ?_
  rintro r K ⟨a1, k1, f1⟩
  have g1 := k1.at_ h.g
  have lb := AHeap.get_lt h.g
  have hr : isS r = true := by obtain ⟨a, rfl⟩ := a1.shape; rfl
  have kK := k1.alloc (.cells true false 1 [r] 22)
  have hwr := h.w.keeps kK
  simp (disch := first | assumption | omega | (simp only [LN] <;> omega) | (simp (disch := first | assumption | omega | (simp only [LN] <;> omega)) only [row_alloc, row_set]; assumption)) only [W_block, P3, ↓reduceIte, reduceAdd, reduceEqDiff, reduceCtorEq, initFr, reduceLT, clsA, reduceLeDiff, reduceMul, reduceSub, reduceIte, h.g, g1, AHeap.get_lt h.g, fillS1 hr, one_isS hr]
  refine ⟨by simp, ?_⟩
  refine WR.appD hwr ⟨_, _, rfl⟩ (elems_new rfl rfl) rfl (by omega) ?_
  rintro v' K' w' c' hb'
  obtain ⟨n1, n2, n3, n4⟩ := wF_nd.1 h.nd
  have hlt := h.lt
  have hnK := k1.n
  have g' : K'.get b = some (.cells true false 1 [wv] 113) := c'.at_ (kK.at_ h.g) n1
  have lb' := AHeap.get_lt g'
  have ov' : v'.oneCell' = true := w'.one
  have hv' : ∀ y ∈ blkL v', y ∈ blkL wv ∨ H.n ≤ y := fun y hy => by
    rcases hb' with e | e
    · exact .inl (by unfold blkL at hy ⊢; rw [e] at hy; exact hy)
    · right
      have := mem_blkL.1 hy
      rw [e, alloc_n] at this
      cases this; omega
  have hr' : ∀ y ∈ blkL r, H.n ≤ y := fun y hy => f1 y (mem_blkL.1 hy)
  have hd' : ∀ y ∈ blkL v', y ∉ blkL r := fun y hy hy2 => by
    have h1 := a1.lt (mem_blkL.1 hy2)
    rcases hb' with e | e
    · have : y ∈ blkL wv := by unfold blkL at hy ⊢; rw [e] at hy; exact hy
      have := hlt y (mem_wF.2 (.inr (.inl this)))
      have := hr' y hy2
      omega
    · have := mem_blkL.1 hy
      rw [e, alloc_n] at this
      cases this; omega
  have hnd := wF_add (B := B) h.nd hlt hv' hr' hd'
  obtain ⟨m1, m2, m3, m4⟩ := wF_nd.1 hnd
  have cs := Chg.set K' lb' (.cells true false 1 [v'] 113)
  simp (disch := first | assumption | omega | (simp only [LN] <;> omega) | (simp (disch := first | assumption | omega | (simp only [LN] <;> omega)) only [row_alloc, row_set]; assumption)) only [W_block, P3, ↓reduceIte, reduceAdd, reduceEqDiff, reduceCtorEq, initFr, reduceLT, clsA, reduceLeDiff, reduceMul, reduceSub, reduceIte, g', ov', List.set_cons_zero]
  refine hq2 _ _ ⟨_, rfl, rfl, v', r, ⟨AHeap.get_set_same g' _, ?_, ?_, hnd⟩, ?_, ?_⟩
  · have : WR K' 22 1 v' (its ++ [(r, B)]).length ((its ++ [(r, B)]).map (·.1)) := by
      rw [List.length_append, List.map_append]; exact w'
    exact this.chg cs (fun y hy => by simp; intro e; subst e; exact m1 hy)
  · intro it hit
    rcases List.mem_append.1 hit with hit' | hit'
    · exact (((h.a it hit').keeps kK).chg c' (fun y hy hy2 => n3 y hy2 it hit' hy)).chg cs (fun y hy => by simp; intro e; subst e; exact n2 it hit' hy)
    · simp only [List.mem_singleton] at hit'; subst hit'
      exact ((a1.keeps ((Keeps.refl K).alloc _)).chg c' (fun y hy hy2 => by have := hr' y hy; have := hlt y (mem_wF.2 (.inr (.inl hy2))); omega)).chg cs (fun y hy => by simp; intro e; subst e; have := hr' y hy; have := AHeap.get_lt h.g; omega)
  · exact ((kK.chg (b :: blkL wv)).trans c' (fun y hy => .inl (by simp [hy]))).trans cs (fun y hy => .inl (by simp at hy; simp [hy]))
  · intro y hy
    rcases mem_wF.1 hy with rfl | hy | ⟨it, hit, hy⟩
    · exact .inl (mem_wF.2 (.inl rfl))
    · rcases hv' y hy with h' | h'
      · exact .inl (mem_wF.2 (.inr (.inl h')))
      · exact .inr h'
    · rcases List.mem_append.1 hit with hit' | hit'
      · exact .inl (mem_wF.2 (.inr (.inr ⟨it, hit', hy⟩)))
      · simp only [List.mem_singleton] at hit'; subst hit'
        exact .inr (hr' y hy)
end
end Go.AM.Fd

set_option linter.unusedSimpArgs false
set_option linter.unusedVariables false
namespace Go.AM.Fd
open Nat (reduceAdd reduceEqDiff reduceLT reduceLeDiff reduceMul reduceSub)
open Go.Proofs Go.AM.F
theorem a_slslc {H : AHeap} {b n k : Nat} {own room : Bool} {d : List Value} {e : Nat} (g : H.get b = some (.cells own room 1 d e)) {lo hi mx : Option Value} {l h m : Nat} (h1 : bndA mx k k = some m) (h2 : bndA hi n m = some h) (h3 : bndA lo 0 h = some l) (o : Nat) :
    asem (.slsl 1 (slc b o n k) lo hi mx) H = some (slc b (o + l) (h - l) (m - l), H) := by
  rw [a_slsl g h1 h2 h3, Nat.mul_one]
theorem eraseIdx_eq {d : List Value} {n i : Nat} (hi : i < n) (hn : n ≤ d.length) : (d.take n).eraseIdx i = d.take i ++ (d.drop (i + 1)).take (n - (i + 1)) := by
  rw [List.eraseIdx_eq_take_drop_succ, List.take_take, Nat.min_eq_left (by omega), List.drop_take]
set_option maxHeartbeats 1000000 in
theorem t95 {H : AHeap} {wv : Value} {n i : Nat} {c : List Value} (h : WR H 22 1 wv n c) (hi : i < n) (hn : n ≤ 1000) :
    ∃ w H', ARun Go.Proofs.Try.prog 0 95 [wv, .int .i64 (i : Nat), .int .i64 ((i + 1 : Nat) : Int)] H w H' ∧ WR H' 22 1 w (n - 1) (c.eraseIdx i) ∧ Chg (blkL wv) H H' ∧ blk w = blk wv := by
  rcases h with ⟨rfl, rfl, rfl⟩ | ⟨b, k, room, d, rfl, h1, h2, rfl, g⟩
  · omega
  rw [Nat.mul_one] at h2 ⊢
  rw [eraseIdx_eq hi (by omega)]
  refine walk2 f95_ok f95_n ?_
  intro Q hq1 hq2
  have lb := AHeap.get_lt g
  have s1 := a_slslc g (lo := some (.int .i64 (i : Nat))) (hi := some (.int .i64 ((i + 1 : Nat) : Int))) (mx := some (.int .i64 (n : Nat))) (n := n) (k := k) (m := n) (h := i + 1) (l := i) (bnd_some _ _ _ _ h1) (bnd_some _ _ _ _ (by omega)) (bnd_some _ _ _ _ (by omega)) 0
  have s2 := a_slslc g (lo := none) (hi := some (.int .i64 (i : Nat))) (mx := none) (n := n) (k := k) (m := k) (h := i) (l := 0) (bnd_none _ _) (bnd_some _ _ _ _ (by omega)) (bnd_none _ _) 0
  have s3 := a_slslc g (lo := some (.int .i64 ((i + 1 : Nat) : Int))) (hi := none) (mx := none) (n := n) (k := k) (m := k) (h := n) (l := i + 1) (bnd_none _ _) (bnd_none _ _) (bnd_some _ _ _ _ (by omega)) 0
  simp only [Nat.zero_add, Nat.sub_zero] at s1 s2 s3
  have el : elemsA H 1 (slc b (i + 1) (n - (i + 1)) (k - (i + 1))) = some ((d.drop (i + 1)).take (n - (i + 1))) := by
    simp only [elemsA, slc, g, Nat.mul_one]
    rw [if_pos (by omega)]
  have hne : ¬ ((i : Int) = ((i + 1 : Nat) : Int)) := by omega
  by_cases hm : n - (i + 1) = 0
  · have ha : asem (.app 22 1 24 (slc b 0 i k) (slc b (i + 1) (n - (i + 1)) (k - (i + 1)))) H = some (slc b 0 i k, H) := by
      rw [hm] at el ⊢
      have : asem (.app 22 1 24 (slc b 0 i k) (slc b (i + 1) 0 (k - (i + 1)))) H = appA H 22 1 24 (slc b 0 i k) 0 ((d.drop (i + 1)).take 0) := by
        simp only [asem, slc] at el ⊢; rw [el]
      rw [this]; simp [appA, slc]
    have s4 := a_slslc g (lo := some (.int .i64 (i : Nat))) (hi := some (.int .i64 (n : Nat))) (mx := none) (n := i) (k := k) (m := k) (h := n) (l := i) (bnd_none _ _) (bnd_some _ _ _ _ (by omega)) (bnd_some _ _ _ _ (by omega)) 0
    simp only [Nat.zero_add] at s4
    have hc : asem (.clr 1 [.slice none 0 0] (slc b i (n - i) (k - i))) H = some (.tuple #[], H.set b (.cells true room 1 (d.take i ++ (List.replicate (n - i) [Value.slice none 0 0]).flatten ++ d.drop (i + (n - i))) 22)) := by
      simp only [asem, slc, g, Nat.mul_one]
      rw [if_neg (by omega), if_pos ⟨trivial, by omega, rfl, rfl⟩]
    simp (disch := first | assumption | omega | (simp only [LN] <;> omega) | (simp (disch := first | assumption | omega | (simp only [LN] <;> omega)) only [row_alloc, row_set]; assumption)) only [f95, W_block, P3, ↓reduceIte, reduceAdd, reduceEqDiff, reduceCtorEq, initFr, reduceLT, clsA, reduceLeDiff, reduceMul, reduceSub, reduceIte, s1, s2, s3, s4, ha, hc]
    have hfl : (List.replicate (n - i) [Value.slice none 0 0]).flatten.length = n - i := by simp
    refine hq2 _ _ ⟨_, rfl, .inr ⟨b, k, room, _, by rw [show n - 1 = i by omega]; rfl, by omega, ?_, ?_, AHeap.get_set_same g _⟩, (Chg.set H lb _).mono (by simp [blkL, blk, slc]), rfl⟩
    · rw [List.length_append, List.length_append, List.length_take, List.length_drop, hfl]; omega
    · rw [hm, List.take_zero, List.append_nil, show (n - 1) * 1 = i by omega, List.append_assoc, List.take_append_of_le_length (by rw [List.length_take]; omega), List.take_take, Nat.min_self]
  · have hnl : ((d.drop (i + 1)).take (n - (i + 1))).length = n - (i + 1) := by rw [List.length_take, List.length_drop]; omega
    obtain ⟨news, hnews⟩ : ∃ x, x = (d.drop (i + 1)).take (n - (i + 1)) := ⟨_, rfl⟩
    rw [← hnews] at el hnl hq2
    have ha : asem (.app 22 1 24 (slc b 0 i k) (slc b (i + 1) (n - (i + 1)) (k - (i + 1)))) H = some (slc b 0 (n - 1) k, H.set b (.cells true room 1 (d.take i ++ news ++ d.drop (i + (n - (i + 1)))) 22)) := by
      have : asem (.app 22 1 24 (slc b 0 i k) (slc b (i + 1) (n - (i + 1)) (k - (i + 1)))) H = appA H 22 1 24 (slc b 0 i k) (n - (i + 1)) news := by
        simp only [asem, slc] at el ⊢; rw [el]
      rw [this]
      simp only [appA, slc]
      rw [if_neg hm, if_pos (by omega)]
      simp only [g, true_and, Nat.mul_one, Nat.zero_add]
      rw [if_pos (by omega), if_pos (by omega), if_pos trivial, hnl, show i + (n - (i + 1)) = n - 1 by omega]
    obtain ⟨d2, hd2⟩ : ∃ x, x = d.take i ++ news ++ d.drop (i + (n - (i + 1))) := ⟨_, rfl⟩
    have hl2 : d2.length = k := by rw [hd2, List.length_append, List.length_append, List.length_take, List.length_drop, hnl]; omega
    rw [← hd2] at ha
    have g2 : (H.set b (.cells true room 1 d2 22)).get b = some (.cells true room 1 d2 22) := AHeap.get_set_same g _
    have s4 := a_slslc g2 (lo := some (.int .i64 ((n - 1 : Nat) : Int))) (hi := some (.int .i64 (n : Nat))) (mx := none) (n := n - 1) (k := k) (m := k) (h := n) (l := n - 1) (bnd_none _ _) (bnd_some _ _ _ _ (by omega)) (bnd_some _ _ _ _ (by omega)) 0
    simp only [Nat.zero_add] at s4
    have hc : asem (.clr 1 [.slice none 0 0] (slc b (n - 1) (n - (n - 1)) (k - (n - 1)))) (H.set b (.cells true room 1 d2 22)) = some (.tuple #[], H.set b (.cells true room 1 (d2.take (n - 1) ++ (List.replicate (n - (n - 1)) [Value.slice none 0 0]).flatten ++ d2.drop (n - 1 + (n - (n - 1)))) 22)) := by
      simp only [asem, slc, g2, Nat.mul_one]
      rw [if_neg (by omega), if_pos ⟨trivial, by omega, rfl, rfl⟩, set_set]
    have hpos : 0 < n := by omega
    simp (disch := first | assumption | omega | (simp only [LN] <;> omega) | (simp (disch := first | assumption | omega | (simp only [LN] <;> omega)) only [row_alloc, row_set]; assumption)) only [f95, W_block, P3, ↓reduceIte, reduceAdd, reduceEqDiff, reduceCtorEq, initFr, reduceLT, clsA, reduceLeDiff, reduceMul, reduceSub, reduceIte, s1, s2, s3, ha, s4, hc]
    have hfl : (List.replicate (n - (n - 1)) [Value.slice none 0 0]).flatten.length = n - (n - 1) := by simp
    refine hq2 _ _ ⟨_, rfl, .inr ⟨b, k, room, _, rfl, by omega, ?_, ?_, AHeap.get_set_same g _⟩, (Chg.set H lb _).mono (by simp [blkL, blk, slc]), rfl⟩
    · rw [List.length_append, List.length_append, List.length_take, List.length_drop, hfl]; omega
    · rw [Nat.mul_one, List.append_assoc, List.take_append_of_le_length (by rw [List.length_take]; omega), List.take_take, Nat.min_self, hd2, List.take_append_of_le_length (by rw [List.length_append, List.length_take, hnl]; omega), List.take_of_length_le (by rw [List.length_append, List.length_take, hnl]; omega)]
theorem Sl.at1 {H : AHeap} {v : Value} {n : Nat} {c : List Value} {e : Nat} (h : WR H e 1 v n c) {i : Nat} {x : Value} (hx : c[i]? = some x) : nnS v = true ∧ rowA H 1 v i = some [x] := by
  rcases h with ⟨rfl, rfl, rfl⟩ | ⟨b, k, room, d, rfl, h1, h2, rfl, g⟩
  · simp at hx
  · rw [Nat.mul_one] at h2 hx
    obtain ⟨hl, hx⟩ := List.getElem?_eq_some_iff.1 hx
    rw [List.length_take] at hl
    rw [List.getElem_take] at hx
    refine ⟨rfl, ?_⟩
    simp only [rowA, slc, rangeA, g, Nat.zero_add, Nat.mul_one]
    rw [if_pos (by omega), ← hx, List.drop_eq_getElem_cons (by omega)]
    rfl
section
variable {H : AHeap} {b : Nat} {wv : Value} {its : List It}
theorem t55no (h : WI b wv its H) (hl : its.length ≤ 1000) {i : Int} (hi : i < 0 ∨ (its.length : Int) ≤ i) : ∃ w H', ARun Go.Proofs.Try.prog 0 55 [ptr b 0, .int .i64 i] H w H' ∧ w = .tuple #[.slice none 0 0, .int .i64 5] ∧ H' = H := by
  refine walk2 f55_ok f55_n ?_
  intro Q hq1 hq2
  simp (disch := first | assumption | omega | (simp only [LN] <;> omega) | (simp (disch := first | assumption | omega | (simp only [LN] <;> omega)) only [row_alloc, row_set]; assumption)) only [f55, W_block, P3, ↓reduceIte, reduceAdd, reduceEqDiff, reduceCtorEq, initFr, reduceLT, clsA, reduceLeDiff, reduceMul, reduceSub, reduceIte]
  refine callP (t94 h hl i false) ?_
  rw [show askE its.length i false = 5 by rw [askE, if_pos hi]]
  simp (disch := first | assumption | omega | (simp only [LN] <;> omega) | (simp (disch := first | assumption | omega | (simp only [LN] <;> omega)) only [row_alloc, row_set]; assumption)) only [W_block, P3, ↓reduceIte, reduceAdd, reduceEqDiff, reduceCtorEq, initFr, reduceLT, clsA, reduceLeDiff, reduceMul, reduceSub, reduceIte]
  exact hq2 _ _ ⟨_, rfl, rfl, rfl⟩
theorem flat_erase {α : Type} (f : α → List Nat) : ∀ {l : List α}, (l.flatMap f).Nodup → ∀ i, ((l.eraseIdx i).flatMap f).Nodup
  | [], h, i => by simp
  | a :: l, h, 0 => by
    rw [List.flatMap_cons, List.nodup_append] at h
    exact h.2.1
  | a :: l, h, i + 1 => by
    rw [List.flatMap_cons, List.nodup_append] at h
    rw [List.eraseIdx_cons_succ, List.flatMap_cons, List.nodup_append]
    refine ⟨h.1, flat_erase f h.2.1 i, fun x hx y hy => h.2.2 x hx y ?_⟩
    obtain ⟨z, hz, hy⟩ := List.mem_flatMap.1 hy
    exact List.mem_flatMap.2 ⟨z, List.mem_of_mem_eraseIdx hz, hy⟩
theorem erase_map {α β : Type} (f : α → β) : ∀ (l : List α) (i : Nat), (l.eraseIdx i).map f = (l.map f).eraseIdx i
  | [], i => by simp
  | a :: l, 0 => by simp
  | a :: l, i + 1 => by simp [erase_map f l i]
theorem wF_erase {b : Nat} {wv wv' : Value} {its : List It} (hnd : (wF b wv its).Nodup) (hb : blk wv' = blk wv) (i : Nat) : (wF b wv' (its.eraseIdx i)).Nodup := by
  have e : blkL wv' = blkL wv := by unfold blkL; rw [hb]
  obtain ⟨h1, h2, h3, h4⟩ := wF_nd.1 hnd
  refine wF_nd.2 ⟨by rw [e]; exact h1, fun it hit => h2 it (List.mem_of_mem_eraseIdx hit), fun y hy it hit => h3 y (by rw [← e]; exact hy) it (List.mem_of_mem_eraseIdx hit), ?_⟩
  exact flat_erase _ h4 i
theorem t55 (h : WI b wv its H) (hl : its.length ≤ 1000) {i : Nat} {it : It} (hit : its[i]? = some it) :
    ∃ w H', ARun Go.Proofs.Try.prog 0 55 [ptr b 0, .int .i64 (i : Nat)] H w H' ∧ w = .tuple #[it.1, .int .i64 0] ∧ ∃ wv', WI b wv' (its.eraseIdx i) H' ∧ AP H' 5 1 it.1 it.2.length (cellsOf it.2) ∧ Chg (b :: blkL wv) H H' ∧ blk wv' = blk wv := by
  obtain ⟨hil, hie⟩ := List.getElem?_eq_some_iff.1 hit
  have hmem : it ∈ its := List.mem_of_getElem? hit
  have hx : (its.map (·.1))[i]? = some it.1 := by rw [List.getElem?_map, hit]; rfl
  obtain ⟨hnn, hrow⟩ := Sl.at1 h.w hx
  refine walk2 f55_ok f55_n ?_
  intro Q hq1 hq2
  have e1 := h.w.is
  have e2 := h.w.lenS
  simp (disch := first | assumption | omega | (simp only [LN] <;> omega) | (simp (disch := first | assumption | omega | (simp only [LN] <;> omega)) only [row_alloc, row_set]; assumption)) only [f55, W_block, P3, ↓reduceIte, reduceAdd, reduceEqDiff, reduceCtorEq, initFr, reduceLT, clsA, reduceLeDiff, reduceMul, reduceSub, reduceIte]
  refine callP (t94 h hl i false) ?_
  rw [show askE its.length i false = 0 by rw [askE, if_neg (by omega), if_neg (by simp)]]
  have w1 : IntKind.i64.wrap ((i : Int) + 1) = ((i + 1 : Nat) : Int) := wrap_succ (by omega)
  have oi : it.1.oneCell' = true := by obtain ⟨a, ha⟩ := (h.a it hmem).shape; rw [ha]; rfl
  simp (disch := first | assumption | omega | (simp only [LN] <;> omega) | (simp (disch := first | assumption | omega | (simp only [LN] <;> omega)) only [row_alloc, row_set]; assumption)) only [W_block, P3, ↓reduceIte, reduceAdd, reduceEqDiff, reduceCtorEq, initFr, reduceLT, clsA, reduceLeDiff, reduceMul, reduceSub, reduceIte, h.g, hrow, w1]
  refine callK (t95 h.w hil (by omega)) ?_
  rintro wv' K ⟨w', c', hb'⟩
  obtain ⟨n1, n2, n3, n4⟩ := wF_nd.1 h.nd
  have g' : K.get b = some (.cells true false 1 [wv] 113) := c'.at_ h.g n1
  have lb' := AHeap.get_lt g'
  have ov' : wv'.oneCell' = true := w'.one
  have cs := Chg.set K lb' (.cells true false 1 [wv'] 113)
  simp (disch := first | assumption | omega | (simp only [LN] <;> omega) | (simp (disch := first | assumption | omega | (simp only [LN] <;> omega)) only [row_alloc, row_set]; assumption)) only [W_block, P3, ↓reduceIte, reduceAdd, reduceEqDiff, reduceCtorEq, initFr, reduceLT, clsA, reduceLeDiff, reduceMul, reduceSub, reduceIte, g', ov', List.set_cons_zero]
  have stay : ∀ it ∈ its, AP (K.set b (.cells true false 1 [wv'] 113)) 5 1 it.1 it.2.length (cellsOf it.2) := fun it hit =>
    ((h.a it hit).chg c' (fun y hy hy2 => n3 y hy2 it hit hy)).chg cs (fun y hy => by simp; intro e; subst e; exact n2 it hit hy)
  refine hq2 _ _ ⟨_, rfl, rfl, wv', ⟨AHeap.get_set_same g' _, ?_, fun it hit => stay it (List.mem_of_mem_eraseIdx hit), wF_erase h.nd hb' i⟩, stay it hmem, ?_, hb'⟩
  · have : WR K 22 1 wv' (its.eraseIdx i).length ((its.eraseIdx i).map (·.1)) := by
      rw [List.length_eraseIdx_of_lt hil, erase_map]; exact w'
    exact this.chg cs (fun y hy => by simp; intro e; subst e; apply n1; unfold blkL at hy ⊢; rw [← hb']; exact hy)
  · exact (c'.mono (fun y hy => by simp [hy])).trans cs (fun y hy => .inl (by simp at hy; simp [hy]))
theorem t57no (h : WI b wv its H) (hl : its.length ≤ 1000) {i : Int} (hi : askE its.length i true ≠ 0) : ∃ w H', ARun Go.Proofs.Try.prog 0 57 [ptr b 0, .int .i64 i] H w H' ∧ w = .int .i64 (askE its.length i true) ∧ H' = H := by
  refine walk2 f57_ok f57_n ?_
  intro Q hq1 hq2
  simp (disch := first | assumption | omega | (simp only [LN] <;> omega) | (simp (disch := first | assumption | omega | (simp only [LN] <;> omega)) only [row_alloc, row_set]; assumption)) only [f57, W_block, P3, ↓reduceIte, reduceAdd, reduceEqDiff, reduceCtorEq, initFr, reduceLT, clsA, reduceLeDiff, reduceMul, reduceSub, reduceIte]
  refine callP (t94 h hl i true) ?_
  simp (disch := first | assumption | omega | (simp only [LN] <;> omega) | (simp (disch := first | assumption | omega | (simp only [LN] <;> omega)) only [row_alloc, row_set]; assumption)) only [W_block, P3, ↓reduceIte, reduceAdd, reduceEqDiff, reduceCtorEq, initFr, reduceLT, clsA, reduceLeDiff, reduceMul, reduceSub, reduceIte, hi]
  exact hq2 _ _ ⟨_, rfl, rfl, rfl⟩
theorem t57 (h : WI b wv its H) (hl : its.length < 64) {i : Nat} {it : It} (hit : its[i]? = some it) (hB : it.2.length ≤ 1000000) :
    ∃ w H', ARun Go.Proofs.Try.prog 0 57 [ptr b 0, .int .i64 (i : Nat)] H w H' ∧ w = .int .i64 0 ∧ ∃ wv' v', WI b wv' (its ++ [(v', it.2)]) H' ∧ Chg (b :: blkL wv) H H' ∧ (∀ y ∈ wF b wv' (its ++ [(v', it.2)]), y ∈ wF b wv its ∨ H.n ≤ y) := by
  obtain ⟨hil, hie⟩ := List.getElem?_eq_some_iff.1 hit
  have hmem : it ∈ its := List.mem_of_getElem? hit
  have hx : (its.map (·.1))[i]? = some it.1 := by rw [List.getElem?_map, hit]; rfl
  obtain ⟨hnn, hrow⟩ := Sl.at1 h.w hx
  refine walk2 f57_ok f57_n ?_
  intro Q hq1 hq2
  have e1 := h.w.is
  have e2 := h.w.lenS
  simp (disch := first | assumption | omega | (simp only [LN] <;> omega) | (simp (disch := first | assumption | omega | (simp only [LN] <;> omega)) only [row_alloc, row_set]; assumption)) only [f57, W_block, P3, ↓reduceIte, reduceAdd, reduceEqDiff, reduceCtorEq, initFr, reduceLT, clsA, reduceLeDiff, reduceMul, reduceSub, reduceIte]
  refine callP (t94 h (by omega) i true) ?_
  rw [show askE its.length i true = 0 by rw [askE, if_neg (by omega), if_neg (by omega)]]
  simp (disch := first | assumption | omega | (simp only [LN] <;> omega) | (simp (disch := first | assumption | omega | (simp only [LN] <;> omega)) only [row_alloc, row_set]; assumption)) only [W_block, P3, ↓reduceIte, reduceAdd, reduceEqDiff, reduceCtorEq, initFr, reduceLT, clsA, reduceLeDiff, reduceMul, reduceSub, reduceIte, h.g, hrow]
  refine callK (t59 h (h.a it hmem).bs hB hl) ?_
  rintro _ K ⟨rfl, r⟩
  simp (disch := first | assumption | omega | (simp only [LN] <;> omega) | (simp (disch := first | assumption | omega | (simp only [LN] <;> omega)) only [row_alloc, row_set]; assumption)) only [W_block, P3, ↓reduceIte, reduceAdd, reduceEqDiff, reduceCtorEq, initFr, reduceLT, clsA, reduceLeDiff, reduceMul, reduceSub, reduceIte]
  exact hq2 _ _ ⟨_, rfl, rfl, r⟩
end
end Go.AM.Fd

set_option linter.unusedSimpArgs false
set_option linter.unusedVariables false
namespace Go.AM.Fd
open Nat (reduceAdd reduceEqDiff reduceLT reduceLeDiff reduceMul reduceSub)
open Go.Proofs Go.AM.F
structure RI (b : Nat) (mv : Value) (Bs : List (List UInt8)) (K : AHeap) : Prop where
  g : K.get b = some (.cells true false 1 [mv] 117)
  w : AP K 9 1 mv Bs.length (Bs.map strB)
  nd : b ∉ blkL mv
theorem RI.chg {b : Nat} {mv : Value} {Bs : List (List UInt8)} {K K' : AHeap} {S : List Nat} (h : RI b mv Bs K) (k : Chg S K K') (hS : ∀ y, y = b ∨ y ∈ blkL mv → y ∉ S) : RI b mv Bs K' :=
  ⟨k.at_ h.g (hS b (.inl rfl)), h.w.chg k (fun y hy => hS y (.inr hy)), h.nd⟩
theorem AP.is' {H : AHeap} {e esz : Nat} {v : Value} {n : Nat} {c : List Value} (h : AP H e esz v n c) : isS v = true ∧ lenS v = n := by obtain ⟨a, rfl⟩ := h.shape; exact ⟨rfl, rfl⟩
section
variable {H : AHeap} {b : Nat} {mv : Value} {Bs : List (List UInt8)}
theorem RI.lt (h : RI b mv Bs H) : ∀ y, y = b ∨ y ∈ blkL mv → y < H.n := by
  rintro y (rfl | hy)
  · exact AHeap.get_lt h.g
  · exact h.w.lt (mem_blkL.1 hy)
end
end Go.AM.Fd

set_option linter.unusedSimpArgs false
set_option linter.unusedVariables false
namespace Go.AM
open Nat (reduceAdd reduceEqDiff reduceLT reduceLeDiff reduceMul reduceSub)
variable {P : Program} {ng : Nat} {H : AHeap} {Q : AQ} {fr : List Value}
theorem getD_set_same {l : List Value} {i : Nat} (h : i < l.length) (v : Value) : (l.set i v).getD i undef = v := by
  rw [List.getD_eq_getElem?_getD, List.getElem?_set_self h]; rfl
theorem W_sw {kd : IntKind} {ix ic : Nat} {k n : Int} {C D' : ACode} (hx : fr.getD ix undef = .int kd n) (hic : ic < fr.length) (h1 : n = k → W P ng C Q (fr.set ic (.bool true)) H) (h2 : n ≠ k → W P ng D' Q (fr.set ic (.bool false)) H) :
    W P ng (.seq (.reg [⟨.bin .eql (.fr ix) (.c (.int kd k)), .tm, none⟩, ⟨.mov (.tm 0), .fr ic, none⟩]) (.cond (.fr ic) C D')) Q fr H := by
  have fc : ∀ b : Value, (fr.set ic b).getD ic undef = b := fun b => getD_set_same hic b
  by_cases h : n = k
  · have hb : (n == k) = true := by simp [h]
    simp (disch := first | assumption | omega | (simp only [LN] <;> omega) | (simp (disch := first | assumption | omega | (simp only [LN] <;> omega)) only [row_alloc, row_set]; assumption)) only [W_block, P3, ↓reduceIte, reduceAdd, reduceEqDiff, reduceCtorEq, initFr, reduceLT, clsA, reduceLeDiff, reduceMul, reduceSub, reduceIte, hx, fc, hb]
    exact h1 h
  · have hb : (n == k) = false := by simp [h]
    simp (disch := first | assumption | omega | (simp only [LN] <;> omega) | (simp (disch := first | assumption | omega | (simp only [LN] <;> omega)) only [row_alloc, row_set]; assumption)) only [W_block, P3, ↓reduceIte, reduceAdd, reduceEqDiff, reduceCtorEq, initFr, reduceLT, clsA, reduceLeDiff, reduceMul, reduceSub, reduceIte, hx, fc, hb]
    exact h2 h
end Go.AM

set_option linter.unusedSimpArgs false
set_option linter.unusedVariables false
namespace Go.AM.Fd
open Nat (reduceAdd reduceEqDiff reduceLT reduceLeDiff reduceMul reduceSub)
open Go.Proofs Go.AM.F
structure JW (H : AHeap) (bW : Nat) (wv : Value) (its : List It) (bM : Nat) (mv : Value) (K : AHeap) : Prop where
  w : WI bW wv its K
  r : RI bM mv (its.map (·.2)) K
  s1 : ∀ y ∈ wF bW wv its, H.n ≤ y ∧ y ≠ bM ∧ y ∉ blkL mv
  s2 : H.n ≤ bM ∧ ∀ y ∈ blkL mv, H.n ≤ y
  k : Keeps H K
  l : its.length ≤ 64
  b : ∀ it ∈ its, it.2.length ≤ 6000
section
variable {H K K1 K2 : AHeap} {bW bM : Nat} {wv mv wv' mv' : Value} {its its' : List It}
theorem JW.mid (h : JW H bW wv its bM mv K) (c : Chg (bW :: blkL wv) K K1) : RI bM mv (its.map (·.2)) K1 ∧ Keeps H K1 := by
  refine ⟨h.r.chg c (fun y hy hy2 => ?_), h.k.chg_trans c (fun y hy => ?_)⟩
  · have hy3 : y ∈ wF bW wv its := by
      rcases List.mem_cons.1 hy2 with e | e
      · exact mem_wF.2 (.inl e)
      · exact mem_wF.2 (.inr (.inl e))
    obtain ⟨_, a, b⟩ := h.s1 y hy3
    rcases hy with hy | hy
    · exact a hy
    · exact b hy
  · rcases List.mem_cons.1 hy with e | e
    · exact (h.s1 y (mem_wF.2 (.inl e))).1
    · exact (h.s1 y (mem_wF.2 (.inr (.inl e)))).1
theorem JW.keeps (h : JW H bW wv its bM mv K) (k : Keeps K K1) : JW H bW wv its bM mv K1 :=
  ⟨h.w.keeps k, h.r.chg (k.chg []) (by simp), h.s1, h.s2, h.k.trans k, h.l, h.b⟩
theorem JW.go (h : JW H bW wv its bM mv K) (W1 : WI bW wv' its' K1) (c1 : Chg (bW :: blkL wv) K K1) (f1 : ∀ y ∈ wF bW wv' its', y ∈ wF bW wv its ∨ K.n ≤ y)
    (R2 : RI bM mv' (its'.map (·.2)) K2) (c2 : Chg (bM :: blkL mv) K1 K2) (f2 : ∀ y ∈ blkL mv', y ∈ blkL mv ∨ K1.n ≤ y) (hl : its'.length ≤ 64) (hb : ∀ it ∈ its', it.2.length ≤ 6000) : JW H bW wv' its' bM mv' K2 := by
  have hr := h.r.lt
  have h2 := h.s2
  have hs : ∀ y ∈ wF bW wv' its', H.n ≤ y ∧ y ≠ bM ∧ y ∉ blkL mv := fun y hy => by
    rcases f1 y hy with e | e
    · exact h.s1 y e
    · have := h.k.n
      have := hr bM (.inl rfl)
      exact ⟨by omega, by omega, fun hy2 => by have := hr y (.inr hy2); omega⟩
  have hn := c1.n
  have W2 : WI bW wv' its' K2 := W1.chg c2 (fun y hy hy2 => by
    obtain ⟨_, a, b⟩ := hs y hy
    rcases List.mem_cons.1 hy2 with e | e
    · exact a e
    · exact b e)
  refine ⟨W2, R2, fun y hy => ⟨(hs y hy).1, (hs y hy).2.1, fun hy2 => ?_⟩, ⟨h2.1, fun y hy => ?_⟩, ?_, hl, hb⟩
  · rcases f2 y hy2 with e | e
    · exact (hs y hy).2.2 e
    · have := W1.lt y hy; omega
  · rcases f2 y hy with e | e
    · exact h2.2 y e
    · have := h.k.n; omega
  · exact (h.mid c1).2.chg_trans c2 (fun y hy => by
      rcases List.mem_cons.1 hy with e | e
      · subst e; exact h2.1
      · exact h2.2 y e)
end
theorem askE0 {n : Nat} {i : Int} (h : askE n i true = 0) : ∃ m : Nat, i = m ∧ m < n ∧ n < 64 := by
  unfold askE at h
  split at h
  · exact absurd h (by decide)
  · rename_i h1
    split at h
    · exact absurd h (by decide)
    · rename_i h2
      exact ⟨i.toNat, by omega, by omega, by simp at h2; omega⟩
end Go.AM.Fd

set_option linter.unusedSimpArgs false
set_option linter.unusedVariables false
namespace Go.AM
structure SepH (H K : AHeap) (ts : List Th) : Prop where
  sep : Sep K ts
  k : Keeps H K
  ge : ∀ t ∈ ts, ∀ y ∈ t.F, H.n ≤ y
section
variable {H K K' : AHeap} {t t' a b c d : Th} {r ts : List Th}
theorem SepH.keeps (h : SepH H K ts) (k : Keeps K K') : SepH H K' ts := ⟨h.sep.keeps k, h.k.trans k, h.ge⟩
theorem SepH.upd {l : List Th} (h : SepH H K (l ++ t :: r)) (c : Chg t.F K K') (hp : t'.P K') (hf : ∀ y ∈ t'.F, y ∈ t.F ∨ K.n ≤ y) : SepH H K' (l ++ t' :: r) := by
  refine ⟨h.sep.upd c hp hf, h.k.chg_trans c (fun y hy => h.ge t (by simp) y hy), fun x hx y hy => ?_⟩
  rcases List.mem_append.1 hx with hx | hx
  · exact h.ge x (by simp [hx]) y hy
  · rcases List.mem_cons.1 hx with rfl | hx
    · rcases hf y hy with e | e
      · exact h.ge t (by simp) y e
      · have := h.k.n; omega
    · exact h.ge x (by simp [hx]) y hy
theorem SepH.u0 (h : SepH H K (t :: r)) (c : Chg t.F K K') (hp : t'.P K') (hf : ∀ y ∈ t'.F, y ∈ t.F ∨ K.n ≤ y) : SepH H K' (t' :: r) := h.upd (l := []) c hp hf
theorem SepH.u1 (h : SepH H K (a :: t :: r)) (c : Chg t.F K K') (hp : t'.P K') (hf : ∀ y ∈ t'.F, y ∈ t.F ∨ K.n ≤ y) : SepH H K' (a :: t' :: r) := h.upd (l := [a]) c hp hf
theorem SepH.u2 (h : SepH H K (a :: b :: t :: r)) (c : Chg t.F K K') (hp : t'.P K') (hf : ∀ y ∈ t'.F, y ∈ t.F ∨ K.n ≤ y) : SepH H K' (a :: b :: t' :: r) := h.upd (l := [a, b]) c hp hf
theorem SepH.u3 (h : SepH H K (a :: b :: c :: t :: r)) (ch : Chg t.F K K') (hp : t'.P K') (hf : ∀ y ∈ t'.F, y ∈ t.F ∨ K.n ≤ y) : SepH H K' (a :: b :: c :: t' :: r) := h.upd (l := [a, b, c]) ch hp hf
theorem SepH.u4 (h : SepH H K (a :: b :: c :: d :: t :: r)) (ch : Chg t.F K K') (hp : t'.P K') (hf : ∀ y ∈ t'.F, y ∈ t.F ∨ K.n ≤ y) : SepH H K' (a :: b :: c :: d :: t' :: r) := h.upd (l := [a, b, c, d]) ch hp hf
theorem SepH.at_ (h : SepH H K ts) (i : Nat) (hi : ts[i]? = some t) : t.P K := h.sep.get i hi
theorem SepH.apart (h : SepH H K ts) (i j : Nat) (hij : i < j) (hi : ts[i]? = some a) (hj : ts[j]? = some b) {y : Nat} (hy : y ∈ a.F) : y ∉ b.F := h.sep.apart i j hij hi hj y hy
theorem SepH.lt (h : SepH H K ts) (i : Nat) (hi : ts[i]? = some t) {y : Nat} (hy : y ∈ t.F) : y < K.n := t.lt K (h.at_ i hi) y hy
theorem SepH.gei (h : SepH H K ts) (i : Nat) (hi : ts[i]? = some t) {y : Nat} (hy : y ∈ t.F) : H.n ≤ y := h.ge t (List.mem_of_getElem? hi) y hy
theorem SepH.old (h : SepH H K ts) (i : Nat) (hi : ts[i]? = some t) {y : Nat} (hy : y < H.n) : y ∉ t.F := fun hf => by have := h.gei i hi hf; omega
theorem SepH.add (h : SepH H K ts) (k : Keeps K K') (hp : t.P K') (hf : ∀ y ∈ t.F, K.n ≤ y) : SepH H K' (t :: ts) :=
  ⟨h.sep.add k hp hf, h.k.trans k, fun x hx y hy => by
    rcases List.mem_cons.1 hx with rfl | hx
    · have := hf y hy; have := h.k.n; omega
    · exact h.ge x hx y hy⟩
theorem SepH.nil (H : AHeap) : SepH H H [] := ⟨Sep.nil H, Keeps.refl H, by simp⟩
theorem SepH.perm {us : List Th} (h : SepH H K ts) (p : ts.Perm us) : SepH H K us := ⟨h.sep.perm p, h.k, fun t ht => h.ge t (p.mem_iff.2 ht)⟩
end
def thA (e esz : Nat) (v : Value) (n : Nat) (c : List Value) : Th where
  P K := AP K e esz v n c
  F := blkL v
  lt K h y hy := h.lt (mem_blkL.1 hy)
  st K K' h hn k := by
    rcases h with ⟨rfl, rfl, rfl⟩ | ⟨b, room, rfl, h1, h2⟩
    · exact .inl ⟨rfl, rfl, rfl⟩
    · exact .inr ⟨b, room, rfl, h1, by rw [k b (mem_blkL.2 rfl)]; exact h2⟩
end Go.AM
