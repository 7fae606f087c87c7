/- Part of the proof. -/
import Derived.Test.YtngnahfbgilapaaGPuts05
set_option linter.unusedSimpArgs false
set_option linter.unusedVariables false
set_option maxRecDepth 100000
namespace Go.AM.F
def O68 : List Nat := [1, 1, 1, 1, 1, 1, 1, 1, 1, 1, 1, 1, 1, 1, 1, 1, 1, 1, 1, 1, 1, 1, 1, 1, 1, 1, 1, 1, 1, 1, 1, 1, 1, 1, 1, 1, 1, 1, 1, 1, 1, 1, 1, 1, 1, 1, 1, 1, 1, 1, 1, 1, 1, 1, 1, 1, 1, 1, 1, 1, 1, 1, 1, 1, 1, 1, 1, 1]
def O70 : List Nat := [1, 1, 1, 1, 1, 1, 1, 1, 1, 1, 1, 1, 1, 1, 1, 1, 1, 1, 1, 1, 1, 1, 1, 1, 1, 1, 1, 1, 1, 1, 1, 1, 1, 1, 1, 1, 1, 1, 1, 1, 1, 1, 1, 1, 1, 1, 1, 1, 1, 1, 1, 1, 1, 1, 1, 1, 1, 1, 1, 1, 1, 1, 1, 1, 1, 1, 1, 1, 1, 1]
def f3 : AFunc := ⟨[0, 2, 3, 4, 5, 6, 7, 8, 9, 10, 11, 12, 13, 14, 15, 16, 17, 18, 19, 20, 21, 22, 23, 24, 25, 26, 27, 28, 29, 32, 140],
  .seq (.reg [
    ⟨.mov (.c (.bool false)), .fr 1, none⟩]) <|
    .seq (.seq (.reg [
    ⟨.mov (.fr 0), .tm, none⟩,
    ⟨.len false (.tm 0), .tm, none⟩,
    ⟨.bin .gtr (.tm 0) (.c (.int .i64 3000)), .fr 29, none⟩]) <|
    .cond (.fr 29)
      (.seq (.reg [
      ⟨.callf 11 [], .tm, none⟩,
      ⟨.mov (.tm 0), .fr 1, none⟩]) <|
      .ret)
      (.skip)) <|
    .seq (.reg [
    ⟨.mov (.fr 0), .tm, none⟩,
    ⟨.b2s (.tm 0), .tm, none⟩,
    ⟨.s2b 5 (.tm 0), .tm, none⟩,
    ⟨.mov (.tm 0), .fr 2, none⟩]) <|
    .seq (.reg [
    ⟨.mov (.fr 2), .tm, none⟩,
    ⟨.callf 12 [(.tm 0)], .tm, none⟩,
    ⟨.mov (.tm 0), .tm, none⟩,
    ⟨.extract (.tm 0) 0, .tm, none⟩,
    ⟨.extract (.tm 1) 1, .tm, none⟩,
    ⟨.new 30 6 [(.int .u8 0), (.int .i64 0), (.int .u64 0), (.int .u32 0), (.int .u32 0), (.slice none 0 0)], .fr 3, none⟩,
    ⟨.storen 6 (.fr 3) (.tm 1), .no, none⟩,
    ⟨.mov (.tm 0), .fr 4, none⟩]) <|
    .seq (.reg [
    ⟨.mov (.fr 0), .tm, none⟩,
    ⟨.callf 13 [(.tm 0)], .tm, none⟩,
    ⟨.mov (.tm 0), .tm, none⟩,
    ⟨.extract (.tm 0) 0, .tm, none⟩,
    ⟨.extract (.tm 1) 1, .tm, none⟩,
    ⟨.new 34 6 [(.int .u8 0), (.int .i64 0), (.int .u64 0), (.int .u32 0), (.int .u32 0), (.slice none 0 0)], .fr 5, none⟩,
    ⟨.storen 6 (.fr 5) (.tm 1), .no, none⟩,
    ⟨.mov (.tm 0), .fr 6, none⟩]) <|
    .seq (.dreg [
    (⟨.loadn 6 (.fr 3), .tm, none⟩, []),
    (⟨.callf 15 [(.tm 0)], .tm, none⟩, []),
    (⟨.loadn 6 (.fr 5), .tm, none⟩, [1]),
    (⟨.callf 14 [(.tm 1), (.tm 0)], .tm, none⟩, []),
    (⟨.mov (.tm 0), .tm, none⟩, []),
    (⟨.mov (.fr 4), .tm, some ((.tm 0), true)⟩, []),
    (⟨.bin .eql (.tm 0) (.c (.int .i64 0)), .tm, some ((.tm 1), true)⟩, []),
    (⟨.mov (.fr 6), .tm, some ((.tm 2), true)⟩, []),
    (⟨.eqv 0 false (.tm 1) (.tm 0), .tm, some ((.tm 3), true)⟩, []),
    (⟨.pick (.tm 4) (.tm 0) (.c (.bool false)), .tm, none⟩, []),
    (⟨.mov (.tm 0), .fr 7, none⟩, [])]) <|
    .seq (.reg [
    ⟨.mov (.fr 2), .tm, none⟩,
    ⟨.callf 16 [(.tm 0)], .tm, none⟩,
    ⟨.mov (.tm 0), .tm, none⟩,
    ⟨.extract (.tm 0) 0, .tm, none⟩,
    ⟨.extract (.tm 1) 1, .tm, none⟩,
    ⟨.new 42 5 [(.int .u8 0), (.int .i64 0), (.int .i64 0), (.int .u64 0), (.int .u32 0)], .fr 8, none⟩,
    ⟨.storen 5 (.fr 8) (.tm 1), .no, none⟩,
    ⟨.mov (.tm 0), .fr 9, none⟩]) <|
    .seq (.reg [
    ⟨.mov (.fr 0), .tm, none⟩,
    ⟨.callf 17 [(.tm 0)], .tm, none⟩,
    ⟨.mov (.tm 0), .tm, none⟩,
    ⟨.extract (.tm 0) 0, .tm, none⟩,
    ⟨.extract (.tm 1) 1, .tm, none⟩,
    ⟨.new 45 5 [(.int .u8 0), (.int .i64 0), (.int .i64 0), (.int .u64 0), (.int .u32 0)], .fr 10, none⟩,
    ⟨.storen 5 (.fr 10) (.tm 1), .no, none⟩,
    ⟨.mov (.tm 0), .fr 11, none⟩]) <|
    .seq (.dreg [
    (⟨.loadn 5 (.fr 8), .tm, none⟩, []),
    (⟨.callf 18 [(.tm 0)], .tm, none⟩, []),
    (⟨.loadn 5 (.fr 10), .tm, none⟩, [1]),
    (⟨.eqs [1, 1, 1, 1, 1] false (.tm 1) (.tm 0), .tm, none⟩, []),
    (⟨.mov (.tm 0), .tm, none⟩, []),
    (⟨.mov (.fr 9), .tm, some ((.tm 0), true)⟩, []),
    (⟨.bin .eql (.tm 0) (.c (.int .i64 0)), .tm, some ((.tm 1), true)⟩, []),
    (⟨.mov (.fr 11), .tm, some ((.tm 2), true)⟩, []),
    (⟨.eqv 0 false (.tm 1) (.tm 0), .tm, some ((.tm 3), true)⟩, []),
    (⟨.pick (.tm 4) (.tm 0) (.c (.bool false)), .tm, none⟩, []),
    (⟨.mov (.tm 0), .fr 12, none⟩, [])]) <|
    .seq (.reg [
    ⟨.mov (.fr 2), .tm, none⟩,
    ⟨.callf 19 [(.tm 0)], .tm, none⟩,
    ⟨.mov (.tm 0), .tm, none⟩,
    ⟨.extract (.tm 0) 0, .tm, none⟩,
    ⟨.extract (.tm 1) 1, .tm, none⟩,
    ⟨.new 51 68 Z68, .fr 13, none⟩,
    ⟨.storen 68 (.fr 13) (.tm 1), .no, none⟩,
    ⟨.mov (.tm 0), .fr 14, none⟩]) <|
    .seq (.reg [
    ⟨.mov (.fr 0), .tm, none⟩,
    ⟨.callf 20 [(.tm 0)], .tm, none⟩,
    ⟨.mov (.tm 0), .tm, none⟩,
    ⟨.extract (.tm 0) 0, .tm, none⟩,
    ⟨.extract (.tm 1) 1, .tm, none⟩,
    ⟨.new 51 68 Z68, .fr 15, none⟩,
    ⟨.storen 68 (.fr 15) (.tm 1), .no, none⟩,
    ⟨.mov (.tm 0), .fr 16, none⟩]) <|
    .seq (.reg [
    ⟨.loadn 68 (.fr 13), .tm, none⟩,
    ⟨.loadn 68 (.fr 15), .tm, none⟩,
    ⟨.eqs O68 false (.tm 1) (.tm 0), .tm, none⟩,
    ⟨.mov (.tm 0), .tm, none⟩,
    ⟨.mov (.fr 14), .tm, some ((.tm 0), true)⟩,
    ⟨.bin .eql (.tm 0) (.c (.int .i64 0)), .tm, some ((.tm 1), true)⟩,
    ⟨.mov (.fr 16), .tm, some ((.tm 2), true)⟩,
    ⟨.eqv 0 false (.tm 1) (.tm 0), .tm, some ((.tm 3), true)⟩,
    ⟨.pick (.tm 4) (.tm 0) (.c (.bool false)), .tm, none⟩,
    ⟨.mov (.tm 0), .fr 17, none⟩]) <|
    .seq (.reg [
    ⟨.mov (.fr 2), .tm, none⟩,
    ⟨.callf 21 [(.tm 0)], .tm, none⟩,
    ⟨.mov (.tm 0), .tm, none⟩,
    ⟨.extract (.tm 0) 0, .tm, none⟩,
    ⟨.extract (.tm 1) 1, .tm, none⟩,
    ⟨.new 57 70 Z70, .fr 18, none⟩,
    ⟨.storen 70 (.fr 18) (.tm 1), .no, none⟩,
    ⟨.mov (.tm 0), .fr 19, none⟩]) <|
    .seq (.reg [
    ⟨.mov (.fr 0), .tm, none⟩,
    ⟨.callf 22 [(.tm 0)], .tm, none⟩,
    ⟨.mov (.tm 0), .tm, none⟩,
    ⟨.extract (.tm 0) 0, .tm, none⟩,
    ⟨.extract (.tm 1) 1, .tm, none⟩,
    ⟨.new 60 70 Z70, .fr 20, none⟩,
    ⟨.storen 70 (.fr 20) (.tm 1), .no, none⟩,
    ⟨.mov (.tm 0), .fr 21, none⟩]) <|
    .seq (.dreg [
    (⟨.loadn 70 (.fr 18), .tm, none⟩, []),
    (⟨.callf 23 [(.tm 0)], .tm, none⟩, []),
    (⟨.loadn 70 (.fr 20), .tm, none⟩, [1]),
    (⟨.eqs O70 false (.tm 1) (.tm 0), .tm, none⟩, []),
    (⟨.mov (.tm 0), .tm, none⟩, []),
    (⟨.mov (.fr 19), .tm, some ((.tm 0), true)⟩, []),
    (⟨.bin .eql (.tm 0) (.c (.int .i64 0)), .tm, some ((.tm 1), true)⟩, []),
    (⟨.mov (.fr 21), .tm, some ((.tm 2), true)⟩, []),
    (⟨.eqv 0 false (.tm 1) (.tm 0), .tm, some ((.tm 3), true)⟩, []),
    (⟨.pick (.tm 4) (.tm 0) (.c (.bool false)), .tm, none⟩, []),
    (⟨.mov (.tm 0), .fr 22, none⟩, [])]) <|
    .seq (.reg [
    ⟨.mov (.fr 2), .tm, none⟩,
    ⟨.callf 24 [(.tm 0)], .tm, none⟩,
    ⟨.mov (.tm 0), .tm, none⟩,
    ⟨.extract (.tm 0) 0, .tm, none⟩,
    ⟨.extract (.tm 1) 1, .tm, none⟩,
    ⟨.new 65 5 [(.int .u8 0), (.int .u8 0), (.int .i64 0), (.int .i64 0), (.slice none 0 0)], .fr 23, none⟩,
    ⟨.storen 5 (.fr 23) (.tm 1), .no, none⟩,
    ⟨.mov (.tm 0), .fr 24, none⟩]) <|
    .seq (.reg [
    ⟨.mov (.fr 0), .tm, none⟩,
    ⟨.callf 25 [(.tm 0)], .tm, none⟩,
    ⟨.mov (.tm 0), .tm, none⟩,
    ⟨.extract (.tm 0) 0, .tm, none⟩,
    ⟨.extract (.tm 1) 1, .tm, none⟩,
    ⟨.new 69 5 [(.int .u8 0), (.int .u8 0), (.int .i64 0), (.int .i64 0), (.string ByteArray.empty)], .fr 25, none⟩,
    ⟨.storen 5 (.fr 25) (.tm 1), .no, none⟩,
    ⟨.mov (.tm 0), .fr 26, none⟩]) <|
    .seq (.dreg [
    (⟨.loadn 5 (.fr 23), .tm, none⟩, []),
    (⟨.callf 26 [(.tm 0)], .tm, none⟩, []),
    (⟨.loadn 5 (.fr 25), .tm, none⟩, [1]),
    (⟨.eqs [1, 1, 1, 1, 2] false (.tm 1) (.tm 0), .tm, none⟩, []),
    (⟨.mov (.tm 0), .tm, none⟩, []),
    (⟨.mov (.fr 24), .tm, some ((.tm 0), true)⟩, []),
    (⟨.bin .eql (.tm 0) (.c (.int .i64 0)), .tm, some ((.tm 1), true)⟩, []),
    (⟨.mov (.fr 26), .tm, some ((.tm 2), true)⟩, []),
    (⟨.eqv 0 false (.tm 1) (.tm 0), .tm, some ((.tm 3), true)⟩, []),
    (⟨.pick (.tm 4) (.tm 0) (.c (.bool false)), .tm, none⟩, []),
    (⟨.mov (.tm 0), .fr 27, none⟩, [])]) <|
    .seq (.seq (.reg [
    ⟨.mov (.c (.int .i64 0)), .fr 28, none⟩]) <|
    .block 0 (.loop (.seq (.seq (.reg [
        ⟨.mov (.fr 28), .tm, none⟩,
        ⟨.faddr 4 (.fr 23), .tm, none⟩,
        ⟨.load1 (.tm 0), .tm, none⟩,
        ⟨.len false (.tm 0), .tm, none⟩,
        ⟨.bin .lss (.tm 3) (.tm 0), .fr 30, none⟩]) <|
        .cond (.fr 30)
          (.skip)
          (.exit 0)) <|
        .seq (.block 1 (.dreg [
          (⟨.faddr 4 (.fr 23), .tm, none⟩, []),
          (⟨.load1 (.tm 0), .tm, none⟩, []),
          (⟨.mov (.fr 28), .tm, none⟩, []),
          (⟨.faddr 4 (.fr 23), .tm, none⟩, []),
          (⟨.load1 (.tm 0), .tm, none⟩, []),
          (⟨.mov (.fr 28), .tm, none⟩, []),
          (⟨.iaddr 1 (.tm 1) (.tm 0), .tm, none⟩, []),
          (⟨.load1 (.tm 0), .tm, none⟩, []),
          (⟨.bin .add (.tm 0) (.c (.int .u8 1)), .tm, none⟩, []),
          (⟨.iaddr 1 (.tm 7) (.tm 6), .tm, none⟩, []),
          (⟨.store1 (.tm 0) (.tm 1), .no, none⟩, [])])) <|
        .reg [
        ⟨.mov (.fr 28), .tm, none⟩,
        ⟨.bin .add (.tm 0) (.c (.int .i64 1)), .tm, none⟩,
        ⟨.mov (.tm 0), .fr 28, none⟩]))) <|
    .seq (.reg [
    ⟨.mov (.fr 7), .tm, none⟩,
    ⟨.mov (.tm 0), .tm, none⟩,
    ⟨.mov (.fr 12), .tm, some ((.tm 0), true)⟩,
    ⟨.pick (.tm 1) (.tm 0) (.c (.bool false)), .tm, none⟩,
    ⟨.mov (.tm 0), .tm, none⟩,
    ⟨.mov (.fr 17), .tm, some ((.tm 0), true)⟩,
    ⟨.pick (.tm 1) (.tm 0) (.c (.bool false)), .tm, none⟩,
    ⟨.mov (.tm 0), .tm, none⟩,
    ⟨.mov (.fr 22), .tm, some ((.tm 0), true)⟩,
    ⟨.pick (.tm 1) (.tm 0) (.c (.bool false)), .tm, none⟩,
    ⟨.mov (.tm 0), .tm, none⟩,
    ⟨.mov (.fr 27), .tm, some ((.tm 0), true)⟩,
    ⟨.pick (.tm 1) (.tm 0) (.c (.bool false)), .tm, none⟩,
    ⟨.mov (.tm 0), .tm, none⟩,
    ⟨.mov (.fr 4), .tm, some ((.tm 0), true)⟩,
    ⟨.mov (.fr 9), .tm, some ((.tm 1), true)⟩,
    ⟨.mov (.fr 14), .tm, some ((.tm 2), true)⟩,
    ⟨.mov (.fr 19), .tm, some ((.tm 3), true)⟩,
    ⟨.mov (.fr 24), .tm, some ((.tm 4), true)⟩,
    ⟨.callf 27 [(.tm 4), (.tm 3), (.tm 2), (.tm 1), (.tm 0)], .tm, some ((.tm 5), true)⟩,
    ⟨.pick (.tm 6) (.tm 0) (.c (.bool false)), .tm, none⟩,
    ⟨.mov (.tm 0), .tm, none⟩,
    ⟨.mov (.fr 2), .tm, some ((.tm 0), true)⟩,
    ⟨.callf 28 [(.tm 0)], .tm, some ((.tm 1), true)⟩,
    ⟨.mov (.fr 0), .tm, some ((.tm 2), true)⟩,
    ⟨.callf 29 [(.tm 0)], .tm, some ((.tm 3), true)⟩,
    ⟨.bin .eql (.tm 2) (.tm 0), .tm, some ((.tm 4), true)⟩,
    ⟨.pick (.tm 5) (.tm 0) (.c (.bool false)), .tm, none⟩,
    ⟨.mov (.tm 0), .tm, none⟩,
    ⟨.mov (.fr 2), .tm, some ((.tm 0), true)⟩,
    ⟨.b2s (.tm 0), .tm, some ((.tm 1), true)⟩,
    ⟨.mov (.fr 0), .tm, some ((.tm 2), true)⟩,
    ⟨.b2s (.tm 0), .tm, some ((.tm 3), true)⟩,
    ⟨.bin .eql (.tm 2) (.tm 0), .tm, some ((.tm 4), true)⟩,
    ⟨.pick (.tm 5) (.tm 0) (.c (.bool false)), .tm, none⟩,
    ⟨.mov (.tm 0), .tm, none⟩,
    ⟨.callf 11 [], .tm, some ((.tm 0), true)⟩,
    ⟨.pick (.tm 1) (.tm 0) (.c (.bool false)), .tm, none⟩,
    ⟨.mov (.tm 0), .fr 1, none⟩]) <|
    .ret, [.t 1]⟩
def f5 : AFunc := ⟨[0, 1, 2, 3, 4, 5, 6, 7, 8, 9, 10, 11, 12, 13, 14, 15, 16, 20, 23, 55, 69, 73],
  .seq (.reg [
    ⟨.box 30 6 (.fr 0), .fr 5, none⟩,
    ⟨.box 42 5 (.fr 1), .fr 6, none⟩,
    ⟨.box 51 68 (.fr 2), .fr 7, none⟩,
    ⟨.box 57 70 (.fr 3), .fr 8, none⟩,
    ⟨.box 65 5 (.fr 4), .fr 9, none⟩,
    ⟨.mov (.c (.bool false)), .fr 10, none⟩]) <|
    .seq (.seq (.reg [
    ⟨.loadn 6 (.fr 5), .tm, none⟩,
    ⟨.loadn 5 (.fr 9), .tm, none⟩,
    ⟨.callf 43 [(.tm 1), (.tm 0)], .tm, none⟩,
    ⟨.un .not (.tm 0), .fr 17, none⟩]) <|
    .cond (.fr 17)
      (.seq (.reg [
      ⟨.callf 11 [], .tm, none⟩,
      ⟨.mov (.tm 0), .fr 10, none⟩]) <|
      .ret)
      (.skip)) <|
    .seq (.seq (.reg [
    ⟨.mov (.c (.int .i64 0)), .fr 11, none⟩]) <|
    .block 0 (.loop (.seq (.seq (.reg [
        ⟨.mov (.fr 11), .tm, none⟩,
        ⟨.bin .lss (.tm 0) (.c (.int .i64 2)), .fr 18, none⟩]) <|
        .cond (.fr 18)
          (.skip)
          (.exit 0)) <|
        .seq (.block 1 (.seq (.dreg [
          (⟨.loadn 6 (.fr 5), .tm, none⟩, []),
          (⟨.callf 44 [(.tm 0)], .tm, none⟩, []),
          (⟨.loadn 5 (.fr 6), .tm, none⟩, [1]),
          (⟨.callf 45 [(.tm 0)], .tm, none⟩, []),
          (⟨.loadn 68 (.fr 7), .tm, none⟩, [1, 3]),
          (⟨.callf 46 [(.tm 0)], .tm, none⟩, []),
          (⟨.loadn 70 (.fr 8), .tm, none⟩, [1, 3, 5]),
          (⟨.callf 47 [(.tm 0)], .tm, none⟩, []),
          (⟨.loadn 5 (.fr 9), .tm, none⟩, [1, 3, 5, 7]),
          (⟨.callf 36 [(.tm 0)], .tm, none⟩, []),
          (⟨.bslice 22 1 5 [(.slice none 0 0), (.slice none 0 0), (.slice none 0 0), (.slice none 0 0), (.slice none 0 0)] [(0, 1, (.tm 8)), (1, 1, (.tm 6)), (2, 1, (.tm 4)), (3, 1, (.tm 2)), (4, 1, (.tm 0))], .tm, none⟩, []),
          (⟨.mov (.tm 0), .fr 12, none⟩, [])]) <|
          .seq (.dreg [
          (⟨.loadn 6 (.fr 5), .tm, none⟩, []),
          (⟨.callf 15 [(.tm 0)], .tm, none⟩, []),
          (⟨.callf 48 [(.tm 0)], .tm, none⟩, []),
          (⟨.loadn 5 (.fr 6), .tm, none⟩, [1, 2]),
          (⟨.callf 18 [(.tm 0)], .tm, none⟩, []),
          (⟨.callf 49 [(.tm 0)], .tm, none⟩, []),
          (⟨.loadn 68 (.fr 7), .tm, none⟩, [1, 2, 4, 5]),
          (⟨.callf 50 [(.tm 0)], .tm, none⟩, []),
          (⟨.loadn 70 (.fr 8), .tm, none⟩, [1, 2, 4, 5, 7]),
          (⟨.callf 23 [(.tm 0)], .tm, none⟩, []),
          (⟨.callf 51 [(.tm 0)], .tm, none⟩, []),
          (⟨.loadn 5 (.fr 9), .tm, none⟩, [1, 2, 4, 5, 7, 9, 10]),
          (⟨.callf 26 [(.tm 0)], .tm, none⟩, []),
          (⟨.callf 52 [(.tm 0)], .tm, none⟩, []),
          (⟨.bslice 22 1 5 [(.slice none 0 0), (.slice none 0 0), (.slice none 0 0), (.slice none 0 0), (.slice none 0 0)] [(0, 1, (.tm 11)), (1, 1, (.tm 8)), (2, 1, (.tm 6)), (3, 1, (.tm 3)), (4, 1, (.tm 0))], .tm, none⟩, []),
          (⟨.mov (.tm 0), .fr 13, none⟩, [])]) <|
          .seq (.reg [
          ⟨.mov (.c (.int .i64 0)), .fr 14, none⟩]) <|
          .block 2 (.loop (.seq (.seq (.reg [
              ⟨.mov (.fr 14), .tm, none⟩,
              ⟨.mov (.fr 12), .tm, none⟩,
              ⟨.len false (.tm 0), .tm, none⟩,
              ⟨.bin .lss (.tm 2) (.tm 0), .fr 19, none⟩]) <|
              .cond (.fr 19)
                (.skip)
                (.exit 2)) <|
              .seq (.block 3 (.seq (.reg [
                ⟨.mov (.fr 12), .tm, none⟩,
                ⟨.mov (.fr 14), .tm, none⟩,
                ⟨.iaddr 1 (.tm 1) (.tm 0), .tm, none⟩,
                ⟨.load1 (.tm 0), .tm, none⟩,
                ⟨.mov (.tm 0), .fr 15, none⟩]) <|
                .seq (.seq (.dreg [
                (⟨.mov (.fr 15), .tm, none⟩, []),
                (⟨.b2s (.tm 0), .tm, none⟩, []),
                (⟨.mov (.fr 13), .tm, none⟩, []),
                (⟨.mov (.fr 14), .tm, none⟩, []),
                (⟨.iaddr 1 (.tm 1) (.tm 0), .tm, none⟩, []),
                (⟨.load1 (.tm 0), .tm, none⟩, []),
                (⟨.b2s (.tm 0), .tm, none⟩, []),
                (⟨.bin .neq (.tm 5) (.tm 0), .fr 20, none⟩, [])]) <|
                .cond (.fr 20)
                  (.seq (.reg [
                  ⟨.mov (.c (.bool false)), .fr 10, none⟩]) <|
                  .ret)
                  (.skip)) <|
                .seq (.reg [
                ⟨.mov (.c (.int .i64 0)), .fr 16, none⟩]) <|
                .block 4 (.loop (.seq (.seq (.reg [
                    ⟨.mov (.fr 16), .tm, none⟩,
                    ⟨.mov (.fr 15), .tm, none⟩,
                    ⟨.len false (.tm 0), .tm, none⟩,
                    ⟨.bin .lss (.tm 2) (.tm 0), .fr 21, none⟩]) <|
                    .cond (.fr 21)
                      (.skip)
                      (.exit 4)) <|
                    .seq (.block 5 (.reg [
                      ⟨.mov (.fr 15), .tm, none⟩,
                      ⟨.mov (.fr 16), .tm, none⟩,
                      ⟨.mov (.fr 15), .tm, none⟩,
                      ⟨.mov (.fr 16), .tm, none⟩,
                      ⟨.iaddr 1 (.tm 1) (.tm 0), .tm, none⟩,
                      ⟨.load1 (.tm 0), .tm, none⟩,
                      ⟨.bin .add (.tm 0) (.c (.int .u8 1)), .tm, none⟩,
                      ⟨.iaddr 1 (.tm 6) (.tm 5), .tm, none⟩,
                      ⟨.store1 (.tm 0) (.tm 1), .no, none⟩])) <|
                    .reg [
                    ⟨.mov (.fr 16), .tm, none⟩,
                    ⟨.bin .add (.tm 0) (.c (.int .i64 1)), .tm, none⟩,
                    ⟨.mov (.tm 0), .fr 16, none⟩])))) <|
              .reg [
              ⟨.mov (.fr 14), .tm, none⟩,
              ⟨.bin .add (.tm 0) (.c (.int .i64 1)), .tm, none⟩,
              ⟨.mov (.tm 0), .fr 14, none⟩])))) <|
        .reg [
        ⟨.mov (.fr 11), .tm, none⟩,
        ⟨.bin .add (.tm 0) (.c (.int .i64 1)), .tm, none⟩,
        ⟨.mov (.tm 0), .fr 11, none⟩]))) <|
    .seq (.reg [
    ⟨.callf 11 [], .tm, none⟩,
    ⟨.mov (.tm 0), .fr 10, none⟩]) <|
    .ret, [.t 10]⟩
def f6 : AFunc := ⟨[0, 1, 2, 3, 4, 5, 6, 7, 8, 9, 10, 12, 13, 14, 15, 16, 17, 18, 19, 28, 56, 80, 99, 123, 149],
  .seq (.reg [
    ⟨.box 30 6 (.fr 0), .fr 6, none⟩,
    ⟨.box 42 5 (.fr 1), .fr 7, none⟩,
    ⟨.box 51 68 (.fr 2), .fr 8, none⟩,
    ⟨.box 57 70 (.fr 3), .fr 9, none⟩,
    ⟨.box 65 5 (.fr 4), .fr 10, none⟩,
    ⟨.mov (.c (.bool false)), .fr 11, none⟩]) <|
    .seq (.seq (.reg [
    ⟨.loadn 6 (.fr 6), .tm, none⟩,
    ⟨.loadn 5 (.fr 10), .tm, none⟩,
    ⟨.callf 43 [(.tm 1), (.tm 0)], .tm, none⟩,
    ⟨.un .not (.tm 0), .tm, none⟩,
    ⟨.mov (.tm 0), .tm, none⟩,
    ⟨.mov (.fr 5), .tm, some ((.tm 0), false)⟩,
    ⟨.len false (.tm 0), .tm, some ((.tm 1), false)⟩,
    ⟨.bin .gtr (.tm 0) (.c (.int .i64 3000)), .tm, some ((.tm 2), false)⟩,
    ⟨.pick (.tm 3) (.c (.bool true)) (.tm 0), .fr 19, none⟩]) <|
    .cond (.fr 19)
      (.seq (.reg [
      ⟨.callf 11 [], .tm, none⟩,
      ⟨.mov (.tm 0), .fr 11, none⟩]) <|
      .ret)
      (.skip)) <|
    .seq (.reg [
    ⟨.loadn 6 (.fr 6), .tm, none⟩,
    ⟨.callf 44 [(.tm 0)], .tm, none⟩,
    ⟨.mov (.tm 0), .fr 12, none⟩]) <|
    .seq (.reg [
    ⟨.mov (.fr 12), .tm, none⟩,
    ⟨.callf 12 [(.tm 0)], .tm, none⟩,
    ⟨.mov (.tm 0), .tm, none⟩,
    ⟨.extract (.tm 0) 0, .tm, none⟩,
    ⟨.extract (.tm 1) 1, .tm, none⟩,
    ⟨.new 30 6 [(.int .u8 0), (.int .i64 0), (.int .u64 0), (.int .u32 0), (.int .u32 0), (.slice none 0 0)], .fr 13, none⟩,
    ⟨.storen 6 (.fr 13) (.tm 1), .no, none⟩,
    ⟨.mov (.tm 0), .fr 14, none⟩]) <|
    .seq (.seq (.dreg [
    (⟨.mov (.fr 12), .tm, none⟩, []),
    (⟨.len false (.tm 0), .tm, none⟩, []),
    (⟨.bin .gtr (.tm 0) (.c (.int .i64 0)), .tm, none⟩, []),
    (⟨.mov (.tm 0), .tm, none⟩, []),
    (⟨.mov (.fr 14), .tm, some ((.tm 0), true)⟩, []),
    (⟨.bin .neq (.tm 0) (.c (.int .i64 0)), .tm, some ((.tm 1), true)⟩, []),
    (⟨.mov (.tm 0), .tm, some ((.tm 2), true)⟩, []),
    (⟨.loadn 6 (.fr 13), .tm, some ((.tm 0), false)⟩, []),
    (⟨.callf 15 [(.tm 0)], .tm, some ((.tm 1), false)⟩, []),
    (⟨.loadn 6 (.fr 6), .tm, some ((.tm 2), false)⟩, [8]),
    (⟨.callf 15 [(.tm 0)], .tm, some ((.tm 3), false)⟩, []),
    (⟨.callf 14 [(.tm 2), (.tm 0)], .tm, some ((.tm 4), false)⟩, []),
    (⟨.un .not (.tm 0), .tm, some ((.tm 5), false)⟩, []),
    (⟨.pick (.tm 6) (.c (.bool true)) (.tm 0), .tm, some ((.tm 9), true)⟩, []),
    (⟨.mov (.tm 0), .tm, some ((.tm 10), true)⟩, []),
    (⟨.mov (.fr 12), .tm, some ((.tm 0), false)⟩, []),
    (⟨.callf 28 [(.tm 0)], .tm, some ((.tm 1), false)⟩, []),
    (⟨.bin .neq (.tm 0) (.c (.int .u8 1)), .tm, some ((.tm 2), false)⟩, []),
    (⟨.pick (.tm 3) (.c (.bool true)) (.tm 0), .tm, some ((.tm 14), true)⟩, []),
    (⟨.pick (.tm 15) (.tm 0) (.c (.bool false)), .fr 20, none⟩, [])]) <|
    .cond (.fr 20)
      (.seq (.reg [
      ⟨.mov (.c (.bool false)), .fr 11, none⟩]) <|
      .ret)
      (.skip)) <|
    .seq (.reg [
    ⟨.loadn 5 (.fr 7), .tm, none⟩,
    ⟨.callf 45 [(.tm 0)], .tm, none⟩,
    ⟨.mov (.tm 0), .fr 12, none⟩]) <|
    .seq (.reg [
    ⟨.mov (.fr 12), .tm, none⟩,
    ⟨.callf 16 [(.tm 0)], .tm, none⟩,
    ⟨.mov (.tm 0), .tm, none⟩,
    ⟨.extract (.tm 0) 0, .tm, none⟩,
    ⟨.extract (.tm 1) 1, .tm, none⟩,
    ⟨.new 42 5 [(.int .u8 0), (.int .i64 0), (.int .i64 0), (.int .u64 0), (.int .u32 0)], .fr 15, none⟩,
    ⟨.storen 5 (.fr 15) (.tm 1), .no, none⟩,
    ⟨.mov (.tm 0), .fr 14, none⟩]) <|
    .seq (.seq (.reg [
    ⟨.mov (.fr 12), .tm, none⟩,
    ⟨.len false (.tm 0), .tm, none⟩,
    ⟨.bin .gtr (.tm 0) (.c (.int .i64 0)), .tm, none⟩,
    ⟨.mov (.tm 0), .tm, none⟩,
    ⟨.mov (.fr 14), .tm, some ((.tm 0), true)⟩,
    ⟨.bin .neq (.tm 0) (.c (.int .i64 0)), .tm, some ((.tm 1), true)⟩,
    ⟨.mov (.tm 0), .tm, some ((.tm 2), true)⟩,
    ⟨.loadn 5 (.fr 15), .tm, some ((.tm 0), false)⟩,
    ⟨.loadn 5 (.fr 7), .tm, some ((.tm 1), false)⟩,
    ⟨.eqs [1, 1, 1, 1, 1] true (.tm 1) (.tm 0), .tm, some ((.tm 2), false)⟩,
    ⟨.pick (.tm 3) (.c (.bool true)) (.tm 0), .tm, some ((.tm 6), true)⟩,
    ⟨.mov (.tm 0), .tm, some ((.tm 7), true)⟩,
    ⟨.mov (.fr 12), .tm, some ((.tm 0), false)⟩,
    ⟨.callf 28 [(.tm 0)], .tm, some ((.tm 1), false)⟩,
    ⟨.bin .neq (.tm 0) (.c (.int .u8 2)), .tm, some ((.tm 2), false)⟩,
    ⟨.pick (.tm 3) (.c (.bool true)) (.tm 0), .tm, some ((.tm 11), true)⟩,
    ⟨.pick (.tm 12) (.tm 0) (.c (.bool false)), .fr 21, none⟩]) <|
    .cond (.fr 21)
      (.seq (.reg [
      ⟨.mov (.c (.bool false)), .fr 11, none⟩]) <|
      .ret)
      (.skip)) <|
    .seq (.reg [
    ⟨.loadn 68 (.fr 8), .tm, none⟩,
    ⟨.callf 46 [(.tm 0)], .tm, none⟩,
    ⟨.mov (.tm 0), .fr 12, none⟩]) <|
    .seq (.reg [
    ⟨.mov (.fr 12), .tm, none⟩,
    ⟨.callf 19 [(.tm 0)], .tm, none⟩,
    ⟨.mov (.tm 0), .tm, none⟩,
    ⟨.extract (.tm 0) 0, .tm, none⟩,
    ⟨.extract (.tm 1) 1, .tm, none⟩,
    ⟨.new 51 68 Z68, .fr 16, none⟩,
    ⟨.storen 68 (.fr 16) (.tm 1), .no, none⟩,
    ⟨.mov (.tm 0), .fr 14, none⟩]) <|
    .seq (.seq (.reg [
    ⟨.mov (.fr 14), .tm, none⟩,
    ⟨.bin .neq (.tm 0) (.c (.int .i64 0)), .tm, none⟩,
    ⟨.mov (.tm 0), .tm, none⟩,
    ⟨.loadn 68 (.fr 16), .tm, some ((.tm 0), false)⟩,
    ⟨.loadn 68 (.fr 8), .tm, some ((.tm 1), false)⟩,
    ⟨.eqs O68 true (.tm 1) (.tm 0), .tm, some ((.tm 2), false)⟩,
    ⟨.pick (.tm 3) (.c (.bool true)) (.tm 0), .tm, none⟩,
    ⟨.mov (.tm 0), .tm, none⟩,
    ⟨.mov (.fr 12), .tm, some ((.tm 0), false)⟩,
    ⟨.callf 28 [(.tm 0)], .tm, some ((.tm 1), false)⟩,
    ⟨.bin .neq (.tm 0) (.c (.int .u8 3)), .tm, some ((.tm 2), false)⟩,
    ⟨.pick (.tm 3) (.c (.bool true)) (.tm 0), .fr 22, none⟩]) <|
    .cond (.fr 22)
      (.seq (.reg [
      ⟨.mov (.c (.bool false)), .fr 11, none⟩]) <|
      .ret)
      (.skip)) <|
    .seq (.reg [
    ⟨.loadn 70 (.fr 9), .tm, none⟩,
    ⟨.callf 47 [(.tm 0)], .tm, none⟩,
    ⟨.mov (.tm 0), .fr 12, none⟩]) <|
    .seq (.reg [
    ⟨.mov (.fr 12), .tm, none⟩,
    ⟨.callf 21 [(.tm 0)], .tm, none⟩,
    ⟨.mov (.tm 0), .tm, none⟩,
    ⟨.extract (.tm 0) 0, .tm, none⟩,
    ⟨.extract (.tm 1) 1, .tm, none⟩,
    ⟨.new 57 70 Z70, .fr 17, none⟩,
    ⟨.storen 70 (.fr 17) (.tm 1), .no, none⟩,
    ⟨.mov (.tm 0), .fr 14, none⟩]) <|
    .seq (.seq (.reg [
    ⟨.mov (.fr 12), .tm, none⟩,
    ⟨.len false (.tm 0), .tm, none⟩,
    ⟨.bin .gtr (.tm 0) (.c (.int .i64 0)), .tm, none⟩,
    ⟨.mov (.tm 0), .tm, none⟩,
    ⟨.mov (.fr 14), .tm, some ((.tm 0), true)⟩,
    ⟨.bin .neq (.tm 0) (.c (.int .i64 0)), .tm, some ((.tm 1), true)⟩,
    ⟨.mov (.tm 0), .tm, some ((.tm 2), true)⟩,
    ⟨.loadn 70 (.fr 17), .tm, some ((.tm 0), false)⟩,
    ⟨.loadn 70 (.fr 9), .tm, some ((.tm 1), false)⟩,
    ⟨.eqs O70 true (.tm 1) (.tm 0), .tm, some ((.tm 2), false)⟩,
    ⟨.pick (.tm 3) (.c (.bool true)) (.tm 0), .tm, some ((.tm 6), true)⟩,
    ⟨.mov (.tm 0), .tm, some ((.tm 7), true)⟩,
    ⟨.mov (.fr 12), .tm, some ((.tm 0), false)⟩,
    ⟨.callf 28 [(.tm 0)], .tm, some ((.tm 1), false)⟩,
    ⟨.bin .neq (.tm 0) (.c (.int .u8 4)), .tm, some ((.tm 2), false)⟩,
    ⟨.pick (.tm 3) (.c (.bool true)) (.tm 0), .tm, some ((.tm 11), true)⟩,
    ⟨.pick (.tm 12) (.tm 0) (.c (.bool false)), .fr 23, none⟩]) <|
    .cond (.fr 23)
      (.seq (.reg [
      ⟨.mov (.c (.bool false)), .fr 11, none⟩]) <|
      .ret)
      (.skip)) <|
    .seq (.reg [
    ⟨.loadn 5 (.fr 10), .tm, none⟩,
    ⟨.callf 36 [(.tm 0)], .tm, none⟩,
    ⟨.mov (.tm 0), .fr 12, none⟩]) <|
    .seq (.reg [
    ⟨.mov (.fr 12), .tm, none⟩,
    ⟨.callf 24 [(.tm 0)], .tm, none⟩,
    ⟨.mov (.tm 0), .tm, none⟩,
    ⟨.extract (.tm 0) 0, .tm, none⟩,
    ⟨.extract (.tm 1) 1, .tm, none⟩,
    ⟨.new 65 5 [(.int .u8 0), (.int .u8 0), (.int .i64 0), (.int .i64 0), (.slice none 0 0)], .fr 18, none⟩,
    ⟨.storen 5 (.fr 18) (.tm 1), .no, none⟩,
    ⟨.mov (.tm 0), .fr 14, none⟩]) <|
    .seq (.seq (.dreg [
    (⟨.mov (.fr 12), .tm, none⟩, []),
    (⟨.len false (.tm 0), .tm, none⟩, []),
    (⟨.bin .gtr (.tm 0) (.c (.int .i64 0)), .tm, none⟩, []),
    (⟨.mov (.tm 0), .tm, none⟩, []),
    (⟨.mov (.fr 14), .tm, some ((.tm 0), true)⟩, []),
    (⟨.bin .neq (.tm 0) (.c (.int .i64 0)), .tm, some ((.tm 1), true)⟩, []),
    (⟨.mov (.tm 0), .tm, some ((.tm 2), true)⟩, []),
    (⟨.loadn 5 (.fr 18), .tm, some ((.tm 0), false)⟩, []),
    (⟨.callf 26 [(.tm 0)], .tm, some ((.tm 1), false)⟩, []),
    (⟨.loadn 5 (.fr 10), .tm, some ((.tm 2), false)⟩, [8]),
    (⟨.callf 26 [(.tm 0)], .tm, some ((.tm 3), false)⟩, []),
    (⟨.eqs [1, 1, 1, 1, 2] true (.tm 2) (.tm 0), .tm, some ((.tm 4), false)⟩, []),
    (⟨.pick (.tm 5) (.c (.bool true)) (.tm 0), .tm, some ((.tm 8), true)⟩, []),
    (⟨.mov (.tm 0), .tm, some ((.tm 9), true)⟩, []),
    (⟨.mov (.fr 12), .tm, some ((.tm 0), false)⟩, []),
    (⟨.callf 28 [(.tm 0)], .tm, some ((.tm 1), false)⟩, []),
    (⟨.bin .neq (.tm 0) (.c (.int .u8 5)), .tm, some ((.tm 2), false)⟩, []),
    (⟨.pick (.tm 3) (.c (.bool true)) (.tm 0), .tm, some ((.tm 13), true)⟩, []),
    (⟨.pick (.tm 14) (.tm 0) (.c (.bool false)), .fr 24, none⟩, [])]) <|
    .cond (.fr 24)
      (.seq (.reg [
      ⟨.mov (.c (.bool false)), .fr 11, none⟩]) <|
      .ret)
      (.skip)) <|
    .seq (.reg [
    ⟨.mov (.fr 5), .tm, none⟩,
    ⟨.callf 53 [(.tm 0)], .tm, none⟩,
    ⟨.mov (.tm 0), .tm, none⟩,
    ⟨.callf 11 [], .tm, some ((.tm 0), true)⟩,
    ⟨.pick (.tm 1) (.tm 0) (.c (.bool false)), .tm, none⟩,
    ⟨.mov (.tm 0), .fr 11, none⟩]) <|
    .ret, [.t 11]⟩
def f11 : AFunc := ⟨[0, 1, 2, 3],
  .seq (.reg [
    ⟨.mov (.c (.bool false)), .fr 0, none⟩]) <|
    .seq (.reg [
    ⟨.build [(.int .u64 0), (.int .u32 0)] [(0, 1, (.c (.int .u64 4))), (1, 1, (.c (.int .u32 5)))], .tm, none⟩,
    ⟨.build [(.int .u8 0), (.int .i64 0), (.int .i64 0), (.int .u64 0), (.int .u32 0)] [(0, 1, (.c (.int .u8 1))), (1, 1, (.c (.int .i64 2))), (2, 1, (.c (.int .i64 3))), (3, 2, (.tm 0))], .tm, none⟩,
    ⟨.callf 45 [(.tm 0)], .tm, none⟩,
    ⟨.mov (.tm 0), .fr 1, none⟩]) <|
    .seq (.reg [
    ⟨.mov (.fr 1), .tm, none⟩,
    ⟨.callf 16 [(.tm 0)], .tm, none⟩,
    ⟨.mov (.tm 0), .tm, none⟩,
    ⟨.extract (.tm 0) 0, .tm, none⟩,
    ⟨.extract (.tm 1) 1, .tm, none⟩,
    ⟨.new 42 5 [(.int .u8 0), (.int .i64 0), (.int .i64 0), (.int .u64 0), (.int .u32 0)], .fr 2, none⟩,
    ⟨.storen 5 (.fr 2) (.tm 1), .no, none⟩,
    ⟨.mov (.tm 0), .fr 3, none⟩]) <|
    .seq (.reg [
    ⟨.mov (.fr 1), .tm, none⟩,
    ⟨.len false (.tm 0), .tm, none⟩,
    ⟨.bin .eql (.tm 0) (.c (.int .i64 34)), .tm, none⟩,
    ⟨.mov (.tm 0), .tm, none⟩,
    ⟨.mov (.fr 3), .tm, some ((.tm 0), true)⟩,
    ⟨.bin .eql (.tm 0) (.c (.int .i64 0)), .tm, some ((.tm 1), true)⟩,
    ⟨.pick (.tm 2) (.tm 0) (.c (.bool false)), .tm, none⟩,
    ⟨.mov (.tm 0), .tm, none⟩,
    ⟨.faddr 2 (.fr 2), .tm, some ((.tm 0), true)⟩,
    ⟨.load1 (.tm 0), .tm, some ((.tm 1), true)⟩,
    ⟨.bin .eql (.tm 0) (.c (.int .i64 3)), .tm, some ((.tm 2), true)⟩,
    ⟨.pick (.tm 3) (.tm 0) (.c (.bool false)), .tm, none⟩,
    ⟨.mov (.tm 0), .tm, none⟩,
    ⟨.faddr 3 (.fr 2), .tm, some ((.tm 0), true)⟩,
    ⟨.faddr 0 (.tm 0), .tm, some ((.tm 1), true)⟩,
    ⟨.load1 (.tm 0), .tm, some ((.tm 2), true)⟩,
    ⟨.bin .eql (.tm 0) (.c (.int .u64 4)), .tm, some ((.tm 3), true)⟩,
    ⟨.pick (.tm 4) (.tm 0) (.c (.bool false)), .tm, none⟩,
    ⟨.mov (.tm 0), .tm, none⟩,
    ⟨.mov (.fr 1), .tm, some ((.tm 0), true)⟩,
    ⟨.callf 28 [(.tm 0)], .tm, some ((.tm 1), true)⟩,
    ⟨.bin .eql (.tm 0) (.c (.int .u8 2)), .tm, some ((.tm 2), true)⟩,
    ⟨.pick (.tm 3) (.tm 0) (.c (.bool false)), .tm, none⟩,
    ⟨.mov (.tm 0), .fr 0, none⟩]) <|
    .ret, [.t 0]⟩
def f15 : AFunc := ⟨[0, 1, 2],
  .seq (.reg [
    ⟨.box 30 6 (.fr 0), .fr 1, none⟩,
    ⟨.new 34 6 [(.int .u8 0), (.int .i64 0), (.int .u64 0), (.int .u32 0), (.int .u32 0), (.slice none 0 0)], .fr 2, none⟩]) <|
    .seq (.reg [
    ⟨.faddr 0 (.fr 1), .tm, none⟩,
    ⟨.load1 (.tm 0), .tm, none⟩,
    ⟨.faddr 1 (.fr 1), .tm, none⟩,
    ⟨.load1 (.tm 0), .tm, none⟩,
    ⟨.faddr 2 (.fr 1), .tm, none⟩,
    ⟨.loadn 4 (.tm 0), .tm, none⟩,
    ⟨.build [(.int .u8 0), (.int .i64 0), (.int .u64 0), (.int .u32 0), (.int .u32 0), (.slice none 0 0)] [(0, 1, (.tm 4)), (1, 1, (.tm 2)), (2, 4, (.tm 0))], .tm, none⟩,
    ⟨.storen 6 (.fr 2) (.tm 0), .no, none⟩]) <|
    .ret, [.cn 6 2]⟩
def f18 : AFunc := ⟨[0, 1, 2],
  .seq (.reg [
    ⟨.box 42 5 (.fr 0), .fr 1, none⟩,
    ⟨.new 45 5 [(.int .u8 0), (.int .i64 0), (.int .i64 0), (.int .u64 0), (.int .u32 0)], .fr 2, none⟩]) <|
    .seq (.reg [
    ⟨.faddr 0 (.fr 1), .tm, none⟩,
    ⟨.load1 (.tm 0), .tm, none⟩,
    ⟨.faddr 1 (.fr 1), .tm, none⟩,
    ⟨.load1 (.tm 0), .tm, none⟩,
    ⟨.faddr 2 (.fr 1), .tm, none⟩,
    ⟨.load1 (.tm 0), .tm, none⟩,
    ⟨.faddr 3 (.fr 1), .tm, none⟩,
    ⟨.loadn 2 (.tm 0), .tm, none⟩,
    ⟨.build [(.int .u8 0), (.int .i64 0), (.int .i64 0), (.int .u64 0), (.int .u32 0)] [(0, 1, (.tm 6)), (1, 1, (.tm 4)), (2, 1, (.tm 2)), (3, 2, (.tm 0))], .tm, none⟩,
    ⟨.storen 5 (.fr 2) (.tm 0), .no, none⟩]) <|
    .ret, [.cn 5 2]⟩
def f23 : AFunc := ⟨[0, 1, 2],
  .seq (.reg [
    ⟨.box 57 70 (.fr 0), .fr 1, none⟩,
    ⟨.new 60 70 Z70, .fr 2, none⟩]) <|
    .seq (.reg [
    ⟨.faddr 0 (.fr 1), .tm, none⟩,
    ⟨.load1 (.tm 0), .tm, none⟩,
    ⟨.faddr 1 (.fr 1), .tm, none⟩,
    ⟨.load1 (.tm 0), .tm, none⟩,
    ⟨.faddr 2 (.fr 1), .tm, none⟩,
    ⟨.loadn 68 (.tm 0), .tm, none⟩,
    ⟨.build Z70 [(0, 1, (.tm 4)), (1, 1, (.tm 2)), (2, 68, (.tm 0))], .tm, none⟩,
    ⟨.storen 70 (.fr 2) (.tm 0), .no, none⟩]) <|
    .ret, [.cn 70 2]⟩
def f26 : AFunc := ⟨[0, 1, 2],
  .seq (.reg [
    ⟨.box 65 5 (.fr 0), .fr 1, none⟩,
    ⟨.new 69 5 [(.int .u8 0), (.int .u8 0), (.int .i64 0), (.int .i64 0), (.string ByteArray.empty)], .fr 2, none⟩]) <|
    .seq (.reg [
    ⟨.faddr 0 (.fr 1), .tm, none⟩,
    ⟨.load1 (.tm 0), .tm, none⟩,
    ⟨.faddr 1 (.fr 1), .tm, none⟩,
    ⟨.load1 (.tm 0), .tm, none⟩,
    ⟨.faddr 2 (.fr 1), .tm, none⟩,
    ⟨.load1 (.tm 0), .tm, none⟩,
    ⟨.faddr 3 (.fr 1), .tm, none⟩,
    ⟨.load1 (.tm 0), .tm, none⟩,
    ⟨.faddr 4 (.fr 1), .tm, none⟩,
    ⟨.load1 (.tm 0), .tm, none⟩,
    ⟨.b2s (.tm 0), .tm, none⟩,
    ⟨.build [(.int .u8 0), (.int .u8 0), (.int .i64 0), (.int .i64 0), (.string ByteArray.empty)] [(0, 1, (.tm 9)), (1, 1, (.tm 7)), (2, 1, (.tm 5)), (3, 1, (.tm 3)), (4, 1, (.tm 0))], .tm, none⟩,
    ⟨.storen 5 (.fr 2) (.tm 0), .no, none⟩]) <|
    .ret, [.cn 5 2]⟩
def f43 : AFunc := ⟨[0, 1, 2, 3, 4],
  .seq (.reg [
    ⟨.box 30 6 (.fr 0), .fr 2, none⟩,
    ⟨.box 65 5 (.fr 1), .fr 3, none⟩,
    ⟨.mov (.c (.bool false)), .fr 4, none⟩]) <|
    .seq (.reg [
    ⟨.faddr 2 (.fr 2), .tm, none⟩,
    ⟨.faddr 3 (.tm 0), .tm, none⟩,
    ⟨.load1 (.tm 0), .tm, none⟩,
    ⟨.len false (.tm 0), .tm, none⟩,
    ⟨.bin .leq (.tm 0) (.c (.int .i64 1000)), .tm, none⟩,
    ⟨.mov (.tm 0), .tm, none⟩,
    ⟨.faddr 4 (.fr 3), .tm, some ((.tm 0), true)⟩,
    ⟨.load1 (.tm 0), .tm, some ((.tm 1), true)⟩,
    ⟨.len false (.tm 0), .tm, some ((.tm 2), true)⟩,
    ⟨.bin .leq (.tm 0) (.c (.int .i64 5000)), .tm, some ((.tm 3), true)⟩,
    ⟨.pick (.tm 4) (.tm 0) (.c (.bool false)), .tm, none⟩,
    ⟨.mov (.tm 0), .fr 4, none⟩]) <|
    .ret, [.t 4]⟩
theorem f5_ok : compF Go.Proofs.Try.prog 0 [0, 1, 2, 3, 4, 5, 6, 7, 8, 9, 10, 11, 12, 13, 14, 15, 16, 20, 23, 55, 69, 73] 5 = some f5 := by kernel_rfl
theorem f5_n : argsOK Go.Proofs.Try.prog 5 5 = true := by kernel_rfl
theorem f11_ok : compF Go.Proofs.Try.prog 0 [0, 1, 2, 3] 11 = some f11 := by kernel_rfl
theorem f11_n : argsOK Go.Proofs.Try.prog 11 0 = true := by kernel_rfl
theorem f15_ok : compF Go.Proofs.Try.prog 0 [0, 1, 2] 15 = some f15 := by kernel_rfl
theorem f15_n : argsOK Go.Proofs.Try.prog 15 1 = true := by kernel_rfl
theorem f18_ok : compF Go.Proofs.Try.prog 0 [0, 1, 2] 18 = some f18 := by kernel_rfl
theorem f18_n : argsOK Go.Proofs.Try.prog 18 1 = true := by kernel_rfl
theorem f23_ok : compF Go.Proofs.Try.prog 0 [0, 1, 2] 23 = some f23 := by kernel_rfl
theorem f23_n : argsOK Go.Proofs.Try.prog 23 1 = true := by kernel_rfl
theorem f26_ok : compF Go.Proofs.Try.prog 0 [0, 1, 2] 26 = some f26 := by kernel_rfl
theorem f26_n : argsOK Go.Proofs.Try.prog 26 1 = true := by kernel_rfl
theorem f43_ok : compF Go.Proofs.Try.prog 0 [0, 1, 2, 3, 4] 43 = some f43 := by kernel_rfl
theorem f43_n : argsOK Go.Proofs.Try.prog 43 2 = true := by kernel_rfl
end Go.AM.F

set_option linter.unusedSimpArgs false
set_option linter.unusedVariables false
namespace Go.AM.Fd
open Go.Proofs Go.AM.F
theorem GotV.nv {ρ : Nat → Option Nat} {c : List Value} (h : c.all plain1 = true) (e : Int) : NV ρ (GotV c e) (GotV c e) :=
  NV.tuple_of (.cons (NV.agg_of (NL.plain h)) (.cons (.int _ e) .nil))
def er (ok : Bool) : Int := if ok then 0 else 130
theorem e16 {H : AHeap} {v : Value} {b : List UInt8} (hb : BQ H v b) (hl : b.length ≤ 1000000) : ∃ w H', ARun Go.Proofs.Try.prog 0 16 [v] H w H' ∧ w = GotV (cOu ((geOu b).getD Ou0)) (er (geOu b).isSome) ∧ H' = H := by
  obtain ⟨w, H', a, k, e⟩ := t16 hb (by omega)
  have e2 : w = GotV (cOu ((geOu b).getD Ou0)) (er (geOu b).isSome) := by rw [e]; cases geOu b <;> rfl
  subst e2
  exact ⟨_, _, a.gc0 k (.inr (GotV.nv rfl _)), rfl, rfl⟩
theorem e24 {H : AHeap} {v : Value} {b : List UInt8} (hb : BQ H v b) (hl : b.length ≤ 1000000) : ∃ w H', ARun Go.Proofs.Try.prog 0 24 [v] H w H' ∧ ∃ vb, w = GotV (cLi vb ((geLi b).getD Li0)) (er (geLi b).isSome) ∧ Keeps H H' ∧ Fresh H.n vb ∧ AP H' 5 1 vb ((geLi b).getD Li0).B.length (cellsOf ((geLi b).getD Li0).B) := by
  obtain ⟨w, H', a, k, vc, f, e⟩ := t24 hb (by omega)
  refine ⟨w, H', a, ?_⟩
  cases hg : geLi b with
  | none =>
    rw [hg] at e
    exact ⟨.slice none 0 0, e, k, fun b hb => (by cases hb), .inl ⟨rfl, rfl, rfl⟩⟩
  | some x =>
    rw [hg] at e
    exact ⟨vc, e.1, k, f, e.2⟩
theorem Stood.arg {ng : Nat} {H : AHeap} {v : Value} {l : List Value} : Stood ng (v :: l) H v := by
  intro σ w args' _ ha
  cases ha with
  | cons h _ => exact ⟨_, h⟩
theorem fill642 (a : Int) (b : Int) (c d e : Int) (v : Value) : fillA [.int .u8 0, .int .i64 0, .int .u64 0, .int .u32 0, .int .u32 0, .slice none 0 0] [(0, 1, .int .u8 a), (1, 1, .int .i64 b), (2, 4, .agg #[.int .u64 c, .int .u32 d, .int .u32 e, v])] = some [.int .u8 a, .int .i64 b, .int .u64 c, .int .u32 d, .int .u32 e, v] := rfl
theorem t15 (x : I6) {H : AHeap} {vx : Value} (h1 : vx.oneCell' = true) : ∃ w H', ARun Go.Proofs.Try.prog 0 15 [.agg (cI6 vx x).toArray] H w H' ∧ w = .agg (cI6 vx x).toArray ∧ H' = H := by
  suffices h : ∃ w H', ARun Go.Proofs.Try.prog 0 15 [.agg (cI6 vx x).toArray] H w H' ∧ w = .agg (cI6 vx x).toArray ∧ Keeps H H' by
    obtain ⟨_, _, a, rfl, k⟩ := h
    exact ⟨_, _, a.gc0 k (.inl Stood.arg), rfl, rfl⟩
  refine walk2 f15_ok f15_n ?_
  intro Q hq1 hq2
  have hr : ∀ fr H', resO f15.res fr H' = (celln 6 (fr.getD 2 undef) H') := fun fr H' => resC 2 6 fr
  have ox : (cI6 vx x).all Value.oneCell' = true := by simp only [cI6, List.all_cons, List.all_nil, h1]; rfl
  have ce := cI6G vx x
  have d4 : ((cI6 vx x).drop 2).take 4 = [.int .u64 (x.oc : Nat), .int .u32 (x.no : Nat), .int .u32 (x.re : Nat), vx] := rfl
  have hne : (cI6 vx x).length ≠ 4 := by rw [cI6L]; omega
  simp (disch := (first | assumption | omega | (simp only [List.length_cons, List.length_nil] <;> omega) | (simp only [alloc_n, set_n] <;> omega) | (simp (disch := (first | assumption | omega | (simp only [alloc_n, set_n] <;> omega))) only [row_alloc, row_set]; assumption))) only [f15, W_block, ANs, A3s, AOp.map, ↓reduceIte, Nat.reduceAdd, Nat.reduceEqDiff, reduceCtorEq, initFr, Nat.reduceLT, clsA, List.take, List.drop, Nat.reduceLeDiff, Nat.reduceMul, Nat.reduceSub, reduceIte, ANc, A3c, ox, ce, d4, cI6L, fill642, h1]
  refine hq2 _ _ ⟨_, by rw [hr]; simp (disch := (first | assumption | omega | (simp only [List.length_cons, List.length_nil] <;> omega) | (simp only [alloc_n, set_n] <;> omega) | (simp (disch := (first | assumption | omega | (simp only [alloc_n, set_n] <;> omega))) only [row_alloc, row_set]; assumption))) only [W_block, ANs, A3s, AOp.map, ↓reduceIte, Nat.reduceAdd, Nat.reduceEqDiff, reduceCtorEq, initFr, Nat.reduceLT, clsA, List.take, List.drop, Nat.reduceLeDiff, Nat.reduceMul, Nat.reduceSub, reduceIte, ANc, A3c]; (try rfl), rfl, ?_⟩
  ((repeat (first | exact Keeps.refl _ | assumption | refine Keeps.alloc ?_ _ | (refine Keeps.set ?_ (by first | omega | (simp only [alloc_n, set_n] <;> omega)) (by first | omega | (simp only [alloc_n, set_n] <;> omega)) _) | (refine Keeps.trans' (by assumption) ?_))))
theorem fill5o (a b c d e : Int) : fillA [.int .u8 0, .int .i64 0, .int .i64 0, .int .u64 0, .int .u32 0] [(0, 1, .int .u8 a), (1, 1, .int .i64 b), (2, 1, .int .i64 c), (3, 2, .agg #[.int .u64 d, .int .u32 e])] = some [.int .u8 a, .int .i64 b, .int .i64 c, .int .u64 d, .int .u32 e] := rfl
theorem t18 (x : Ou) (H : AHeap) : ∃ w H', ARun Go.Proofs.Try.prog 0 18 [.agg (cOu x).toArray] H w H' ∧ w = .agg (cOu x).toArray ∧ H' = H := by
  suffices h : ∃ w H', ARun Go.Proofs.Try.prog 0 18 [.agg (cOu x).toArray] H w H' ∧ w = .agg (cOu x).toArray ∧ Keeps H H' by
    obtain ⟨_, _, a, rfl, k⟩ := h
    exact ⟨_, _, a.gc0 k (.inl Stood.arg), rfl, rfl⟩
  refine walk2 f18_ok f18_n ?_
  intro Q hq1 hq2
  have hr : ∀ fr H', resO f18.res fr H' = (celln 5 (fr.getD 2 undef) H') := fun fr H' => resC 2 5 fr
  have d4 : ((cOu x).drop 3).take 2 = [.int .u64 (x.pr : Nat), .int .u32 (x.pt : Nat)] := rfl
  have hne : (cOu x).length ≠ 2 := by rw [cOuL]; omega
  simp (disch := (first | assumption | omega | (simp only [List.length_cons, List.length_nil] <;> omega) | (simp only [alloc_n, set_n] <;> omega) | (simp (disch := (first | assumption | omega | (simp only [alloc_n, set_n] <;> omega))) only [row_alloc, row_set]; assumption))) only [f18, W_block, ANs, A3s, AOp.map, ↓reduceIte, Nat.reduceAdd, Nat.reduceEqDiff, reduceCtorEq, initFr, Nat.reduceLT, clsA, List.take, List.drop, Nat.reduceLeDiff, Nat.reduceMul, Nat.reduceSub, reduceIte, ANc, A3c, cOuO, cOuG x, d4, cOuL, fill5o]
  refine hq2 _ _ ⟨_, by rw [hr]; simp (disch := (first | assumption | omega | (simp only [List.length_cons, List.length_nil] <;> omega) | (simp only [alloc_n, set_n] <;> omega) | (simp (disch := (first | assumption | omega | (simp only [alloc_n, set_n] <;> omega))) only [row_alloc, row_set]; assumption))) only [W_block, ANs, A3s, AOp.map, ↓reduceIte, Nat.reduceAdd, Nat.reduceEqDiff, reduceCtorEq, initFr, Nat.reduceLT, clsA, List.take, List.drop, Nat.reduceLeDiff, Nat.reduceMul, Nat.reduceSub, reduceIte, ANc, A3c]; (try rfl), rfl, ?_⟩
  ((repeat (first | exact Keeps.refl _ | assumption | refine Keeps.alloc ?_ _ | (refine Keeps.set ?_ (by first | omega | (simp only [alloc_n, set_n] <;> omega)) (by first | omega | (simp only [alloc_n, set_n] <;> omega)) _) | (refine Keeps.trans' (by assumption) ?_))))
theorem t23 (x : Lo) (hx : x.s.t.length = 64) (H : AHeap) : ∃ w H', ARun Go.Proofs.Try.prog 0 23 [.agg (cLo x).toArray] H w H' ∧ w = .agg (cLo x).toArray ∧ H' = H := by
  suffices h : ∃ w H', ARun Go.Proofs.Try.prog 0 23 [.agg (cLo x).toArray] H w H' ∧ w = .agg (cLo x).toArray ∧ Keeps H H' by
    obtain ⟨_, _, a, rfl, k⟩ := h
    exact ⟨_, _, a.gc0 k (.inl Stood.arg), rfl, rfl⟩
  refine walk2 f23_ok f23_n ?_
  intro Q hq1 hq2
  have hr : ∀ fr H', resO f23.res fr H' = (celln 70 (fr.getD 2 undef) H') := fun fr H' => resC 2 70 fr
  have lx := cLo_len hx
  have ox := cLo_one x
  have oz : Z70.all Value.oneCell' = true := rfl
  have lz : Z70.length = 70 := rfl
  have hne : (cLo x).length ≠ 68 := by omega
  simp (disch := (first | assumption | omega | (simp only [List.length_cons, List.length_nil] <;> omega) | (simp only [alloc_n, set_n] <;> omega) | (simp (disch := (first | assumption | omega | (simp only [alloc_n, set_n] <;> omega))) only [row_alloc, row_set]; assumption))) only [f23, W_block, ANs, A3s, AOp.map, ↓reduceIte, Nat.reduceAdd, Nat.reduceEqDiff, reduceCtorEq, initFr, Nat.reduceLT, clsA, List.take, List.drop, Nat.reduceLeDiff, Nat.reduceMul, Nat.reduceSub, reduceIte, ANc, A3c, ox, (cLoG hx).1, (cLoG hx).2, cLo_s hx, lx, fillLo (e := x.e) (c := x.c) (s := x.s) hx, oz, lz]
  refine hq2 _ _ ⟨_, by rw [hr]; simp (disch := (first | assumption | omega | (simp only [List.length_cons, List.length_nil] <;> omega) | (simp only [alloc_n, set_n] <;> omega) | (simp (disch := (first | assumption | omega | (simp only [alloc_n, set_n] <;> omega))) only [row_alloc, row_set]; assumption))) only [W_block, ANs, A3s, AOp.map, ↓reduceIte, Nat.reduceAdd, Nat.reduceEqDiff, reduceCtorEq, initFr, Nat.reduceLT, clsA, List.take, List.drop, Nat.reduceLeDiff, Nat.reduceMul, Nat.reduceSub, reduceIte, ANc, A3c]; (try rfl), rfl, ?_⟩
  ((repeat (first | exact Keeps.refl _ | assumption | refine Keeps.alloc ?_ _ | (refine Keeps.set ?_ (by first | omega | (simp only [alloc_n, set_n] <;> omega)) (by first | omega | (simp only [alloc_n, set_n] <;> omega)) _) | (refine Keeps.trans' (by assumption) ?_))))
theorem t26 (x : Li) {H : AHeap} {vb : Value} (hB : BS H vb x.B) : ∃ w H', ARun Go.Proofs.Try.prog 0 26 [.agg (cLi vb x).toArray] H w H' ∧ w = .agg (cLs x).toArray ∧ H' = H := by
  suffices h : ∃ w H', ARun Go.Proofs.Try.prog 0 26 [.agg (cLi vb x).toArray] H w H' ∧ w = .agg (cLs x).toArray ∧ Keeps H H' by
    obtain ⟨_, _, a, rfl, k⟩ := h
    exact ⟨_, _, a.gc0 k (.inr (NV.agg_of (NL.plain (cLs_plain x)))), rfl, rfl⟩
  refine walk2 f26_ok f26_n ?_
  intro Q hq1 hq2
  have hr : ∀ fr H', resO f26.res fr H' = (celln 5 (fr.getD 2 undef) H') := fun fr H' => resC 2 5 fr
  have hone := hB.sl.one
  have lx : (cLi vb x).length = 5 := rfl
  have ox : (cLi vb x).all Value.oneCell' = true := by simp only [cLi, List.all_cons, List.all_nil, hone]; rfl
  have k2 := ((Keeps.refl H).alloc (.cells true false 5 (cLi vb x) 65)).alloc (.cells true false 5 [.int .u8 0, .int .u8 0, .int .i64 0, .int .i64 0, .string ByteArray.empty] 69)
  simp (disch := (first | assumption | omega | (simp only [List.length_cons, List.length_nil] <;> omega) | (simp only [alloc_n, set_n] <;> omega) | (simp (disch := (first | assumption | omega | (simp only [alloc_n, set_n] <;> omega))) only [row_alloc, row_set]; assumption))) only [f26, W_block, ANs, A3s, AOp.map, ↓reduceIte, Nat.reduceAdd, Nat.reduceEqDiff, reduceCtorEq, initFr, Nat.reduceLT, clsA, List.take, List.drop, Nat.reduceLeDiff, Nat.reduceMul, Nat.reduceSub, reduceIte, ANc, A3c, ox, cLiG vb x, a_b2sB (hB.keeps k2), fillLs, cLsL, cLsO]
  refine hq2 _ _ ⟨_, by rw [hr]; simp (disch := (first | assumption | omega | (simp only [List.length_cons, List.length_nil] <;> omega) | (simp only [alloc_n, set_n] <;> omega) | (simp (disch := (first | assumption | omega | (simp only [alloc_n, set_n] <;> omega))) only [row_alloc, row_set]; assumption))) only [W_block, ANs, A3s, AOp.map, ↓reduceIte, Nat.reduceAdd, Nat.reduceEqDiff, reduceCtorEq, initFr, Nat.reduceLT, clsA, List.take, List.drop, Nat.reduceLeDiff, Nat.reduceMul, Nat.reduceSub, reduceIte, ANc, A3c, cLsL]; (try rfl), rfl, ?_⟩
  ((repeat (first | exact Keeps.refl _ | assumption | refine Keeps.alloc ?_ _ | (refine Keeps.set ?_ (by first | omega | (simp only [alloc_n, set_n] <;> omega)) (by first | omega | (simp only [alloc_n, set_n] <;> omega)) _) | (refine Keeps.trans' (by assumption) ?_))))
theorem t43 (x : I6) (y : Li) {H : AHeap} {vx vy : Value} (hx : Sl H 2 vx (CC x.cs)) (hy : BS H vy y.B) : ∃ w H', ARun Go.Proofs.Try.prog 0 43 [.agg (cI6 vx x).toArray, .agg (cLi vy y).toArray] H w H' ∧ w = .bool (decide (x.cs.length ≤ 1000 ∧ y.B.length ≤ 5000)) ∧ H' = H := by
  suffices h : ∃ w H', ARun Go.Proofs.Try.prog 0 43 [.agg (cI6 vx x).toArray, .agg (cLi vy y).toArray] H w H' ∧ w = .bool (decide (x.cs.length ≤ 1000 ∧ y.B.length ≤ 5000)) ∧ Keeps H H' by
    obtain ⟨_, _, a, rfl, k⟩ := h
    exact ⟨_, _, a.gc0 k (.inr (.bool _)), rfl, rfl⟩
  refine walk2 f43_ok f43_n ?_
  intro Q hq1 hq2
  have h1 := hx.one
  have h2 := hy.sl.one
  have ox : (cI6 vx x).all Value.oneCell' = true := by simp only [cI6, List.all_cons, List.all_nil, h1]; rfl
  have oy : (cLi vy y).all Value.oneCell' = true := by simp only [cLi, List.all_cons, List.all_nil, h2]; rfl
  have his := hx.is
  have hlen := hx.len
  have his2 := hy.sl.is
  have hlen2 := hy.sl.len
  rw [CC, List.length_map] at hlen
  rw [List.length_map] at hlen2
  have k0 := ((Keeps.refl H).alloc (.cells true false 6 (cI6 vx x) 30)).alloc (.cells true false 5 (cLi vy y) 65)
  by_cases c1 : x.cs.length ≤ 1000
  · by_cases c2 : y.B.length ≤ 5000
    · simp (disch := (first | assumption | omega | (simp only [List.length_cons, List.length_nil] <;> omega) | (simp only [alloc_n, set_n] <;> omega) | (simp (disch := (first | assumption | omega | (simp only [alloc_n, set_n] <;> omega))) only [row_alloc, row_set]; assumption))) only [f43, W_block, ANs, A3s, AOp.map, ↓reduceIte, Nat.reduceAdd, Nat.reduceEqDiff, reduceCtorEq, initFr, Nat.reduceLT, clsA, List.take, List.drop, Nat.reduceLeDiff, Nat.reduceMul, Nat.reduceSub, reduceIte, ANc, A3c, ox, oy, cI6G vx x, cLiG vy y, hlen, hlen2]
      exact hq2 _ _ ⟨_, rfl, by simp [c1, c2]; rfl, k0⟩
    · have e2 : decide ((y.B.length : Int) ≤ 5000) = false := by simp; omega
      simp (disch := (first | assumption | omega | (simp only [List.length_cons, List.length_nil] <;> omega) | (simp only [alloc_n, set_n] <;> omega) | (simp (disch := (first | assumption | omega | (simp only [alloc_n, set_n] <;> omega))) only [row_alloc, row_set]; assumption))) only [f43, W_block, ANs, A3s, AOp.map, ↓reduceIte, Nat.reduceAdd, Nat.reduceEqDiff, reduceCtorEq, initFr, Nat.reduceLT, clsA, List.take, List.drop, Nat.reduceLeDiff, Nat.reduceMul, Nat.reduceSub, reduceIte, ANc, A3c, ox, oy, cI6G vx x, cLiG vy y, hlen, hlen2, e2]
      exact hq2 _ _ ⟨_, rfl, by simp [c1, c2]; rfl, k0⟩
  · have e1 : decide ((x.cs.length : Int) ≤ 1000) = false := by simp; omega
    simp (disch := (first | assumption | omega | (simp only [List.length_cons, List.length_nil] <;> omega) | (simp only [alloc_n, set_n] <;> omega) | (simp (disch := (first | assumption | omega | (simp only [alloc_n, set_n] <;> omega))) only [row_alloc, row_set]; assumption))) only [f43, W_block, ANs, A3s, AOp.map, ↓reduceIte, Nat.reduceAdd, Nat.reduceEqDiff, reduceCtorEq, initFr, Nat.reduceLT, clsA, List.take, List.drop, Nat.reduceLeDiff, Nat.reduceMul, Nat.reduceSub, reduceIte, ANc, A3c, ox, oy, cI6G vx x, cLiG vy y, hlen, hlen2, e1]
    exact hq2 _ _ ⟨_, rfl, by simp [c1]; rfl, k0⟩
end Go.AM.Fd

set_option linter.unusedSimpArgs false
set_option linter.unusedVariables false
namespace Go.AM.Fd
open Go.Proofs Go.AM.F
theorem frm_of_ou {b : List UInt8} {x : Ou} (h : geOu b = some x) : frm 2 b = true := by
  unfold geOu at h; split at h; assumption; cases h
theorem frm_other {k k' : Nat} {b : List UInt8} (h : frm k b = true) (hk : k < 256) (hk' : k' < 256) (hne : k' ≠ k) : frm k' b = false := by
  cases h' : frm k' b with
  | false => rfl
  | true => exact absurd (frm_k h' h hk' hk) hne
theorem ki_ou {b : List UInt8} {x : Ou} (h : geOu b = some x) : kiB b = 2 := by
  have f := frm_of_ou h
  have h1 : geI6 b = none := by unfold geI6; rw [frm_other f (by omega) (k' := 1) (by omega) (by omega)]; rfl
  unfold kiB; rw [h1, h]; rfl
theorem t11 (H : AHeap) : ∃ w H', ARun Go.Proofs.Try.prog 0 11 [] H w H' ∧ w = .bool true ∧ H' = H := by
  suffices h : ∃ w H', ARun Go.Proofs.Try.prog 0 11 [] H w H' ∧ w = .bool true ∧ Keeps H H' by
    obtain ⟨_, _, a, rfl, k⟩ := h
    exact ⟨_, _, a.gc0 k (.inr (.bool _)), rfl, rfl⟩
  refine walk2 f11_ok f11_n ?_
  intro Q hq1 hq2
  obtain ⟨x, hx⟩ : ∃ x, x = (⟨1, 2, 3, 4, 5⟩ : Ou) := ⟨_, rfl⟩
  have hrg : rgOu x := by rw [hx]; exact ⟨by decide, by decide, by decide⟩
  have hok : okOu x = true := by rw [hx]; rfl
  have cx : cOu x = [.int .u8 1, .int .i64 2, .int .i64 3, .int .u64 4, .int .u32 5] := by rw [hx]; rfl
  have f2 : fillA [.int .u64 0, .int .u32 0] [(0, 1, .int .u64 4), (1, 1, .int .u32 5)] = some [.int .u64 4, .int .u32 5] := rfl
  have f5 : fillA [.int .u8 0, .int .i64 0, .int .i64 0, .int .u64 0, .int .u32 0] [(0, 1, .int .u8 1), (1, 1, .int .i64 2), (2, 1, .int .i64 3), (3, 2, .agg #[.int .u64 4, .int .u32 5])] = some (cOu x) := by rw [cx]; rfl
  have hfl : (fOu x).length = 34 := by unfold fOu; rw [if_pos hok, chk_len, List.length_cons, enOu_len]
  have hne : fOu x ≠ [] := by intro e; rw [e] at hfl; simp at hfl
  have hg := geOu_of hrg hne rfl
  have hk := ki_ou hg
  simp (disch := (first | assumption | omega | (simp only [List.length_cons, List.length_nil] <;> omega) | (simp only [alloc_n, set_n] <;> omega) | (simp (disch := (first | assumption | omega | (simp only [alloc_n, set_n] <;> omega))) only [row_alloc, row_set]; assumption))) only [f11, W_block, ANs, A3s, AOp.map, ↓reduceIte, Nat.reduceAdd, Nat.reduceEqDiff, reduceCtorEq, initFr, Nat.reduceLT, clsA, List.take, List.drop, Nat.reduceLeDiff, Nat.reduceMul, Nat.reduceSub, reduceIte, ANc, A3c, f2, f5]
  refine callK (t45 x hrg H) ?_
  rintro v1 K1 ⟨a1, k1, fr1⟩
  have q1 := a1.bq
  have hs := q1.bs.sl
  have his := hs.is
  have hlen := hs.len
  rw [List.length_map, hfl] at hlen
  simp (disch := (first | assumption | omega | (simp only [List.length_cons, List.length_nil] <;> omega) | (simp only [alloc_n, set_n] <;> omega) | (simp (disch := (first | assumption | omega | (simp only [alloc_n, set_n] <;> omega))) only [row_alloc, row_set]; assumption))) only [W_block, ANs, A3s, AOp.map, ↓reduceIte, Nat.reduceAdd, Nat.reduceEqDiff, reduceCtorEq, initFr, Nat.reduceLT, clsA, List.take, List.drop, Nat.reduceLeDiff, Nat.reduceMul, Nat.reduceSub, reduceIte, ANc, A3c]
  refine callK (e16 q1 (by omega)) ?_
  rintro _ _ ⟨rfl, rfl⟩
  rw [hg]
  have hsome : er (some x).isSome = 0 := rfl
  simp (disch := (first | assumption | omega | (simp only [List.length_cons, List.length_nil] <;> omega) | (simp only [alloc_n, set_n] <;> omega) | (simp (disch := (first | assumption | omega | (simp only [alloc_n, set_n] <;> omega))) only [row_alloc, row_set]; assumption))) only [W_block, ANs, A3s, AOp.map, ↓reduceIte, Nat.reduceAdd, Nat.reduceEqDiff, reduceCtorEq, initFr, Nat.reduceLT, clsA, List.take, List.drop, Nat.reduceLeDiff, Nat.reduceMul, Nat.reduceSub, reduceIte, ANc, A3c, GotV, Option.getD_some, hsome, cOuL, cOuO, hlen, cx]
  refine callK (t28 (q1.keeps ((Keeps.refl _).alloc _)) (by omega)) ?_
  rintro _ _ ⟨rfl, rfl⟩
  rw [hk]
  simp (disch := (first | assumption | omega | (simp only [List.length_cons, List.length_nil] <;> omega) | (simp only [alloc_n, set_n] <;> omega) | (simp (disch := (first | assumption | omega | (simp only [alloc_n, set_n] <;> omega))) only [row_alloc, row_set]; assumption))) only [W_block, ANs, A3s, AOp.map, ↓reduceIte, Nat.reduceAdd, Nat.reduceEqDiff, reduceCtorEq, initFr, Nat.reduceLT, clsA, List.take, List.drop, Nat.reduceLeDiff, Nat.reduceMul, Nat.reduceSub, reduceIte, ANc, A3c]
  exact hq2 _ _ ⟨_, rfl, rfl, k1.trans ((Keeps.refl _).alloc _)⟩
end Go.AM.Fd

set_option linter.unusedSimpArgs false
set_option linter.unusedVariables false
namespace Go.AM.Fd
open Go.Proofs Go.AM.F
theorem PutR.bs {H H' : AHeap} {v : Value} {l : List UInt8} (h : PutR H H' v l) : BS H' v l := h.1.bs
theorem PutR.bq {H H' : AHeap} {v : Value} {l : List UInt8} (h : PutR H H' v l) : BQ H' v l := h.1.bq
end Go.AM.Fd

set_option linter.unusedSimpArgs false
set_option linter.unusedVariables false
namespace Go.AM.Fd
open Go.Proofs Go.AM.F
theorem fI6_len {x : I6} : (fI6 x).length ≤ 31 + 2 * x.cs.length := by
  unfold fI6
  split
  · rw [chk_len, List.length_cons, enI6_len]; omega
  · simp
theorem fOu_len {x : Ou} : (fOu x).length ≤ 34 := by
  unfold fOu
  split
  · rw [chk_len, List.length_cons, enOu_len]; omega
  · simp
theorem fSt_len {x : St} (h : x.t.length = 64) : (fSt x).length = 97 := by
  unfold fSt
  rw [chk_len, List.length_cons, enSt_len h]
theorem fLo_len {x : Lo} (h : x.s.t.length = 64) : (fLo x).length ≤ 113 := by
  unfold fLo
  split
  · rw [chk_len, List.length_cons, enLo_len h]; omega
  · simp
theorem fLi_len {x : Li} : (fLi x).length ≤ 25 + x.B.length := by
  unfold fLi
  split
  · rw [chk_len, List.length_cons, enLi_len]; omega
  · simp
section
variable {A0 A1 A2 A3' A4 v : Value} {n : Nat} {Hb K : AHeap} {Q : AQ} {fr : List Value}
--flat{
--}flat
end
end Go.AM.Fd

set_option linter.unusedSimpArgs false
set_option linter.unusedVariables false
namespace Go.AM.Fd
open Go.Proofs Go.AM.F
theorem agg_of {v : Value} (h : ∃ cs, v = .agg cs) : ∃ l : List Value, v = .agg l.toArray := by
  obtain ⟨cs, rfl⟩ := h
  exact ⟨cs.toList, by simp⟩
theorem fitCmds {H : AHeap} {v : Value} (h : AR Go.Proofs.Try.prog H.get 26 [v]) : ∃ cs : List (Nat × Int), Sl H 2 v (CC cs) := by
  obtain ⟨rows, hs, hr⟩ := h.rows (e := 108) (esz := 2) Go.Proofs.Try.underlying26 (by kernel_rfl)
  obtain ⟨m, rfl, _⟩ := list_choose (f := fun x : Nat × Int => [Value.int .u8 (x.1 : Nat), .int .i64 x.2]) (Q := fun _ => True) (l := rows) (fun r hrm => by
    have hf : fitsL Go.Proofs.Try.prog H.get [.int .u8, .int .i64] r := AR.flat (d := 20) (by kernel_rfl) (hr r hrm)
    obtain ⟨a, r0, rfl, h0, g0⟩ := hf.inv
    obtain ⟨b, r1, rfl, h1, g1⟩ := g0.inv
    obtain rfl := g1.end_
    obtain ⟨n, rfl, _⟩ := fits_u8 h0
    obtain ⟨k, rfl, _⟩ := fits_i64 h1
    exact ⟨(n, k), rfl, trivial⟩)
  exact ⟨m, hs⟩
theorem AVin {H : AHeap} {v : Value} (h : AV Go.Proofs.Try.prog H.get 30 v) : ∃ x vc, v = .agg (cI6 vc x).toArray ∧ rgI6 x ∧ Sl H 2 vc (CC x.cs) := by
  obtain ⟨l, rfl⟩ := agg_of (h.2.1 (by kernel_rfl))
  have hf : fitsL Go.Proofs.Try.prog H.get [.int .u8, .int .i64, .int .u64, .int .u32, .int .u32, .sl 26] l := by
    have := AR.flat (d := 20) (ks := [.int .u8, .int .i64, .int .u64, .int .u32, .int .u32, .sl 26]) (by kernel_rfl) h.1
    rwa [cells_agg] at this
  obtain ⟨a, r0, rfl, h0, g0⟩ := hf.inv
  obtain ⟨b, r1, rfl, h1, g1⟩ := g0.inv
  obtain ⟨c, r2, rfl, h2, g2⟩ := g1.inv
  obtain ⟨d, r3, rfl, h3, g3⟩ := g2.inv
  obtain ⟨e, r4, rfl, h4, g4⟩ := g3.inv
  obtain ⟨f, r5, rfl, h5, g5⟩ := g4.inv
  obtain rfl := g5.end_
  obtain ⟨n0, rfl, w0⟩ := fits_u8 h0
  obtain ⟨n1, rfl, _⟩ := fits_i64 h1
  obtain ⟨n2, rfl, w2⟩ := fits_u64 h2
  obtain ⟨n3, rfl, w3⟩ := fits_u32 h3
  obtain ⟨n4, rfl, w4⟩ := fits_u32 h4
  obtain ⟨cs, hs⟩ := fitCmds h5
  exact ⟨⟨n0, n1, n2, n3, n4, cs⟩, f, rfl, ⟨w0, w2, w3, w4⟩, hs⟩
theorem AVout {H : AHeap} {v : Value} (h : AV Go.Proofs.Try.prog H.get 42 v) : ∃ x, v = .agg (cOu x).toArray ∧ rgOu x := by
  obtain ⟨l, rfl⟩ := agg_of (h.2.1 (by kernel_rfl))
  have hf : fitsL Go.Proofs.Try.prog H.get [.int .u8, .int .i64, .int .i64, .int .u64, .int .u32] l := by
    have := AR.flat (d := 20) (ks := [.int .u8, .int .i64, .int .i64, .int .u64, .int .u32]) (by kernel_rfl) h.1
    rwa [cells_agg] at this
  obtain ⟨a, r0, rfl, h0, g0⟩ := hf.inv
  obtain ⟨b, r1, rfl, h1, g1⟩ := g0.inv
  obtain ⟨c, r2, rfl, h2, g2⟩ := g1.inv
  obtain ⟨d, r3, rfl, h3, g3⟩ := g2.inv
  obtain ⟨e, r4, rfl, h4, g4⟩ := g3.inv
  obtain rfl := g4.end_
  obtain ⟨n0, rfl, w0⟩ := fits_u8 h0
  obtain ⟨n1, rfl, _⟩ := fits_i64 h1
  obtain ⟨n2, rfl, _⟩ := fits_i64 h2
  obtain ⟨n3, rfl, w3⟩ := fits_u64 h3
  obtain ⟨n4, rfl, w4⟩ := fits_u32 h4
  exact ⟨⟨n0, n1, n2, n3, n4⟩, rfl, ⟨w0, w3, w4⟩⟩
theorem fitSt {G : Gf} {l : List Value} (hf : fitsL Go.Proofs.Try.prog G (.int .u64 :: .int .u64 :: .int .u64 :: (List.replicate 64 (.int .u8) ++ [.int .u32])) l) : ∃ x, l = cSt x ∧ rgSt x := by
  obtain ⟨a, r0, rfl, h0, g0⟩ := hf.inv
  obtain ⟨b, r1, rfl, h1, g1⟩ := g0.inv
  obtain ⟨c, r2, rfl, h2, g2⟩ := g1.inv
  obtain ⟨n0, rfl, w0⟩ := fits_u64 h0
  obtain ⟨n1, rfl, w1⟩ := fits_u64 h1
  obtain ⟨n2, rfl, w2⟩ := fits_u64 h2
  obtain ⟨h4, h5⟩ := g2.split
  rw [List.length_replicate] at h4 h5
  obtain ⟨t, ht, e4⟩ := h4.u8
  have e : r2 = r2.take 64 ++ r2.drop 64 := (List.take_append_drop 64 r2).symm
  obtain ⟨p, q, e5, h5, h6⟩ := h5.inv
  obtain rfl := h6.end_
  obtain ⟨n3, rfl, w3⟩ := fits_u32 h5
  exact ⟨⟨n0, n1, n2, t, n3⟩, by rw [e, e4, e5]; rfl, ⟨ht, w0, w1, w2, w3⟩⟩
theorem AVst {H : AHeap} {v : Value} (h : AV Go.Proofs.Try.prog H.get 51 v) : ∃ x, v = .agg (cSt x).toArray ∧ rgSt x := by
  obtain ⟨l, rfl⟩ := agg_of (h.2.1 (by kernel_rfl))
  have hf : fitsL Go.Proofs.Try.prog H.get (.int .u64 :: .int .u64 :: .int .u64 :: (List.replicate 64 (.int .u8) ++ [.int .u32])) l := by
    have := AR.flat (d := 20) (ks := (.int .u64 :: .int .u64 :: .int .u64 :: (List.replicate 64 (.int .u8) ++ [.int .u32]))) (by kernel_rfl) h.1
    rwa [cells_agg] at this
  obtain ⟨x, rfl, hx⟩ := fitSt hf
  exact ⟨x, rfl, hx⟩
theorem AVlog {H : AHeap} {v : Value} (h : AV Go.Proofs.Try.prog H.get 57 v) : ∃ x, v = .agg (cLo x).toArray ∧ rgSt x.s := by
  obtain ⟨l, rfl⟩ := agg_of (h.2.1 (by kernel_rfl))
  have hf : fitsL Go.Proofs.Try.prog H.get (.int .i64 :: .int .i64 :: .int .u64 :: .int .u64 :: .int .u64 :: (List.replicate 64 (.int .u8) ++ [.int .u32])) l := by
    have := AR.flat (d := 20) (ks := (.int .i64 :: .int .i64 :: .int .u64 :: .int .u64 :: .int .u64 :: (List.replicate 64 (.int .u8) ++ [.int .u32]))) (by kernel_rfl) h.1
    rwa [cells_agg] at this
  obtain ⟨a, r0, rfl, h0, g0⟩ := hf.inv
  obtain ⟨b, r1, rfl, h1, g1⟩ := g0.inv
  obtain ⟨n0, rfl, _⟩ := fits_i64 h0
  obtain ⟨n1, rfl, _⟩ := fits_i64 h1
  obtain ⟨x, rfl, hx⟩ := fitSt g1
  exact ⟨⟨n0, n1, x⟩, rfl, hx⟩
theorem fitLi {H : AHeap} {l : List Value} (hf : fitsL Go.Proofs.Try.prog H.get [.int .u8, .int .u8, .int .i64, .int .i64, .sl 22] l) : ∃ x vb, l = cLi vb x ∧ rgLi x ∧ BQ H vb x.B := by
  obtain ⟨a, r0, rfl, h0, g0⟩ := hf.inv
  obtain ⟨b, r1, rfl, h1, g1⟩ := g0.inv
  obtain ⟨c, r2, rfl, h2, g2⟩ := g1.inv
  obtain ⟨d, r3, rfl, h3, g3⟩ := g2.inv
  obtain ⟨e, r4, rfl, h4, g4⟩ := g3.inv
  obtain rfl := g4.end_
  obtain ⟨n0, rfl, w0⟩ := fits_u8 h0
  obtain ⟨n1, rfl, w1⟩ := fits_u8 h1
  obtain ⟨n2, rfl, _⟩ := fits_i64 h2
  obtain ⟨n3, rfl, _⟩ := fits_i64 h3
  have h4 : AR Go.Proofs.Try.prog H.get 22 [e] := h4
  obtain ⟨B, hB⟩ := h4.bq Go.Proofs.Try.underlying22 Go.Proofs.Try.underlying5 (by kernel_rfl)
  exact ⟨⟨n0, n1, n2, n3, B⟩, e, rfl, ⟨w0, w1⟩, hB⟩
theorem AVlink {H : AHeap} {v : Value} (h : AV Go.Proofs.Try.prog H.get 65 v) : ∃ x vb, v = .agg (cLi vb x).toArray ∧ rgLi x ∧ BQ H vb x.B := by
  obtain ⟨l, rfl⟩ := agg_of (h.2.1 (by kernel_rfl))
  have hf : fitsL Go.Proofs.Try.prog H.get [.int .u8, .int .u8, .int .i64, .int .i64, .sl 22] l := by
    have := AR.flat (d := 20) (ks := [.int .u8, .int .u8, .int .i64, .int .i64, .sl 22]) (by kernel_rfl) h.1
    rwa [cells_agg] at this
  obtain ⟨x, vb, rfl, h1, h2⟩ := fitLi hf
  exact ⟨x, vb, rfl, h1, h2⟩
end Go.AM.Fd

set_option linter.unusedSimpArgs false
set_option linter.unusedVariables false
namespace Go.AM.Fd
open Go.Proofs Go.AM.F
theorem PutR.lt {H H' : AHeap} {v : Value} {l : List UInt8} (h : PutR H H' v l) {b : Nat} (hb : blk v = some b) : H.n ≤ b ∧ b < H'.n := ⟨h.2.2 b hb, h.1.lt hb⟩
theorem PutR.isS {H H' : AHeap} {v : Value} {l : List UInt8} (h : PutR H H' v l) : isS v = true := by obtain ⟨a, rfl⟩ := h.1.shape; rfl
theorem fillS5 {a b c d e : Value} (ha : isS a = true) (hb : isS b = true) (hc : isS c = true) (hd : isS d = true) (he : isS e = true) : fillA [.slice none 0 0, .slice none 0 0, .slice none 0 0, .slice none 0 0, .slice none 0 0] [(0, 1, a), (1, 1, b), (2, 1, c), (3, 1, d), (4, 1, e)] = some [a, b, c, d, e] := by
  obtain ⟨_, _, _, rfl⟩ := isS_inv ha
  obtain ⟨_, _, _, rfl⟩ := isS_inv hb
  obtain ⟨_, _, _, rfl⟩ := isS_inv hc
  obtain ⟨_, _, _, rfl⟩ := isS_inv hd
  obtain ⟨_, _, _, rfl⟩ := isS_inv he
  rfl
set_option maxHeartbeats 2000000 in
theorem t5 {H : AHeap} {i : I6} {o : Ou} {s : St} {g : Lo} {l : Li} {vc vb : Value} (hi : rgI6 i) (hC : Sl H 2 vc (CC i.cs)) (ho : rgOu o) (hs : rgSt s) (hg : rgSt g.s) (hli : rgLi l) (hB : BS H vb l.B) :
    ∃ w H', ARun Go.Proofs.Try.prog 0 5 [.agg (cI6 vc i).toArray, .agg (cOu o).toArray, .agg (cSt s).toArray, .agg (cLo g).toArray, .agg (cLi vb l).toArray] H w H' ∧ w = .bool true ∧ H' = H := by
  obtain ⟨w, H', a, rfl, k⟩ : ∃ w H', ARun Go.Proofs.Try.prog 0 5 [.agg (cI6 vc i).toArray, .agg (cOu o).toArray, .agg (cSt s).toArray, .agg (cLo g).toArray, .agg (cLi vb l).toArray] H w H' ∧ w = .bool true ∧ Keeps H H' := by
    refine walk2 f5_ok f5_n ?_
    intro Q hq1 hq2
    have hcs := hC.one
    have hbs := hB.sl.one
    have o6 : (cI6 vc i).all Value.oneCell' = true := by simp only [cI6, List.all_cons, List.all_nil, hcs]; rfl
    have om : (cLi vb l).all Value.oneCell' = true := by simp only [cLi, List.all_cons, List.all_nil, hbs]; rfl
    have os := cSt_one s
    have og := cLo_one g
    have lI : (cI6 vc i).length = 6 := rfl
    have lO : (cOu o).length = 5 := rfl
    have lS := cSt_len hs.ht
    have lG := cLo_len hg.ht
    have lL : (cLi vb l).length = 5 := rfl
    obtain ⟨Hb, hHb⟩ : ∃ X, X = ((((H.alloc (.cells true false 6 (cI6 vc i) 30)).alloc (.cells true false 5 (cOu o) 42)).alloc (.cells true false 68 (cSt s) 51)).alloc (.cells true false 70 (cLo g) 57)).alloc (.cells true false 5 (cLi vb l) 65) := ⟨_, rfl⟩
    have kb : Keeps H Hb := by rw [hHb]; exact (((((Keeps.refl H).alloc _).alloc _).alloc _).alloc _).alloc _
    have g0 : Hb.get H.n = some (.cells true false 6 (cI6 vc i) 30) := by rw [hHb]; simp (disch := (first | assumption | omega | (simp only [List.length_cons, List.length_nil] <;> omega) | (simp only [alloc_n, set_n] <;> omega) | (simp (disch := (first | assumption | omega | (simp only [alloc_n, set_n] <;> omega))) only [row_alloc, row_set]; assumption))) only [W_block, ANs, A3s, AOp.map, ↓reduceIte, Nat.reduceAdd, Nat.reduceEqDiff, reduceCtorEq, initFr, Nat.reduceLT, clsA, List.take, List.drop, Nat.reduceLeDiff, Nat.reduceMul, Nat.reduceSub, reduceIte, ANc, A3c]
    have g1 : Hb.get (H.n + 1) = some (.cells true false 5 (cOu o) 42) := by rw [hHb]; simp (disch := (first | assumption | omega | (simp only [List.length_cons, List.length_nil] <;> omega) | (simp only [alloc_n, set_n] <;> omega) | (simp (disch := (first | assumption | omega | (simp only [alloc_n, set_n] <;> omega))) only [row_alloc, row_set]; assumption))) only [W_block, ANs, A3s, AOp.map, ↓reduceIte, Nat.reduceAdd, Nat.reduceEqDiff, reduceCtorEq, initFr, Nat.reduceLT, clsA, List.take, List.drop, Nat.reduceLeDiff, Nat.reduceMul, Nat.reduceSub, reduceIte, ANc, A3c]
    have g2 : Hb.get (H.n + 1 + 1) = some (.cells true false 68 (cSt s) 51) := by rw [hHb]; simp (disch := (first | assumption | omega | (simp only [List.length_cons, List.length_nil] <;> omega) | (simp only [alloc_n, set_n] <;> omega) | (simp (disch := (first | assumption | omega | (simp only [alloc_n, set_n] <;> omega))) only [row_alloc, row_set]; assumption))) only [W_block, ANs, A3s, AOp.map, ↓reduceIte, Nat.reduceAdd, Nat.reduceEqDiff, reduceCtorEq, initFr, Nat.reduceLT, clsA, List.take, List.drop, Nat.reduceLeDiff, Nat.reduceMul, Nat.reduceSub, reduceIte, ANc, A3c]
    have g3 : Hb.get (H.n + 1 + 1 + 1) = some (.cells true false 70 (cLo g) 57) := by rw [hHb]; simp (disch := (first | assumption | omega | (simp only [List.length_cons, List.length_nil] <;> omega) | (simp only [alloc_n, set_n] <;> omega) | (simp (disch := (first | assumption | omega | (simp only [alloc_n, set_n] <;> omega))) only [row_alloc, row_set]; assumption))) only [W_block, ANs, A3s, AOp.map, ↓reduceIte, Nat.reduceAdd, Nat.reduceEqDiff, reduceCtorEq, initFr, Nat.reduceLT, clsA, List.take, List.drop, Nat.reduceLeDiff, Nat.reduceMul, Nat.reduceSub, reduceIte, ANc, A3c]
    have g4 : Hb.get (H.n + 1 + 1 + 1 + 1) = some (.cells true false 5 (cLi vb l) 65) := by rw [hHb]; simp (disch := (first | assumption | omega | (simp only [List.length_cons, List.length_nil] <;> omega) | (simp only [alloc_n, set_n] <;> omega) | (simp (disch := (first | assumption | omega | (simp only [alloc_n, set_n] <;> omega))) only [row_alloc, row_set]; assumption))) only [W_block, ANs, A3s, AOp.map, ↓reduceIte, Nat.reduceAdd, Nat.reduceEqDiff, reduceCtorEq, initFr, Nat.reduceLT, clsA, List.take, List.drop, Nat.reduceLeDiff, Nat.reduceMul, Nat.reduceSub, reduceIte, ANc, A3c]
    simp (disch := (first | assumption | omega | (simp only [List.length_cons, List.length_nil] <;> omega) | (simp only [alloc_n, set_n] <;> omega) | (simp (disch := (first | assumption | omega | (simp only [alloc_n, set_n] <;> omega))) only [row_alloc, row_set]; assumption))) only [f5, W_block, ANs, A3s, AOp.map, ↓reduceIte, Nat.reduceAdd, Nat.reduceEqDiff, reduceCtorEq, initFr, Nat.reduceLT, clsA, List.take, List.drop, Nat.reduceLeDiff, Nat.reduceMul, Nat.reduceSub, reduceIte, ANc, A3c, o6, om, os, og, cOuO]
    rw [← hHb]
    refine callP (t43 i l (hC.keeps kb) (hB.keeps kb)) ?_
    by_cases hf : i.cs.length ≤ 1000 ∧ l.B.length ≤ 5000
    case neg =>
      simp only [hf, decide_false]
      simp (disch := (first | assumption | omega | (simp only [List.length_cons, List.length_nil] <;> omega) | (simp only [alloc_n, set_n] <;> omega) | (simp (disch := (first | assumption | omega | (simp only [alloc_n, set_n] <;> omega))) only [row_alloc, row_set]; assumption))) only [W_block, ANs, A3s, AOp.map, ↓reduceIte, Nat.reduceAdd, Nat.reduceEqDiff, reduceCtorEq, initFr, Nat.reduceLT, clsA, List.take, List.drop, Nat.reduceLeDiff, Nat.reduceMul, Nat.reduceSub, reduceIte, ANc, A3c]
      refine callP (t11 _) ?_
      simp (disch := (first | assumption | omega | (simp only [List.length_cons, List.length_nil] <;> omega) | (simp only [alloc_n, set_n] <;> omega) | (simp (disch := (first | assumption | omega | (simp only [alloc_n, set_n] <;> omega))) only [row_alloc, row_set]; assumption))) only [W_block, ANs, A3s, AOp.map, ↓reduceIte, Nat.reduceAdd, Nat.reduceEqDiff, reduceCtorEq, initFr, Nat.reduceLT, clsA, List.take, List.drop, Nat.reduceLeDiff, Nat.reduceMul, Nat.reduceSub, reduceIte, ANc, A3c]
      exact hq2 _ _ ⟨_, rfl, rfl, kb⟩
    simp only [hf, and_self, decide_true]
    obtain ⟨hf1, hf2⟩ := hf
    simp (disch := (first | assumption | omega | (simp only [List.length_cons, List.length_nil] <;> omega) | (simp only [alloc_n, set_n] <;> omega) | (simp (disch := (first | assumption | omega | (simp only [alloc_n, set_n] <;> omega))) only [row_alloc, row_set]; assumption))) only [W_block, ANs, A3s, AOp.map, ↓reduceIte, Nat.reduceAdd, Nat.reduceEqDiff, reduceCtorEq, initFr, Nat.reduceLT, clsA, List.take, List.drop, Nat.reduceLeDiff, Nat.reduceMul, Nat.reduceSub, reduceIte, ANc, A3c]
    refine W_loop2 (fun q fr K => ∃ (t : Nat) (x12 x13 x14 x15 x16 x18 x19 x20 x21 : Value), t ≤ 2 ∧ q = 2 - t ∧ Keeps Hb K ∧ fr = [.agg (cI6 vc i).toArray, .agg (cOu o).toArray, .agg (cSt s).toArray, .agg (cLo g).toArray, .agg (cLi vb l).toArray, ptr H.n 0, ptr (H.n + 1) 0, ptr (H.n + 1 + 1) 0, ptr (H.n + 1 + 1 + 1) 0, ptr (H.n + 1 + 1 + 1 + 1) 0, .bool false, .int .i64 (t : Nat), x12, x13, x14, x15, x16, .bool false, x18, x19, x20, x21]) 2 ⟨0, _, _, _, _, _, _, _, _, _, by omega, rfl, Keeps.refl _, rfl⟩ ?_
    rintro Q' q fr K ⟨t, x12, x13, x14, x15, x16, x18, x19, x20, x21, ht, rfl, kK, rfl⟩ hnx hex hrt
    by_cases hc : t < 2
    case neg =>
      simp (disch := (first | assumption | omega | (simp only [List.length_cons, List.length_nil] <;> omega) | (simp only [alloc_n, set_n] <;> omega) | (simp (disch := (first | assumption | omega | (simp only [alloc_n, set_n] <;> omega))) only [row_alloc, row_set]; assumption))) only [W_block, ANs, A3s, AOp.map, ↓reduceIte, Nat.reduceAdd, Nat.reduceEqDiff, reduceCtorEq, initFr, Nat.reduceLT, clsA, List.take, List.drop, Nat.reduceLeDiff, Nat.reduceMul, Nat.reduceSub, reduceIte, ANc, A3c]
      refine hex _ _ _ ?_
      simp (disch := (first | assumption | omega | (simp only [List.length_cons, List.length_nil] <;> omega) | (simp only [alloc_n, set_n] <;> omega) | (simp (disch := (first | assumption | omega | (simp only [alloc_n, set_n] <;> omega))) only [row_alloc, row_set]; assumption))) only [W_block, ANs, A3s, AOp.map, ↓reduceIte, Nat.reduceAdd, Nat.reduceEqDiff, reduceCtorEq, initFr, Nat.reduceLT, clsA, List.take, List.drop, Nat.reduceLeDiff, Nat.reduceMul, Nat.reduceSub, reduceIte, ANc, A3c]
      refine callP (t11 _) ?_
      simp (disch := (first | assumption | omega | (simp only [List.length_cons, List.length_nil] <;> omega) | (simp only [alloc_n, set_n] <;> omega) | (simp (disch := (first | assumption | omega | (simp only [alloc_n, set_n] <;> omega))) only [row_alloc, row_set]; assumption))) only [W_block, ANs, A3s, AOp.map, ↓reduceIte, Nat.reduceAdd, Nat.reduceEqDiff, reduceCtorEq, initFr, Nat.reduceLT, clsA, List.take, List.drop, Nat.reduceLeDiff, Nat.reduceMul, Nat.reduceSub, reduceIte, ANc, A3c]
      exact hq2 _ _ ⟨_, rfl, rfl, kb.trans kK⟩
    have p0 := kK.at_ g0
    have p1 := kK.at_ g1
    have p2 := kK.at_ g2
    have p3 := kK.at_ g3
    have p4 := kK.at_ g4
    simp (disch := (first | assumption | omega | (simp only [List.length_cons, List.length_nil] <;> omega) | (simp only [alloc_n, set_n] <;> omega) | (simp (disch := (first | assumption | omega | (simp only [alloc_n, set_n] <;> omega))) only [row_alloc, row_set]; assumption))) only [W_block, ANs, A3s, AOp.map, ↓reduceIte, Nat.reduceAdd, Nat.reduceEqDiff, reduceCtorEq, initFr, Nat.reduceLT, clsA, List.take, List.drop, Nat.reduceLeDiff, Nat.reduceMul, Nat.reduceSub, reduceIte, ANc, A3c, p0]
    refine callK (t44 i hi (hC.keeps (kb.trans kK)) (by omega)) ?_
    rintro w1 K1 r1
    have m1 := r1.2.1
    simp (disch := (first | assumption | omega | (simp only [List.length_cons, List.length_nil] <;> omega) | (simp only [alloc_n, set_n] <;> omega) | (simp (disch := (first | assumption | omega | (simp only [alloc_n, set_n] <;> omega))) only [row_alloc, row_set]; assumption))) only [W_block, ANs, A3s, AOp.map, ↓reduceIte, Nat.reduceAdd, Nat.reduceEqDiff, reduceCtorEq, initFr, Nat.reduceLT, clsA, List.take, List.drop, Nat.reduceLeDiff, Nat.reduceMul, Nat.reduceSub, reduceIte, ANc, A3c, m1.at_ p1, p1, AHeap.get_lt p1]
    refine callK (t45 o ho _) ?_
    rintro w2 K2 r2
    have m2 := m1.trans r2.2.1
    simp (disch := (first | assumption | omega | (simp only [List.length_cons, List.length_nil] <;> omega) | (simp only [alloc_n, set_n] <;> omega) | (simp (disch := (first | assumption | omega | (simp only [alloc_n, set_n] <;> omega))) only [row_alloc, row_set]; assumption))) only [W_block, ANs, A3s, AOp.map, ↓reduceIte, Nat.reduceAdd, Nat.reduceEqDiff, reduceCtorEq, initFr, Nat.reduceLT, clsA, List.take, List.drop, Nat.reduceLeDiff, Nat.reduceMul, Nat.reduceSub, reduceIte, ANc, A3c, m2.at_ p2, m1.at_ p2, p2, AHeap.get_lt p2, AHeap.get_lt (m1.at_ p2)]
    refine callK (t46 s hs _) ?_
    rintro w3 K3 r3
    have m3 := m2.trans r3.2.1
    simp (disch := (first | assumption | omega | (simp only [List.length_cons, List.length_nil] <;> omega) | (simp only [alloc_n, set_n] <;> omega) | (simp (disch := (first | assumption | omega | (simp only [alloc_n, set_n] <;> omega))) only [row_alloc, row_set]; assumption))) only [W_block, ANs, A3s, AOp.map, ↓reduceIte, Nat.reduceAdd, Nat.reduceEqDiff, reduceCtorEq, initFr, Nat.reduceLT, clsA, List.take, List.drop, Nat.reduceLeDiff, Nat.reduceMul, Nat.reduceSub, reduceIte, ANc, A3c, m3.at_ p3, m2.at_ p3, m1.at_ p3, p3, AHeap.get_lt p3, AHeap.get_lt (m1.at_ p3), AHeap.get_lt (m2.at_ p3)]
    refine callK (t47 g hg _) ?_
    rintro w4 K4 r4
    have m4 := m3.trans r4.2.1
    simp (disch := (first | assumption | omega | (simp only [List.length_cons, List.length_nil] <;> omega) | (simp only [alloc_n, set_n] <;> omega) | (simp (disch := (first | assumption | omega | (simp only [alloc_n, set_n] <;> omega))) only [row_alloc, row_set]; assumption))) only [W_block, ANs, A3s, AOp.map, ↓reduceIte, Nat.reduceAdd, Nat.reduceEqDiff, reduceCtorEq, initFr, Nat.reduceLT, clsA, List.take, List.drop, Nat.reduceLeDiff, Nat.reduceMul, Nat.reduceSub, reduceIte, ANc, A3c, m4.at_ p4, m3.at_ p4, m2.at_ p4, m1.at_ p4, p4, AHeap.get_lt p4, AHeap.get_lt (m1.at_ p4), AHeap.get_lt (m2.at_ p4), AHeap.get_lt (m3.at_ p4)]
    refine callK (t36 l hli (hB.keeps ((kb.trans kK).trans m4)) (by omega)) ?_
    rintro w5 K5 r5
    have m5 := m4.trans r5.2.1
    simp (disch := (first | assumption | omega | (simp only [List.length_cons, List.length_nil] <;> omega) | (simp only [alloc_n, set_n] <;> omega) | (simp (disch := (first | assumption | omega | (simp only [alloc_n, set_n] <;> omega))) only [row_alloc, row_set]; assumption))) only [W_block, ANs, A3s, AOp.map, ↓reduceIte, Nat.reduceAdd, Nat.reduceEqDiff, reduceCtorEq, initFr, Nat.reduceLT, clsA, List.take, List.drop, Nat.reduceLeDiff, Nat.reduceMul, Nat.reduceSub, reduceIte, ANc, A3c, fillS5 r1.isS r2.isS r3.isS r4.isS r5.isS, one_isS r1.isS, one_isS r2.isS, one_isS r3.isS, one_isS r4.isS, one_isS r5.isS]
    have m6 := m5.alloc (.cells true false 1 [w1, w2, w3, w4, w5] 22)
    have gA := AHeap.get_alloc_new K5 (.cells true false 1 [w1, w2, w3, w4, w5] 22)
    obtain ⟨K6, hK6⟩ : ∃ X, X = K5.alloc (.cells true false 1 [w1, w2, w3, w4, w5] 22) := ⟨_, rfl⟩
    have m56 : Keeps K5 K6 := by rw [hK6]; exact (Keeps.refl _).alloc _
    rw [← hK6] at m6 gA ⊢
    have lt5 := AHeap.get_lt gA
    simp (disch := (first | assumption | omega | (simp only [List.length_cons, List.length_nil] <;> omega) | (simp only [alloc_n, set_n] <;> omega) | (simp (disch := (first | assumption | omega | (simp only [alloc_n, set_n] <;> omega))) only [row_alloc, row_set]; assumption))) only [W_block, ANs, A3s, AOp.map, ↓reduceIte, Nat.reduceAdd, Nat.reduceEqDiff, reduceCtorEq, initFr, Nat.reduceLT, clsA, List.take, List.drop, Nat.reduceLeDiff, Nat.reduceMul, Nat.reduceSub, reduceIte, ANc, A3c, m6.at_ p0]
    refine callP (t15 i hcs) ?_
    simp (disch := (first | assumption | omega | (simp only [List.length_cons, List.length_nil] <;> omega) | (simp only [alloc_n, set_n] <;> omega) | (simp (disch := (first | assumption | omega | (simp only [alloc_n, set_n] <;> omega))) only [row_alloc, row_set]; assumption))) only [W_block, ANs, A3s, AOp.map, ↓reduceIte, Nat.reduceAdd, Nat.reduceEqDiff, reduceCtorEq, initFr, Nat.reduceLT, clsA, List.take, List.drop, Nat.reduceLeDiff, Nat.reduceMul, Nat.reduceSub, reduceIte, ANc, A3c]
    refine callK (t48 i hi (hC.keeps ((kb.trans kK).trans m6)) (by omega)) ?_
    rintro v1 L1 q1
    have n1 := q1.k
    simp (disch := (first | assumption | omega | (simp only [List.length_cons, List.length_nil] <;> omega) | (simp only [alloc_n, set_n] <;> omega) | (simp (disch := (first | assumption | omega | (simp only [alloc_n, set_n] <;> omega))) only [row_alloc, row_set]; assumption))) only [W_block, ANs, A3s, AOp.map, ↓reduceIte, Nat.reduceAdd, Nat.reduceEqDiff, reduceCtorEq, initFr, Nat.reduceLT, clsA, List.take, List.drop, Nat.reduceLeDiff, Nat.reduceMul, Nat.reduceSub, reduceIte, ANc, A3c, m6.at_ p1, (m6.trans n1).at_ p1, AHeap.get_lt (m6.at_ p1)]
    refine callP (t18 o _) ?_
    simp (disch := (first | assumption | omega | (simp only [List.length_cons, List.length_nil] <;> omega) | (simp only [alloc_n, set_n] <;> omega) | (simp (disch := (first | assumption | omega | (simp only [alloc_n, set_n] <;> omega))) only [row_alloc, row_set]; assumption))) only [W_block, ANs, A3s, AOp.map, ↓reduceIte, Nat.reduceAdd, Nat.reduceEqDiff, reduceCtorEq, initFr, Nat.reduceLT, clsA, List.take, List.drop, Nat.reduceLeDiff, Nat.reduceMul, Nat.reduceSub, reduceIte, ANc, A3c]
    refine callK (t49 o ho _) ?_
    rintro v2 L2 q2
    have n2 := n1.trans q2.k
    simp (disch := (first | assumption | omega | (simp only [List.length_cons, List.length_nil] <;> omega) | (simp only [alloc_n, set_n] <;> omega) | (simp (disch := (first | assumption | omega | (simp only [alloc_n, set_n] <;> omega))) only [row_alloc, row_set]; assumption))) only [W_block, ANs, A3s, AOp.map, ↓reduceIte, Nat.reduceAdd, Nat.reduceEqDiff, reduceCtorEq, initFr, Nat.reduceLT, clsA, List.take, List.drop, Nat.reduceLeDiff, Nat.reduceMul, Nat.reduceSub, reduceIte, ANc, A3c, m6.at_ p2, (m6.trans n1).at_ p2, (m6.trans n2).at_ p2, AHeap.get_lt (m6.at_ p2), AHeap.get_lt ((m6.trans n1).at_ p2)]
    refine callK (t50 s hs _) ?_
    rintro v3 L3 q3
    have n3 := n2.trans q3.k
    simp (disch := (first | assumption | omega | (simp only [List.length_cons, List.length_nil] <;> omega) | (simp only [alloc_n, set_n] <;> omega) | (simp (disch := (first | assumption | omega | (simp only [alloc_n, set_n] <;> omega))) only [row_alloc, row_set]; assumption))) only [W_block, ANs, A3s, AOp.map, ↓reduceIte, Nat.reduceAdd, Nat.reduceEqDiff, reduceCtorEq, initFr, Nat.reduceLT, clsA, List.take, List.drop, Nat.reduceLeDiff, Nat.reduceMul, Nat.reduceSub, reduceIte, ANc, A3c, m6.at_ p3, (m6.trans n1).at_ p3, (m6.trans n2).at_ p3, (m6.trans n3).at_ p3, AHeap.get_lt (m6.at_ p3), AHeap.get_lt ((m6.trans n1).at_ p3), AHeap.get_lt ((m6.trans n2).at_ p3)]
    refine callP (t23 g hg.ht _) ?_
    simp (disch := (first | assumption | omega | (simp only [List.length_cons, List.length_nil] <;> omega) | (simp only [alloc_n, set_n] <;> omega) | (simp (disch := (first | assumption | omega | (simp only [alloc_n, set_n] <;> omega))) only [row_alloc, row_set]; assumption))) only [W_block, ANs, A3s, AOp.map, ↓reduceIte, Nat.reduceAdd, Nat.reduceEqDiff, reduceCtorEq, initFr, Nat.reduceLT, clsA, List.take, List.drop, Nat.reduceLeDiff, Nat.reduceMul, Nat.reduceSub, reduceIte, ANc, A3c]
    refine callK (t51 g hg _) ?_
    rintro v4 L4 q4
    have n4 := n3.trans q4.k
    simp (disch := (first | assumption | omega | (simp only [List.length_cons, List.length_nil] <;> omega) | (simp only [alloc_n, set_n] <;> omega) | (simp (disch := (first | assumption | omega | (simp only [alloc_n, set_n] <;> omega))) only [row_alloc, row_set]; assumption))) only [W_block, ANs, A3s, AOp.map, ↓reduceIte, Nat.reduceAdd, Nat.reduceEqDiff, reduceCtorEq, initFr, Nat.reduceLT, clsA, List.take, List.drop, Nat.reduceLeDiff, Nat.reduceMul, Nat.reduceSub, reduceIte, ANc, A3c, m6.at_ p4, (m6.trans n1).at_ p4, (m6.trans n2).at_ p4, (m6.trans n3).at_ p4, (m6.trans n4).at_ p4, AHeap.get_lt (m6.at_ p4), AHeap.get_lt ((m6.trans n1).at_ p4), AHeap.get_lt ((m6.trans n2).at_ p4), AHeap.get_lt ((m6.trans n3).at_ p4)]
    refine callP (t26 l (hB.keeps ((kb.trans kK).trans (m6.trans n4)))) ?_
    simp (disch := (first | assumption | omega | (simp only [List.length_cons, List.length_nil] <;> omega) | (simp only [alloc_n, set_n] <;> omega) | (simp (disch := (first | assumption | omega | (simp only [alloc_n, set_n] <;> omega))) only [row_alloc, row_set]; assumption))) only [W_block, ANs, A3s, AOp.map, ↓reduceIte, Nat.reduceAdd, Nat.reduceEqDiff, reduceCtorEq, initFr, Nat.reduceLT, clsA, List.take, List.drop, Nat.reduceLeDiff, Nat.reduceMul, Nat.reduceSub, reduceIte, ANc, A3c]
    refine callK (t52 l hli _ (by omega)) ?_
    rintro v5 L5 q5
    have n5 := n4.trans q5.k
    simp (disch := (first | assumption | omega | (simp only [List.length_cons, List.length_nil] <;> omega) | (simp only [alloc_n, set_n] <;> omega) | (simp (disch := (first | assumption | omega | (simp only [alloc_n, set_n] <;> omega))) only [row_alloc, row_set]; assumption))) only [W_block, ANs, A3s, AOp.map, ↓reduceIte, Nat.reduceAdd, Nat.reduceEqDiff, reduceCtorEq, initFr, Nat.reduceLT, clsA, List.take, List.drop, Nat.reduceLeDiff, Nat.reduceMul, Nat.reduceSub, reduceIte, ANc, A3c, fillS5 q1.is q2.is q3.is q4.is q5.is, q1.one, q2.one, q3.one, q4.one, q5.one]
    have n7 := n5.alloc (.cells true false 1 [v1, v2, v3, v4, v5] 22)
    have gB := AHeap.get_alloc_new L5 (.cells true false 1 [v1, v2, v3, v4, v5] 22)
    obtain ⟨K7, hK7⟩ : ∃ X, X = L5.alloc (.cells true false 1 [v1, v2, v3, v4, v5] 22) := ⟨_, rfl⟩
    have n57 : Keeps L5 K7 := by rw [hK7]; exact (Keeps.refl _).alloc _
    rw [← hK7] at n7 gB ⊢
    have gA := n7.at_ gA
    have j5 := m56.trans n7
    have j4 := r5.2.1.trans j5
    have j3 := r4.2.1.trans j4
    have j2 := r3.2.1.trans j3
    have j1 := r2.2.1.trans j2
    have hI : ∀ i', i' < 5 → ∃ w v f, [w1, w2, w3, w4, w5][i']? = some w ∧ [v1, v2, v3, v4, v5][i']? = some v ∧ f.length ≤ 100000 ∧ AP K7 5 1 w f.length (cellsOf f) ∧ BS K7 v f ∧ (∀ b, blk w = some b → [K.n, K1.n, K2.n, K3.n, K4.n, K5.n].getD i' 0 ≤ b ∧ b < [K.n, K1.n, K2.n, K3.n, K4.n, K5.n].getD (i' + 1) 0) ∧ (∀ b, blk v = some b → K5.n ≤ b) := by
      intro i' hi'
      have f1 := fI6_len (x := i)
      have f2 := fOu_len (x := o)
      have f3 := fSt_len hs.ht
      have f4 := fLo_len hg.ht
      have f5 := fLi_len (x := l)
      have e5 := m56.n
      have e1 := n1.n
      have e2 := n2.n
      have e3 := n3.n
      have e4 := n4.n
      match i', hi' with
      | 0, _ => exact ⟨w1, v1, fI6 i, rfl, rfl, by omega, r1.1.keeps j1, (q1.bs.keeps ((q2.k.trans q3.k).trans (q4.k.trans (q5.k.trans n57)))), fun b hb => r1.lt hb, fun b hb => by have := q1.f b hb; omega⟩
      | 1, _ => exact ⟨w2, v2, fOu o, rfl, rfl, by omega, r2.1.keeps j2, (q2.bs.keeps (q3.k.trans (q4.k.trans (q5.k.trans n57)))), fun b hb => r2.lt hb, fun b hb => by have := q2.f b hb; omega⟩
      | 2, _ => exact ⟨w3, v3, fSt s, rfl, rfl, by omega, r3.1.keeps j3, (q3.bs.keeps (q4.k.trans (q5.k.trans n57))), fun b hb => r3.lt hb, fun b hb => by have := q3.f b hb; omega⟩
      | 3, _ => exact ⟨w4, v4, fLo g, rfl, rfl, by omega, r4.1.keeps j4, (q4.bs.keeps (q5.k.trans n57)), fun b hb => r4.lt hb, fun b hb => by have := q4.f b hb; omega⟩
      | 4, _ => exact ⟨w5, v5, fLi l, rfl, rfl, by omega, r5.1.keeps j5, (q5.bs.keeps n57), fun b hb => r5.lt hb, fun b hb => by have := q5.f b hb; omega⟩
    have hlo : ∀ i' j', i' < j' → j' ≤ 5 → [K.n, K1.n, K2.n, K3.n, K4.n, K5.n].getD (i' + 1) 0 ≤ [K.n, K1.n, K2.n, K3.n, K4.n, K5.n].getD j' 0 := by
      have e1 := r1.2.1.n
      have e2 := r2.2.1.n
      have e3 := r3.2.1.n
      have e4 := r4.2.1.n
      have e5 := r5.2.1.n
      intro i' j' h1 h2
      have hj : j' = 1 ∨ j' = 2 ∨ j' = 3 ∨ j' = 4 ∨ j' = 5 := by omega
      have hi1 : i' = 0 ∨ i' = 1 ∨ i' = 2 ∨ i' = 3 ∨ i' = 4 := by omega
      rcases hj with rfl | rfl | rfl | rfl | rfl <;> rcases hi1 with rfl | rfl | rfl | rfl | rfl <;> first | omega | (simp; omega) | simp
    have hl0 : K.n ≤ [K.n, K1.n, K2.n, K3.n, K4.n, K5.n].getD 0 0 := Nat.le_refl _
    have hl1 : ∀ i', i' < 5 → K.n ≤ [K.n, K1.n, K2.n, K3.n, K4.n, K5.n].getD i' 0 := by
      have e1 := r1.2.1.n
      have e2 := r2.2.1.n
      have e3 := r3.2.1.n
      have e4 := r4.2.1.n
      intro i' hi'
      match i', hi' with
      | 0, _ => exact Nat.le_refl _
      | 1, _ => simp; omega
      | 2, _ => simp; omega
      | 3, _ => simp; omega
      | 4, _ => simp; omega
    have hl5 : [K.n, K1.n, K2.n, K3.n, K4.n, K5.n].getD 5 0 = K5.n := rfl
    obtain ⟨lo, hlo0⟩ : ∃ f : Nat → Nat, f = fun i' => [K.n, K1.n, K2.n, K3.n, K4.n, K5.n].getD i' 0 := ⟨_, rfl⟩
    have hI : ∀ i', i' < 5 → ∃ w v f, [w1, w2, w3, w4, w5][i']? = some w ∧ [v1, v2, v3, v4, v5][i']? = some v ∧ f.length ≤ 100000 ∧ AP K7 5 1 w f.length (cellsOf f) ∧ BS K7 v f ∧ (∀ b, blk w = some b → lo i' ≤ b ∧ b < lo (i' + 1)) ∧ (∀ b, blk v = some b → K5.n ≤ b) := by rw [hlo0]; exact hI
    have hlo : ∀ i' j', i' < j' → j' ≤ 5 → lo (i' + 1) ≤ lo j' := by rw [hlo0]; exact hlo
    have hl1 : ∀ i', i' < 5 → K.n ≤ lo i' := by rw [hlo0]; exact hl1
    have hl5 : lo 5 = K5.n := by rw [hlo0]; rfl
    have kK7 : Keeps K K7 := m6.trans n7
    have hL5 : K5.n ≤ L5.n := by have := m56.n; have := n5.n; omega
    obtain ⟨ws, hws⟩ : ∃ X, X = [w1, w2, w3, w4, w5] := ⟨_, rfl⟩
    obtain ⟨vs, hvs⟩ : ∃ X, X = [v1, v2, v3, v4, v5] := ⟨_, rfl⟩
    rw [← hws, ← hvs] at hI
    rw [← hws] at gA
    rw [← hvs] at gB
    have kK0 := kK
    clear r1 r2 r3 r4 r5 q1 q2 q3 q4 q5 m1 m2 m3 m4 m5 m6 n1 n2 n3 n4 n5 j1 j2 j3 j4 j5 n7 hl0 hlo0
    refine W_loop2 (fun q fr X => ∃ (kk : Nat) (x15 x16 x19 x20 x21 : Value), kk ≤ 5 ∧ q = 5 - kk ∧ Keeps K X ∧ X.get K5.n = some (.cells true false 1 ws 22) ∧ X.get L5.n = some (.cells true false 1 vs 22) ∧
      (∀ i', kk ≤ i' → i' < 5 → ∃ w v f, ws[i']? = some w ∧ vs[i']? = some v ∧ f.length ≤ 100000 ∧ AP X 5 1 w f.length (cellsOf f) ∧ BS X v f ∧ (∀ b, blk w = some b → lo i' ≤ b ∧ b < lo (i' + 1)) ∧ (∀ b, blk v = some b → K5.n ≤ b)) ∧
      fr = [.agg (cI6 vc i).toArray, .agg (cOu o).toArray, .agg (cSt s).toArray, .agg (cLo g).toArray, .agg (cLi vb l).toArray, ptr H.n 0, ptr (H.n + 1) 0, ptr (H.n + 1 + 1) 0, ptr (H.n + 1 + 1 + 1) 0, ptr (H.n + 1 + 1 + 1 + 1) 0, .bool false, .int .i64 (t : Nat), slc K5.n 0 5 5, slc L5.n 0 5 5, .int .i64 (kk : Nat), x15, x16, .bool false, .bool true, x19, x20, x21]) 5 ⟨0, _, _, _, _, _, by omega, rfl, kK7, gA, gB, fun i' _ => hI i', rfl⟩ ?_
    rintro Q2 q fr X ⟨kk, y15, y16, y19, y20, y21, hkk, rfl, kX, gA, gB, hI, rfl⟩ hnx2 hex2 hrt2
    by_cases hc2 : kk < 5
    case neg =>
      simp (disch := (first | assumption | omega | (simp only [List.length_cons, List.length_nil] <;> omega) | (simp only [alloc_n, set_n] <;> omega) | (simp (disch := (first | assumption | omega | (simp only [alloc_n, set_n] <;> omega))) only [row_alloc, row_set]; assumption))) only [W_block, ANs, A3s, AOp.map, ↓reduceIte, Nat.reduceAdd, Nat.reduceEqDiff, reduceCtorEq, initFr, Nat.reduceLT, clsA, List.take, List.drop, Nat.reduceLeDiff, Nat.reduceMul, Nat.reduceSub, reduceIte, ANc, A3c]
      refine hex2 _ _ _ ?_
      simp (disch := (first | assumption | omega | (simp only [List.length_cons, List.length_nil] <;> omega) | (simp only [alloc_n, set_n] <;> omega) | (simp (disch := (first | assumption | omega | (simp only [alloc_n, set_n] <;> omega))) only [row_alloc, row_set]; assumption))) only [W_block, ANs, A3s, AOp.map, ↓reduceIte, Nat.reduceAdd, Nat.reduceEqDiff, reduceCtorEq, initFr, Nat.reduceLT, clsA, List.take, List.drop, Nat.reduceLeDiff, Nat.reduceMul, Nat.reduceSub, reduceIte, ANc, A3c, wrap_succ (n := t) (by omega)]
      exact hnx _ _ _ ⟨t + 1, _, _, _, _, _, _, _, _, _, by omega, rfl, kK0.trans kX, rfl⟩ (by omega)
    obtain ⟨w, v, f, hw, hv, hfl, hap, hbsv, hbw, hbv⟩ := hI kk (Nat.le_refl _) hc2
    simp (disch := (first | assumption | omega | (simp only [List.length_cons, List.length_nil] <;> omega) | (simp only [alloc_n, set_n] <;> omega) | (simp (disch := (first | assumption | omega | (simp only [alloc_n, set_n] <;> omega))) only [row_alloc, row_set]; assumption))) only [W_block, ANs, A3s, AOp.map, ↓reduceIte, Nat.reduceAdd, Nat.reduceEqDiff, reduceCtorEq, initFr, Nat.reduceLT, clsA, List.take, List.drop, Nat.reduceLeDiff, Nat.reduceMul, Nat.reduceSub, reduceIte, ANc, A3c, gA, gB, hw, hv, a_b2sB hap.bs, a_b2sB hbsv, bytes_eq]
    have his := hap.bs.sl.is
    have hlen := hap.bs.sl.len
    rw [List.length_map] at hlen
    have hwl : lo (kk + 1) ≤ K5.n := by rw [← hl5]; exact hlo kk 5 hc2 (Nat.le_refl _)
    have hkl := hl1 kk hc2
    have lA := AHeap.get_lt gA
    have lB := AHeap.get_lt gB
    refine W_loop2 (fun q fr Y => ∃ (j : Nat) (l' : List UInt8) (z20 z21 : Value), j ≤ f.length ∧ q = f.length - j ∧ l'.length = f.length ∧ AP Y 5 1 w f.length (cellsOf l') ∧ Chg (blkL w) X Y ∧
      fr = [.agg (cI6 vc i).toArray, .agg (cOu o).toArray, .agg (cSt s).toArray, .agg (cLo g).toArray, .agg (cLi vb l).toArray, ptr H.n 0, ptr (H.n + 1) 0, ptr (H.n + 1 + 1) 0, ptr (H.n + 1 + 1 + 1) 0, ptr (H.n + 1 + 1 + 1 + 1) 0, .bool false, .int .i64 (t : Nat), slc K5.n 0 5 5, slc L5.n 0 5 5, .int .i64 (kk : Nat), w, .int .i64 (j : Nat), .bool false, .bool true, .bool true, z20, z21]) f.length ⟨0, f, _, _, by omega, rfl, rfl, hap, Chg.refl _ _, rfl⟩ ?_
    rintro Q3 q fr Y ⟨j, l', z20, z21, hj, rfl, hl', aY, cY, rfl⟩ hnx3 hex3 hrt3
    by_cases hc3 : j < f.length
    · rcases aY with ⟨_, h0', _⟩ | ⟨bb, room, rfl, h1', gy⟩
      · omega
      have hj' : j < l'.length := by omega
      have py := AHeap.get_lt gy
      simp (disch := (first | assumption | omega | (simp only [List.length_cons, List.length_nil] <;> omega) | (simp only [alloc_n, set_n] <;> omega) | (simp (disch := (first | assumption | omega | (simp only [alloc_n, set_n] <;> omega))) only [row_alloc, row_set]; assumption))) only [W_block, ANs, A3s, AOp.map, ↓reduceIte, Nat.reduceAdd, Nat.reduceEqDiff, reduceCtorEq, initFr, Nat.reduceLT, clsA, List.take, List.drop, Nat.reduceLeDiff, Nat.reduceMul, Nat.reduceSub, reduceIte, ANc, A3c, gy, cells_get hj', inc_byte, cellsOf_length, cells_set, wrap_succ (n := j) (by omega)]
      refine hnx3 _ _ _ ⟨j + 1, l'.set j (UInt8.ofNat (l'[j].toNat + 1)), _, _, by omega, rfl, by rw [List.length_set]; exact hl', .inr ⟨bb, room, rfl, by rw [cellsOf_length, List.length_set]; omega, AHeap.get_set_same gy _⟩, ?_, rfl⟩ (by omega)
      exact cY.trans (Chg.set Y py _) (fun x hx => .inl (by simp at hx; subst hx; exact mem_blkL.2 rfl))
    · simp (disch := (first | assumption | omega | (simp only [List.length_cons, List.length_nil] <;> omega) | (simp only [alloc_n, set_n] <;> omega) | (simp (disch := (first | assumption | omega | (simp only [alloc_n, set_n] <;> omega))) only [row_alloc, row_set]; assumption))) only [W_block, ANs, A3s, AOp.map, ↓reduceIte, Nat.reduceAdd, Nat.reduceEqDiff, reduceCtorEq, initFr, Nat.reduceLT, clsA, List.take, List.drop, Nat.reduceLeDiff, Nat.reduceMul, Nat.reduceSub, reduceIte, ANc, A3c]
      refine hex3 _ _ _ ?_
      simp (disch := (first | assumption | omega | (simp only [List.length_cons, List.length_nil] <;> omega) | (simp only [alloc_n, set_n] <;> omega) | (simp (disch := (first | assumption | omega | (simp only [alloc_n, set_n] <;> omega))) only [row_alloc, row_set]; assumption))) only [W_block, ANs, A3s, AOp.map, ↓reduceIte, Nat.reduceAdd, Nat.reduceEqDiff, reduceCtorEq, initFr, Nat.reduceLT, clsA, List.take, List.drop, Nat.reduceLeDiff, Nat.reduceMul, Nat.reduceSub, reduceIte, ANc, A3c, wrap_succ (n := kk) (by omega)]
      have hns : ∀ x, x ∈ blkL w → lo kk ≤ x ∧ x < lo (kk + 1) := fun x hx => hbw x (mem_blkL.1 hx)
      refine hnx2 _ _ _ ⟨kk + 1, _, _, _, _, _, by omega, rfl, kX.chg_trans cY (fun x hx => by have := hns x hx; omega), ?_, ?_, ?_, rfl⟩ (by omega)
      · exact cY.at_ gA (fun hx => by have := hns _ hx; omega)
      · exact cY.at_ gB (fun hx => by have := hns _ hx; omega)
      · intro i' h1 h2
        obtain ⟨w', v', f', e1, e2, e3, e4, e5, e6, e7⟩ := hI i' (by omega) h2
        have := hlo kk i' (by omega) (by omega)
        exact ⟨w', v', f', e1, e2, e3, e4.chg cY (fun x hx hx2 => by have := hns x hx2; have := e6 x (mem_blkL.1 hx); omega), e5.chg cY (fun x hx hx2 => by have := hns x hx2; have := e7 x (mem_blkL.1 hx); omega), e6, e7⟩
  exact ⟨_, _, a.gc0 k (.inr (.bool _)), rfl, rfl⟩
theorem lawPuts : ∀ H args, NoOwn H → AVs Go.Proofs.Try.prog H.get [30, 42, 51, 57, 65] args → ∃ H', ARun Go.Proofs.Try.prog 0 5 args H (.bool true) H' := by
  intro H args _ h
  match args, h with
  | [v0, v1, v2, v3, v4], ⟨h0, h1, h2, h3, h4, _⟩ =>
    obtain ⟨i, vc, rfl, hi, hC⟩ := AVin h0
    obtain ⟨o, rfl, ho⟩ := AVout h1
    obtain ⟨s, rfl, hs⟩ := AVst h2
    obtain ⟨g, rfl, hg⟩ := AVlog h3
    obtain ⟨l, vb, rfl, hl, hB⟩ := AVlink h4
    obtain ⟨w, H', a, rfl, rfl⟩ := t5 hi hC ho hs hg hl hB.bs
    exact ⟨_, a⟩
end Go.AM.Fd
