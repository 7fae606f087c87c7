/- The functions' abstract code (printed by wip/am/Comp.lean.txt), and that it is what they compile to. -/
import Derived.Test.YtfkboffbaikhoaaAmX
import Derived.Test.YtfkboffbaikhoaaProg
import Derived.KernelRfl
set_option linter.unusedSimpArgs false
set_option linter.unusedVariables false
set_option maxRecDepth 100000
namespace Go.AM.Fd
/-- semaphore/semaphorelaw02.FieldsPuts ; args 1 ; slots [0, 2, 3, 4, 5, 6, 7, 8, 9, 11, 16, 41, 59, 63] -/
def f3 : AFunc := ⟨[0, 2, 3, 4, 5, 6, 7, 8, 9, 11, 16, 41, 59, 63],
  .seq (.reg [
    ⟨.mov (.c (.bool false)), .fr 1, none⟩]) <|
    .seq (.seq (.reg [
    ⟨.mov (.fr 0), .tm, none⟩,
    ⟨.callf 8 [(.tm 0)], .fr 9, none⟩]) <|
    .cond (.fr 9)
      (.seq (.reg [
      ⟨.callf 9 [], .tm, none⟩,
      ⟨.mov (.tm 0), .fr 1, none⟩]) <|
      .ret)
      (.skip)) <|
    .seq (.reg [
    ⟨.new 27 1 [(.slice none 0 0)], .fr 2, none⟩]) <|
    .seq (.reg [
    ⟨.mov (.c (.slice none 0 0)), .fr 3, none⟩]) <|
    .seq (.seq (.reg [
    ⟨.mov (.c (.int .i64 0)), .fr 4, none⟩]) <|
    .block 0 (.loop (.seq (.seq (.reg [
        ⟨.mov (.fr 4), .tm, none⟩,
        ⟨.mov (.fr 0), .tm, none⟩,
        ⟨.len false (.tm 0), .tm, none⟩,
        ⟨.bin .lss (.tm 2) (.tm 0), .fr 10, none⟩]) <|
        .cond (.fr 10)
          (.skip)
          (.exit 0)) <|
        .seq (.block 1 (.seq (.reg [
          ⟨.mov (.fr 0), .tm, none⟩,
          ⟨.mov (.fr 4), .tm, none⟩,
          ⟨.iaddr 3 (.tm 1) (.tm 0), .tm, none⟩,
          ⟨.loadn 3 (.tm 0), .tm, none⟩,
          ⟨.new 30 3 [(.int .u8 0), (.int .u64 0), (.slice none 0 0)], .fr 5, none⟩,
          ⟨.storen 3 (.fr 5) (.tm 0), .no, none⟩]) <|
          .seq (.reg [
          ⟨.faddr 2 (.fr 5), .tm, none⟩,
          ⟨.load1 (.tm 0), .tm, none⟩,
          ⟨.b2s (.tm 0), .tm, none⟩,
          ⟨.s2b 5 (.tm 0), .tm, none⟩,
          ⟨.faddr 2 (.fr 5), .tm, none⟩,
          ⟨.store1 (.tm 0) (.tm 1), .no, none⟩]) <|
          .seq (.reg [
          ⟨.loadn 3 (.fr 5), .tm, none⟩,
          ⟨.callf 10 [(.fr 2), (.tm 0)], .tm, none⟩]) <|
          .seq (.reg [
          ⟨.mov (.fr 3), .tm, none⟩,
          ⟨.mov (.fr 0), .tm, none⟩,
          ⟨.mov (.fr 4), .tm, none⟩,
          ⟨.iaddr 3 (.tm 1) (.tm 0), .tm, none⟩,
          ⟨.loadn 3 (.tm 0), .tm, none⟩,
          ⟨.callf 11 [(.tm 0)], .tm, none⟩,
          ⟨.app 5 1 1 (.tm 5) (.tm 0), .tm, none⟩,
          ⟨.mov (.tm 0), .fr 3, none⟩]) <|
          .seq (.seq (.reg [
          ⟨.mov (.c (.int .i64 0)), .fr 6, none⟩]) <|
          .block 2 (.loop (.seq (.seq (.reg [
              ⟨.mov (.fr 6), .tm, none⟩,
              ⟨.faddr 2 (.fr 5), .tm, none⟩,
              ⟨.load1 (.tm 0), .tm, none⟩,
              ⟨.len false (.tm 0), .tm, none⟩,
              ⟨.bin .lss (.tm 3) (.tm 0), .fr 11, none⟩]) <|
              .cond (.fr 11)
                (.skip)
                (.exit 2)) <|
              .seq (.block 3 (.dreg [
                (⟨.faddr 2 (.fr 5), .tm, none⟩, []),
                (⟨.load1 (.tm 0), .tm, none⟩, []),
                (⟨.mov (.fr 6), .tm, none⟩, []),
                (⟨.faddr 2 (.fr 5), .tm, none⟩, []),
                (⟨.load1 (.tm 0), .tm, none⟩, []),
                (⟨.mov (.fr 6), .tm, none⟩, []),
                (⟨.iaddr 1 (.tm 1) (.tm 0), .tm, none⟩, []),
                (⟨.load1 (.tm 0), .tm, none⟩, []),
                (⟨.bin .add (.tm 0) (.c (.int .u8 1)), .tm, none⟩, []),
                (⟨.iaddr 1 (.tm 7) (.tm 6), .tm, none⟩, []),
                (⟨.store1 (.tm 0) (.tm 1), .no, none⟩, [])])) <|
              .reg [
              ⟨.mov (.fr 6), .tm, none⟩,
              ⟨.bin .add (.tm 0) (.c (.int .i64 1)), .tm, none⟩,
              ⟨.mov (.tm 0), .fr 6, none⟩]))) <|
          .seq (.reg [
          ⟨.callf 12 [(.fr 2)], .tm, none⟩,
          ⟨.mov (.tm 0), .fr 7, none⟩]) <|
          .seq (.seq (.reg [
          ⟨.mov (.fr 7), .tm, none⟩,
          ⟨.b2s (.tm 0), .tm, none⟩,
          ⟨.mov (.fr 3), .tm, none⟩,
          ⟨.b2s (.tm 0), .tm, none⟩,
          ⟨.bin .neq (.tm 2) (.tm 0), .fr 12, none⟩]) <|
          .cond (.fr 12)
            (.seq (.reg [
            ⟨.mov (.c (.bool false)), .fr 1, none⟩]) <|
            .ret)
            (.skip)) <|
          .seq (.reg [
          ⟨.mov (.c (.int .i64 0)), .fr 8, none⟩]) <|
          .block 4 (.loop (.seq (.seq (.reg [
              ⟨.mov (.fr 8), .tm, none⟩,
              ⟨.mov (.fr 7), .tm, none⟩,
              ⟨.len false (.tm 0), .tm, none⟩,
              ⟨.bin .lss (.tm 2) (.tm 0), .fr 13, none⟩]) <|
              .cond (.fr 13)
                (.skip)
                (.exit 4)) <|
              .seq (.block 5 (.reg [
                ⟨.mov (.fr 7), .tm, none⟩,
                ⟨.mov (.fr 8), .tm, none⟩,
                ⟨.mov (.fr 7), .tm, none⟩,
                ⟨.mov (.fr 8), .tm, none⟩,
                ⟨.iaddr 1 (.tm 1) (.tm 0), .tm, none⟩,
                ⟨.load1 (.tm 0), .tm, none⟩,
                ⟨.bin .add (.tm 0) (.c (.int .u8 1)), .tm, none⟩,
                ⟨.iaddr 1 (.tm 6) (.tm 5), .tm, none⟩,
                ⟨.store1 (.tm 0) (.tm 1), .no, none⟩])) <|
              .reg [
              ⟨.mov (.fr 8), .tm, none⟩,
              ⟨.bin .add (.tm 0) (.c (.int .i64 1)), .tm, none⟩,
              ⟨.mov (.tm 0), .fr 8, none⟩])))) <|
        .reg [
        ⟨.mov (.fr 4), .tm, none⟩,
        ⟨.bin .add (.tm 0) (.c (.int .i64 1)), .tm, none⟩,
        ⟨.mov (.tm 0), .fr 4, none⟩]))) <|
    .seq (.dreg [
    (⟨.callf 12 [(.fr 2)], .tm, none⟩, []),
    (⟨.b2s (.tm 0), .tm, none⟩, []),
    (⟨.mov (.fr 3), .tm, none⟩, []),
    (⟨.b2s (.tm 0), .tm, none⟩, [0]),
    (⟨.bin .eql (.tm 2) (.tm 0), .tm, none⟩, []),
    (⟨.mov (.tm 0), .tm, none⟩, []),
    (⟨.callf 9 [], .tm, some ((.tm 0), true)⟩, []),
    (⟨.pick (.tm 1) (.tm 0) (.c (.bool false)), .tm, none⟩, []),
    (⟨.mov (.tm 0), .fr 1, none⟩, [])]) <|
    .ret, [.t 1]⟩
/-- semaphore/semaphorelaw02.FieldsSides ; args 3 ; slots [0, 1, 2, 6, 7, 8, 9, 10, 11, 12, 13, 14] -/
def f4 : AFunc := ⟨[0, 1, 2, 6, 7, 8, 9, 10, 11, 12, 13, 14],
  .seq (.reg [
    ⟨.mov (.c (.bool false)), .fr 3, none⟩]) <|
    .seq (.reg [
    ⟨.mov (.fr 2), .tm, none⟩,
    ⟨.bin .rem (.tm 0) (.c (.int .u8 4)), .tm, none⟩,
    ⟨.mov (.tm 0), .fr 4, none⟩]) <|
    .seq (.reg [
    ⟨.new 27 1 [(.slice none 0 0)], .fr 5, none⟩,
    ⟨.new 27 1 [(.slice none 0 0)], .fr 6, none⟩,
    ⟨.new 27 1 [(.slice none 0 0)], .fr 7, none⟩]) <|
    .seq (.reg [
    ⟨.mov (.fr 4), .tm, none⟩,
    ⟨.mov (.fr 0), .tm, none⟩,
    ⟨.build [(.int .u8 0), (.int .u64 0), (.slice none 0 0)] [(0, 1, (.tm 1)), (1, 1, (.tm 0))], .tm, none⟩,
    ⟨.callf 10 [(.fr 5), (.tm 0)], .tm, none⟩]) <|
    .seq (.reg [
    ⟨.mov (.fr 4), .tm, none⟩,
    ⟨.mov (.fr 1), .tm, none⟩,
    ⟨.build [(.int .u8 0), (.int .u64 0), (.slice none 0 0)] [(0, 1, (.tm 1)), (1, 1, (.tm 0))], .tm, none⟩,
    ⟨.callf 10 [(.fr 6), (.tm 0)], .tm, none⟩]) <|
    .seq (.reg [
    ⟨.mov (.fr 4), .tm, none⟩,
    ⟨.mov (.fr 0), .tm, none⟩,
    ⟨.build [(.int .u8 0), (.int .u64 0), (.slice none 0 0)] [(0, 1, (.tm 1)), (1, 1, (.tm 0))], .tm, none⟩,
    ⟨.callf 10 [(.fr 7), (.tm 0)], .tm, none⟩]) <|
    .seq (.reg [
    ⟨.mov (.fr 4), .tm, none⟩,
    ⟨.mov (.fr 1), .tm, none⟩,
    ⟨.build [(.int .u8 0), (.int .u64 0), (.slice none 0 0)] [(0, 1, (.tm 1)), (1, 1, (.tm 0))], .tm, none⟩,
    ⟨.callf 10 [(.fr 7), (.tm 0)], .tm, none⟩]) <|
    .seq (.dreg [
    (⟨.callf 12 [(.fr 5)], .tm, none⟩, []),
    (⟨.b2s (.tm 0), .tm, none⟩, []),
    (⟨.callf 12 [(.fr 6)], .tm, none⟩, [1]),
    (⟨.b2s (.tm 0), .tm, none⟩, []),
    (⟨.mov (.tm 2), .fr 8, none⟩, []),
    (⟨.mov (.tm 0), .fr 9, none⟩, [])]) <|
    .seq (.reg [
    ⟨.mov (.fr 8), .tm, none⟩,
    ⟨.s2b 5 (.tm 0), .tm, none⟩,
    ⟨.callf 13 [(.tm 0)], .tm, none⟩,
    ⟨.mov (.fr 9), .tm, none⟩,
    ⟨.s2b 5 (.tm 0), .tm, none⟩,
    ⟨.callf 13 [(.tm 0)], .tm, none⟩,
    ⟨.mov (.tm 3), .fr 10, none⟩,
    ⟨.mov (.tm 0), .fr 11, none⟩]) <|
    .seq (.reg [
    ⟨.callf 12 [(.fr 7)], .tm, none⟩,
    ⟨.b2s (.tm 0), .tm, none⟩,
    ⟨.mov (.fr 8), .tm, none⟩,
    ⟨.mov (.fr 9), .tm, none⟩,
    ⟨.bin .add (.tm 1) (.tm 0), .tm, none⟩,
    ⟨.bin .eql (.tm 3) (.tm 0), .tm, none⟩,
    ⟨.mov (.tm 0), .tm, none⟩,
    ⟨.mov (.fr 10), .tm, some ((.tm 0), true)⟩,
    ⟨.mov (.fr 11), .tm, some ((.tm 1), true)⟩,
    ⟨.bin .lss (.tm 1) (.tm 0), .tm, some ((.tm 2), true)⟩,
    ⟨.mov (.fr 8), .tm, some ((.tm 3), true)⟩,
    ⟨.mov (.fr 9), .tm, some ((.tm 4), true)⟩,
    ⟨.bin .lss (.tm 1) (.tm 0), .tm, some ((.tm 5), true)⟩,
    ⟨.eqv 0 false (.tm 3) (.tm 0), .tm, some ((.tm 6), true)⟩,
    ⟨.pick (.tm 7) (.tm 0) (.c (.bool false)), .tm, none⟩,
    ⟨.mov (.tm 0), .tm, none⟩,
    ⟨.mov (.fr 8), .tm, some ((.tm 0), true)⟩,
    ⟨.len true (.tm 0), .tm, some ((.tm 1), true)⟩,
    ⟨.mov (.fr 4), .tm, some ((.tm 2), true)⟩,
    ⟨.callf 14 [(.tm 0)], .tm, some ((.tm 3), true)⟩,
    ⟨.bin .eql (.tm 2) (.tm 0), .tm, some ((.tm 4), true)⟩,
    ⟨.pick (.tm 5) (.tm 0) (.c (.bool false)), .tm, none⟩,
    ⟨.mov (.tm 0), .tm, none⟩,
    ⟨.callf 9 [], .tm, some ((.tm 0), true)⟩,
    ⟨.pick (.tm 1) (.tm 0) (.c (.bool false)), .tm, none⟩,
    ⟨.mov (.tm 0), .fr 3, none⟩]) <|
    .ret, [.t 3]⟩
/-- semaphore/semaphorelaw02.FieldsReads ; args 2 ; slots [0, 1, 4, 5, 6, 7, 8, 9, 10, 11, 12, 13, 14, 15, 23, 36, 51, 82, 85, 114] -/
def f5 : AFunc := ⟨[0, 1, 4, 5, 6, 7, 8, 9, 10, 11, 12, 13, 14, 15, 23, 36, 51, 82, 85, 114],
  .seq (.reg [
    ⟨.mov (.c (.bool false)), .fr 2, none⟩]) <|
    .seq (.seq (.reg [
    ⟨.mov (.fr 0), .tm, none⟩,
    ⟨.len false (.tm 0), .tm, none⟩,
    ⟨.bin .gtr (.tm 0) (.c (.int .i64 3000)), .tm, none⟩,
    ⟨.mov (.tm 0), .tm, none⟩,
    ⟨.mov (.fr 1), .tm, some ((.tm 0), false)⟩,
    ⟨.len false (.tm 0), .tm, some ((.tm 1), false)⟩,
    ⟨.bin .gtr (.tm 0) (.c (.int .i64 100)), .tm, some ((.tm 2), false)⟩,
    ⟨.pick (.tm 3) (.c (.bool true)) (.tm 0), .fr 14, none⟩]) <|
    .cond (.fr 14)
      (.seq (.reg [
      ⟨.callf 9 [], .tm, none⟩,
      ⟨.mov (.tm 0), .fr 2, none⟩]) <|
      .ret)
      (.skip)) <|
    .seq (.reg [
    ⟨.mov (.fr 0), .tm, none⟩,
    ⟨.b2s (.tm 0), .tm, none⟩,
    ⟨.s2b 5 (.tm 0), .tm, none⟩,
    ⟨.mov (.tm 0), .fr 3, none⟩]) <|
    .seq (.reg [
    ⟨.mov (.fr 3), .tm, none⟩,
    ⟨.callf 15 [(.tm 0)], .tm, none⟩,
    ⟨.mov (.tm 0), .fr 4, none⟩]) <|
    .seq (.reg [
    ⟨.mov (.fr 0), .tm, none⟩,
    ⟨.build [(.slice none 0 0), (.bool false)] [(0, 1, (.tm 0))], .tm, none⟩,
    ⟨.box 42 2 (.tm 0), .tm, none⟩,
    ⟨.mov (.tm 0), .fr 5, none⟩]) <|
    .seq (.seq (.reg [
    ⟨.mov (.c (.int .i64 0)), .fr 6, none⟩]) <|
    .block 0 (.loop (.seq (.seq (.reg [
        ⟨.mov (.fr 6), .tm, none⟩,
        ⟨.mov (.fr 1), .tm, none⟩,
        ⟨.len false (.tm 0), .tm, none⟩,
        ⟨.bin .lss (.tm 2) (.tm 0), .fr 15, none⟩]) <|
        .cond (.fr 15)
          (.skip)
          (.exit 0)) <|
        .seq (.block 1 (.seq (.reg [
          ⟨.mov (.fr 1), .tm, none⟩,
          ⟨.mov (.fr 6), .tm, none⟩,
          ⟨.iaddr 3 (.tm 1) (.tm 0), .tm, none⟩,
          ⟨.faddr 1 (.tm 0), .tm, none⟩,
          ⟨.load1 (.tm 0), .tm, none⟩,
          ⟨.i2i .i64 (.tm 0), .tm, none⟩,
          ⟨.mov (.tm 0), .fr 7, none⟩]) <|
          .seq (.seq (.reg [
          ⟨.mov (.fr 1), .tm, none⟩,
          ⟨.mov (.fr 6), .tm, none⟩,
          ⟨.iaddr 3 (.tm 1) (.tm 0), .tm, none⟩,
          ⟨.faddr 0 (.tm 0), .tm, none⟩,
          ⟨.load1 (.tm 0), .tm, none⟩,
          ⟨.bin .rem (.tm 0) (.c (.int .u8 5)), .tm, none⟩,
          ⟨.bin .neq (.tm 0) (.c (.int .u8 4)), .fr 16, none⟩]) <|
          .cond (.fr 16)
            (.reg [
            ⟨.mov (.fr 1), .tm, none⟩,
            ⟨.mov (.fr 6), .tm, none⟩,
            ⟨.iaddr 3 (.tm 1) (.tm 0), .tm, none⟩,
            ⟨.faddr 0 (.tm 0), .tm, none⟩,
            ⟨.load1 (.tm 0), .tm, none⟩,
            ⟨.callf 14 [(.tm 0)], .tm, none⟩,
            ⟨.mov (.tm 0), .fr 7, none⟩])
            (.skip)) <|
          .seq (.reg [
          ⟨.mov (.fr 5), .tm, none⟩,
          ⟨.mov (.fr 7), .tm, none⟩,
          ⟨.callf 16 [(.tm 1), (.tm 0)], .tm, none⟩,
          ⟨.mov (.tm 0), .tm, none⟩,
          ⟨.extract (.tm 0) 0, .tm, none⟩,
          ⟨.extract (.tm 1) 1, .tm, none⟩,
          ⟨.mov (.tm 1), .fr 8, none⟩,
          ⟨.mov (.tm 0), .fr 9, none⟩]) <|
          .seq (.reg [
          ⟨.mov (.fr 4), .tm, none⟩,
          ⟨.mov (.fr 1), .tm, none⟩,
          ⟨.mov (.fr 6), .tm, none⟩,
          ⟨.iaddr 3 (.tm 1) (.tm 0), .tm, none⟩,
          ⟨.loadn 3 (.tm 0), .tm, none⟩,
          ⟨.callf 17 [(.tm 4), (.tm 0)], .tm, none⟩,
          ⟨.mov (.tm 0), .tm, none⟩,
          ⟨.extract (.tm 0) 0, .tm, none⟩,
          ⟨.extract (.tm 1) 1, .tm, none⟩,
          ⟨.mov (.tm 1), .fr 10, none⟩,
          ⟨.mov (.tm 0), .fr 11, none⟩]) <|
          .seq (.reg [
          ⟨.mov (.c (.int .u64 0)), .fr 12, none⟩,
          ⟨.mov (.c (.string ByteArray.empty)), .fr 13, none⟩]) <|
          .seq (.seq (.reg [
          ⟨.mov (.fr 9), .tm, none⟩,
          ⟨.mov (.tm 0), .tm, none⟩,
          ⟨.mov (.fr 1), .tm, some ((.tm 0), true)⟩,
          ⟨.mov (.fr 6), .tm, some ((.tm 1), true)⟩,
          ⟨.iaddr 3 (.tm 1) (.tm 0), .tm, some ((.tm 2), true)⟩,
          ⟨.faddr 0 (.tm 0), .tm, some ((.tm 3), true)⟩,
          ⟨.load1 (.tm 0), .tm, some ((.tm 4), true)⟩,
          ⟨.bin .rem (.tm 0) (.c (.int .u8 5)), .tm, some ((.tm 5), true)⟩,
          ⟨.bin .eql (.tm 0) (.c (.int .u8 4)), .tm, some ((.tm 6), true)⟩,
          ⟨.pick (.tm 7) (.tm 0) (.c (.bool false)), .fr 17, none⟩]) <|
          .cond (.fr 17)
            (.reg [
            ⟨.mov (.fr 8), .tm, none⟩,
            ⟨.b2s (.tm 0), .tm, none⟩,
            ⟨.mov (.tm 0), .fr 13, none⟩])
            (.seq (.reg [
            ⟨.mov (.fr 9), .fr 18, none⟩]) <|
            .cond (.fr 18)
              (.reg [
              ⟨.mov (.fr 8), .tm, none⟩,
              ⟨.callf 13 [(.tm 0)], .tm, none⟩,
              ⟨.mov (.tm 0), .fr 12, none⟩])
              (.skip))) <|
          .seq (.dreg [
          (⟨.mov (.fr 10), .tm, none⟩, []),
          (⟨.mov (.fr 12), .tm, none⟩, []),
          (⟨.bin .neq (.tm 1) (.tm 0), .tm, none⟩, []),
          (⟨.mov (.tm 0), .tm, none⟩, []),
          (⟨.mov (.fr 11), .tm, some ((.tm 0), false)⟩, []),
          (⟨.mov (.fr 13), .tm, some ((.tm 1), false)⟩, []),
          (⟨.bin .neq (.tm 1) (.tm 0), .tm, some ((.tm 2), false)⟩, []),
          (⟨.pick (.tm 3) (.c (.bool true)) (.tm 0), .tm, none⟩, []),
          (⟨.mov (.tm 0), .tm, none⟩, []),
          (⟨.mov (.fr 4), .tm, some ((.tm 0), false)⟩, []),
          (⟨.callf 18 [(.tm 0)], .tm, some ((.tm 1), false)⟩, []),
          (⟨.mov (.fr 5), .tm, some ((.tm 2), false)⟩, []),
          (⟨.nilck (.tm 0), .tm, some ((.tm 3), false)⟩, []),
          (⟨.faddr 1 (.tm 0), .tm, some ((.tm 4), false)⟩, []),
          (⟨.load1 (.tm 0), .tm, some ((.tm 5), false)⟩, [10]),
          (⟨.eqv 0 true (.tm 4) (.tm 0), .tm, some ((.tm 6), false)⟩, []),
          (⟨.pick (.tm 7) (.c (.bool true)) (.tm 0), .tm, none⟩, []),
          (⟨.mov (.tm 0), .tm, none⟩, []),
          (⟨.mov (.fr 4), .tm, some ((.tm 0), false)⟩, []),
          (⟨.callf 19 [(.tm 0)], .tm, some ((.tm 1), false)⟩, []),
          (⟨.mov (.fr 5), .tm, some ((.tm 2), false)⟩, []),
          (⟨.nilck (.tm 0), .tm, some ((.tm 3), false)⟩, []),
          (⟨.faddr 0 (.tm 0), .tm, some ((.tm 4), false)⟩, []),
          (⟨.load1 (.tm 0), .tm, some ((.tm 5), false)⟩, [19]),
          (⟨.len false (.tm 0), .tm, some ((.tm 6), false)⟩, []),
          (⟨.bin .neq (.tm 5) (.tm 0), .tm, some ((.tm 7), false)⟩, []),
          (⟨.pick (.tm 8) (.c (.bool true)) (.tm 0), .fr 19, none⟩, [])]) <|
          .cond (.fr 19)
            (.seq (.reg [
            ⟨.mov (.c (.bool false)), .fr 2, none⟩]) <|
            .ret)
            (.skip))) <|
        .reg [
        ⟨.mov (.fr 6), .tm, none⟩,
        ⟨.bin .add (.tm 0) (.c (.int .i64 1)), .tm, none⟩,
        ⟨.mov (.tm 0), .fr 6, none⟩]))) <|
    .seq (.reg [
    ⟨.mov (.fr 3), .tm, none⟩,
    ⟨.b2s (.tm 0), .tm, none⟩,
    ⟨.mov (.fr 0), .tm, none⟩,
    ⟨.b2s (.tm 0), .tm, none⟩,
    ⟨.bin .eql (.tm 2) (.tm 0), .tm, none⟩,
    ⟨.mov (.tm 0), .tm, none⟩,
    ⟨.callf 9 [], .tm, some ((.tm 0), true)⟩,
    ⟨.pick (.tm 1) (.tm 0) (.c (.bool false)), .tm, none⟩,
    ⟨.mov (.tm 0), .fr 2, none⟩]) <|
    .ret, [.t 2]⟩
/-- semaphore/semaphorelaw02.FieldsBack ; args 2 ; slots [0, 1, 4, 5, 6, 7, 8, 9, 10, 11, 18, 23, 38, 48, 63, 68, 73] -/
def f6 : AFunc := ⟨[0, 1, 4, 5, 6, 7, 8, 9, 10, 11, 18, 23, 38, 48, 63, 68, 73],
  .seq (.reg [
    ⟨.mov (.c (.bool false)), .fr 2, none⟩]) <|
    .seq (.seq (.reg [
    ⟨.mov (.fr 0), .tm, none⟩,
    ⟨.callf 8 [(.tm 0)], .tm, none⟩,
    ⟨.mov (.tm 0), .tm, none⟩,
    ⟨.mov (.fr 1), .tm, some ((.tm 0), false)⟩,
    ⟨.len false (.tm 0), .tm, some ((.tm 1), false)⟩,
    ⟨.bin .gtr (.tm 0) (.c (.int .i64 3000)), .tm, some ((.tm 2), false)⟩,
    ⟨.pick (.tm 3) (.c (.bool true)) (.tm 0), .fr 10, none⟩]) <|
    .cond (.fr 10)
      (.seq (.reg [
      ⟨.callf 9 [], .tm, none⟩,
      ⟨.mov (.tm 0), .fr 2, none⟩]) <|
      .ret)
      (.skip)) <|
    .seq (.reg [
    ⟨.new 27 1 [(.slice none 0 0)], .fr 3, none⟩]) <|
    .seq (.seq (.reg [
    ⟨.mov (.c (.int .i64 0)), .fr 4, none⟩]) <|
    .block 0 (.loop (.seq (.seq (.reg [
        ⟨.mov (.fr 4), .tm, none⟩,
        ⟨.mov (.fr 0), .tm, none⟩,
        ⟨.len false (.tm 0), .tm, none⟩,
        ⟨.bin .lss (.tm 2) (.tm 0), .fr 11, none⟩]) <|
        .cond (.fr 11)
          (.skip)
          (.exit 0)) <|
        .seq (.block 1 (.reg [
          ⟨.mov (.fr 0), .tm, none⟩,
          ⟨.mov (.fr 4), .tm, none⟩,
          ⟨.iaddr 3 (.tm 1) (.tm 0), .tm, none⟩,
          ⟨.loadn 3 (.tm 0), .tm, none⟩,
          ⟨.callf 10 [(.fr 3), (.tm 0)], .tm, none⟩])) <|
        .reg [
        ⟨.mov (.fr 4), .tm, none⟩,
        ⟨.bin .add (.tm 0) (.c (.int .i64 1)), .tm, none⟩,
        ⟨.mov (.tm 0), .fr 4, none⟩]))) <|
    .seq (.reg [
    ⟨.mov (.fr 1), .tm, none⟩,
    ⟨.callf 20 [(.fr 3), (.tm 0)], .tm, none⟩]) <|
    .seq (.reg [
    ⟨.callf 12 [(.fr 3)], .tm, none⟩,
    ⟨.callf 15 [(.tm 0)], .tm, none⟩,
    ⟨.mov (.tm 0), .fr 5, none⟩]) <|
    .seq (.seq (.reg [
    ⟨.mov (.c (.int .i64 0)), .fr 6, none⟩]) <|
    .block 2 (.loop (.seq (.seq (.reg [
        ⟨.mov (.fr 6), .tm, none⟩,
        ⟨.mov (.fr 0), .tm, none⟩,
        ⟨.len false (.tm 0), .tm, none⟩,
        ⟨.bin .lss (.tm 2) (.tm 0), .fr 12, none⟩]) <|
        .cond (.fr 12)
          (.skip)
          (.exit 2)) <|
        .seq (.block 3 (.seq (.reg [
          ⟨.mov (.fr 0), .tm, none⟩,
          ⟨.mov (.fr 6), .tm, none⟩,
          ⟨.iaddr 3 (.tm 1) (.tm 0), .tm, none⟩,
          ⟨.loadn 3 (.tm 0), .tm, none⟩,
          ⟨.new 30 3 [(.int .u8 0), (.int .u64 0), (.slice none 0 0)], .fr 7, none⟩,
          ⟨.storen 3 (.fr 7) (.tm 0), .no, none⟩]) <|
          .seq (.seq (.reg [
          ⟨.faddr 0 (.fr 7), .tm, none⟩,
          ⟨.load1 (.tm 0), .tm, none⟩,
          ⟨.bin .rem (.tm 0) (.c (.int .u8 5)), .tm, none⟩,
          ⟨.bin .eql (.tm 0) (.c (.int .u8 4)), .fr 13, none⟩]) <|
          .cond (.fr 13)
            (.reg [
            ⟨.faddr 2 (.fr 7), .tm, none⟩,
            ⟨.load1 (.tm 0), .tm, none⟩,
            ⟨.len false (.tm 0), .tm, none⟩,
            ⟨.i2i .u64 (.tm 0), .tm, none⟩,
            ⟨.faddr 1 (.fr 7), .tm, none⟩,
            ⟨.store1 (.tm 0) (.tm 1), .no, none⟩])
            (.skip)) <|
          .seq (.reg [
          ⟨.mov (.fr 5), .tm, none⟩,
          ⟨.loadn 3 (.fr 7), .tm, none⟩,
          ⟨.callf 17 [(.tm 1), (.tm 0)], .tm, none⟩,
          ⟨.mov (.tm 0), .tm, none⟩,
          ⟨.extract (.tm 0) 0, .tm, none⟩,
          ⟨.extract (.tm 1) 1, .tm, none⟩,
          ⟨.mov (.tm 1), .fr 8, none⟩,
          ⟨.mov (.tm 0), .fr 9, none⟩]) <|
          .seq (.reg [
          ⟨.faddr 0 (.fr 7), .tm, none⟩,
          ⟨.load1 (.tm 0), .tm, none⟩,
          ⟨.bin .rem (.tm 0) (.c (.int .u8 5)), .tm, none⟩,
          ⟨.bin .eql (.tm 0) (.c (.int .u8 4)), .fr 14, none⟩]) <|
          .cond (.fr 14)
            (.seq (.reg [
            ⟨.mov (.fr 9), .tm, none⟩,
            ⟨.faddr 2 (.fr 7), .tm, none⟩,
            ⟨.load1 (.tm 0), .tm, none⟩,
            ⟨.b2s (.tm 0), .tm, none⟩,
            ⟨.bin .neq (.tm 3) (.tm 0), .fr 15, none⟩]) <|
            .cond (.fr 15)
              (.seq (.reg [
              ⟨.mov (.c (.bool false)), .fr 2, none⟩]) <|
              .ret)
              (.skip))
            (.seq (.reg [
            ⟨.mov (.fr 8), .tm, none⟩,
            ⟨.loadn 3 (.fr 7), .tm, none⟩,
            ⟨.callf 11 [(.tm 0)], .tm, none⟩,
            ⟨.callf 13 [(.tm 0)], .tm, none⟩,
            ⟨.bin .neq (.tm 3) (.tm 0), .fr 16, none⟩]) <|
            .cond (.fr 16)
              (.seq (.reg [
              ⟨.mov (.c (.bool false)), .fr 2, none⟩]) <|
              .ret)
              (.skip)))) <|
        .reg [
        ⟨.mov (.fr 6), .tm, none⟩,
        ⟨.bin .add (.tm 0) (.c (.int .i64 1)), .tm, none⟩,
        ⟨.mov (.tm 0), .fr 6, none⟩]))) <|
    .seq (.dreg [
    (⟨.mov (.fr 5), .tm, none⟩, []),
    (⟨.callf 19 [(.tm 0)], .tm, none⟩, []),
    (⟨.mov (.fr 1), .tm, none⟩, []),
    (⟨.len false (.tm 0), .tm, none⟩, []),
    (⟨.bin .eql (.tm 2) (.tm 0), .tm, none⟩, []),
    (⟨.mov (.tm 0), .tm, none⟩, []),
    (⟨.mov (.fr 5), .tm, some ((.tm 0), true)⟩, []),
    (⟨.mov (.fr 1), .tm, some ((.tm 1), true)⟩, []),
    (⟨.len false (.tm 0), .tm, some ((.tm 2), true)⟩, []),
    (⟨.callf 21 [(.tm 2), (.tm 0)], .tm, some ((.tm 3), true)⟩, []),
    (⟨.b2s (.tm 0), .tm, some ((.tm 4), true)⟩, []),
    (⟨.mov (.fr 1), .tm, some ((.tm 5), true)⟩, []),
    (⟨.b2s (.tm 0), .tm, some ((.tm 6), true)⟩, [9]),
    (⟨.bin .eql (.tm 2) (.tm 0), .tm, some ((.tm 7), true)⟩, []),
    (⟨.pick (.tm 8) (.tm 0) (.c (.bool false)), .tm, none⟩, []),
    (⟨.mov (.tm 0), .tm, none⟩, []),
    (⟨.mov (.fr 5), .tm, some ((.tm 0), true)⟩, []),
    (⟨.callf 18 [(.tm 0)], .tm, some ((.tm 1), true)⟩, []),
    (⟨.un .not (.tm 0), .tm, some ((.tm 2), true)⟩, []),
    (⟨.pick (.tm 3) (.tm 0) (.c (.bool false)), .tm, none⟩, []),
    (⟨.mov (.tm 0), .tm, none⟩, []),
    (⟨.callf 9 [], .tm, some ((.tm 0), true)⟩, []),
    (⟨.pick (.tm 1) (.tm 0) (.c (.bool false)), .tm, none⟩, []),
    (⟨.mov (.tm 0), .fr 2, none⟩, [])]) <|
    .ret, [.t 2]⟩
/-- semaphore/semaphorelaw02.FieldsKnown ; args 0 ; slots [0, 1, 2, 3, 4, 5, 6, 58, 65, 98] -/
def f7 : AFunc := ⟨[0, 1, 2, 3, 4, 5, 6, 58, 65, 98],
  .seq (.reg [
    ⟨.mov (.c (.bool false)), .fr 0, none⟩]) <|
    .seq (.reg [
    ⟨.mov (.c (.pointer none)), .fr 1, none⟩]) <|
    .seq (.reg [
    ⟨.mov (.fr 1), .tm, none⟩,
    ⟨.callf 22 [(.tm 0), (.c (.int .u8 1))], .tm, none⟩]) <|
    .seq (.reg [
    ⟨.mov (.fr 1), .tm, none⟩,
    ⟨.callf 23 [(.tm 0), (.c (.int .u16 1))], .tm, none⟩]) <|
    .seq (.reg [
    ⟨.mov (.fr 1), .tm, none⟩,
    ⟨.callf 24 [(.tm 0), (.c (.int .u32 1))], .tm, none⟩]) <|
    .seq (.reg [
    ⟨.mov (.fr 1), .tm, none⟩,
    ⟨.callf 25 [(.tm 0), (.c (.int .u64 1))], .tm, none⟩]) <|
    .seq (.reg [
    ⟨.mov (.fr 1), .tm, none⟩,
    ⟨.bslice 5 1 1 [(.int .u8 0)] [(0, 1, (.c (.int .u8 1)))], .tm, none⟩,
    ⟨.callf 20 [(.tm 1), (.tm 0)], .tm, none⟩]) <|
    .seq (.reg [
    ⟨.mov (.c (.pointer none)), .fr 2, none⟩]) <|
    .seq (.reg [
    ⟨.mov (.fr 1), .tm, none⟩,
    ⟨.callf 12 [(.tm 0)], .tm, none⟩,
    ⟨.len false (.tm 0), .tm, none⟩,
    ⟨.bin .eql (.tm 0) (.c (.int .i64 0)), .tm, none⟩,
    ⟨.mov (.tm 0), .tm, none⟩,
    ⟨.mov (.fr 2), .tm, some ((.tm 0), true)⟩,
    ⟨.callf 18 [(.tm 0)], .tm, some ((.tm 1), true)⟩,
    ⟨.pick (.tm 2) (.tm 0) (.c (.bool false)), .tm, none⟩,
    ⟨.mov (.tm 0), .tm, none⟩,
    ⟨.mov (.fr 2), .tm, some ((.tm 0), true)⟩,
    ⟨.callf 26 [(.tm 0)], .tm, some ((.tm 1), true)⟩,
    ⟨.bin .eql (.tm 0) (.c (.int .u8 0)), .tm, some ((.tm 2), true)⟩,
    ⟨.pick (.tm 3) (.tm 0) (.c (.bool false)), .tm, none⟩,
    ⟨.mov (.tm 0), .tm, none⟩,
    ⟨.mov (.fr 2), .tm, some ((.tm 0), true)⟩,
    ⟨.callf 27 [(.tm 0)], .tm, some ((.tm 1), true)⟩,
    ⟨.bin .eql (.tm 0) (.c (.int .u16 0)), .tm, some ((.tm 2), true)⟩,
    ⟨.pick (.tm 3) (.tm 0) (.c (.bool false)), .tm, none⟩,
    ⟨.mov (.tm 0), .tm, none⟩,
    ⟨.mov (.fr 2), .tm, some ((.tm 0), true)⟩,
    ⟨.callf 28 [(.tm 0)], .tm, some ((.tm 1), true)⟩,
    ⟨.bin .eql (.tm 0) (.c (.int .u32 0)), .tm, some ((.tm 2), true)⟩,
    ⟨.pick (.tm 3) (.tm 0) (.c (.bool false)), .tm, none⟩,
    ⟨.mov (.tm 0), .tm, none⟩,
    ⟨.mov (.fr 2), .tm, some ((.tm 0), true)⟩,
    ⟨.callf 29 [(.tm 0)], .tm, some ((.tm 1), true)⟩,
    ⟨.bin .eql (.tm 0) (.c (.int .u64 0)), .tm, some ((.tm 2), true)⟩,
    ⟨.pick (.tm 3) (.tm 0) (.c (.bool false)), .tm, none⟩,
    ⟨.mov (.tm 0), .tm, none⟩,
    ⟨.mov (.fr 2), .tm, some ((.tm 0), true)⟩,
    ⟨.callf 21 [(.tm 0), (.c (.int .i64 0))], .tm, some ((.tm 1), true)⟩,
    ⟨.len false (.tm 0), .tm, some ((.tm 2), true)⟩,
    ⟨.bin .eql (.tm 0) (.c (.int .i64 0)), .tm, some ((.tm 3), true)⟩,
    ⟨.pick (.tm 4) (.tm 0) (.c (.bool false)), .tm, none⟩,
    ⟨.mov (.tm 0), .tm, none⟩,
    ⟨.mov (.fr 2), .tm, some ((.tm 0), true)⟩,
    ⟨.callf 19 [(.tm 0)], .tm, some ((.tm 1), true)⟩,
    ⟨.bin .eql (.tm 0) (.c (.int .i64 0)), .tm, some ((.tm 2), true)⟩,
    ⟨.pick (.tm 3) (.tm 0) (.c (.bool false)), .tm, none⟩,
    ⟨.mov (.tm 0), .fr 3, none⟩]) <|
    .seq (.seq (.reg [
    ⟨.mov (.c (.int .i64 0)), .fr 4, none⟩]) <|
    .block 0 (.loop (.seq (.seq (.reg [
        ⟨.mov (.fr 4), .tm, none⟩,
        ⟨.bin .lss (.tm 0) (.c (.int .i64 10)), .fr 7, none⟩]) <|
        .cond (.fr 7)
          (.skip)
          (.exit 0)) <|
        .seq (.block 1 (.seq (.reg [
          ⟨.bslice 5 1 9 [(.int .u8 0), (.int .u8 0), (.int .u8 0), (.int .u8 0), (.int .u8 0), (.int .u8 0), (.int .u8 0), (.int .u8 0), (.int .u8 0)] [(0, 1, (.c (.int .u8 1))), (1, 1, (.c (.int .u8 2))), (2, 1, (.c (.int .u8 3))), (3, 1, (.c (.int .u8 4))), (4, 1, (.c (.int .u8 5))), (5, 1, (.c (.int .u8 6))), (6, 1, (.c (.int .u8 7))), (7, 1, (.c (.int .u8 8))), (8, 1, (.c (.int .u8 9)))], .tm, none⟩,
          ⟨.mov (.fr 4), .tm, none⟩,
          ⟨.slsl 1 (.tm 1) none (some (.tm 0)) none, .tm, none⟩,
          ⟨.mov (.tm 0), .fr 5, none⟩]) <|
          .seq (.reg [
          ⟨.mov (.c (.int .u8 0)), .fr 6, none⟩]) <|
          .block 2 (.loop (.seq (.seq (.reg [
              ⟨.mov (.fr 6), .tm, none⟩,
              ⟨.bin .lss (.tm 0) (.c (.int .u8 5)), .fr 8, none⟩]) <|
              .cond (.fr 8)
                (.skip)
                (.exit 2)) <|
              .seq (.block 3 (.seq (.reg [
                ⟨.mov (.fr 5), .tm, none⟩,
                ⟨.mov (.fr 6), .tm, none⟩,
                ⟨.build [(.int .u8 0), (.int .u64 0), (.slice none 0 0)] [(0, 1, (.tm 0)), (1, 1, (.c (.int .u64 3))), (2, 1, (.c (.slice none 0 0)))], .tm, none⟩,
                ⟨.build [(.int .u8 0), (.int .u64 0), (.slice none 0 0)] [(0, 1, (.c (.int .u8 0))), (1, 1, (.c (.int .u64 0))), (2, 1, (.c (.slice none 0 0)))], .tm, none⟩,
                ⟨.mov (.fr 6), .tm, none⟩,
                ⟨.build [(.int .u8 0), (.int .u64 0), (.slice none 0 0)] [(0, 1, (.tm 0)), (1, 1, (.c (.int .u64 0))), (2, 1, (.c (.slice none 0 0)))], .tm, none⟩,
                ⟨.bslice 30 3 3 [(.int .u8 0), (.int .u64 0), (.slice none 0 0), (.int .u8 0), (.int .u64 0), (.slice none 0 0), (.int .u8 0), (.int .u64 0), (.slice none 0 0)] [(0, 3, (.tm 3)), (3, 3, (.tm 2)), (6, 3, (.tm 0))], .tm, none⟩,
                ⟨.callf 5 [(.tm 6), (.tm 0)], .tm, none⟩,
                ⟨.un .not (.tm 0), .tm, none⟩,
                ⟨.mov (.tm 0), .tm, none⟩,
                ⟨.mov (.fr 5), .tm, some ((.tm 0), false)⟩,
                ⟨.build [(.int .u8 0), (.int .u64 0), (.slice none 0 0)] [(0, 1, (.c (.int .u8 0))), (1, 1, (.c (.int .u64 0))), (2, 1, (.c (.slice none 0 0)))], .tm, some ((.tm 1), false)⟩,
                ⟨.mov (.fr 6), .tm, some ((.tm 2), false)⟩,
                ⟨.mov (.fr 4), .tm, some ((.tm 3), false)⟩,
                ⟨.i2i .u64 (.tm 0), .tm, some ((.tm 4), false)⟩,
                ⟨.build [(.int .u8 0), (.int .u64 0), (.slice none 0 0)] [(0, 1, (.tm 2)), (1, 1, (.tm 0)), (2, 1, (.c (.slice none 0 0)))], .tm, some ((.tm 5), false)⟩,
                ⟨.mov (.fr 6), .tm, some ((.tm 6), false)⟩,
                ⟨.build [(.int .u8 0), (.int .u64 0), (.slice none 0 0)] [(0, 1, (.tm 0)), (1, 1, (.c (.int .u64 18446744073709551615))), (2, 1, (.c (.slice none 0 0)))], .tm, some ((.tm 7), false)⟩,
                ⟨.build [(.int .u8 0), (.int .u64 0), (.slice none 0 0)] [(0, 1, (.c (.int .u8 0))), (1, 1, (.c (.int .u64 0))), (2, 1, (.c (.slice none 0 0)))], .tm, some ((.tm 8), false)⟩,
                ⟨.bslice 30 3 4 [(.int .u8 0), (.int .u64 0), (.slice none 0 0), (.int .u8 0), (.int .u64 0), (.slice none 0 0), (.int .u8 0), (.int .u64 0), (.slice none 0 0), (.int .u8 0), (.int .u64 0), (.slice none 0 0)] [(0, 3, (.tm 7)), (3, 3, (.tm 3)), (6, 3, (.tm 1)), (9, 3, (.tm 0))], .tm, some ((.tm 9), false)⟩,
                ⟨.callf 5 [(.tm 9), (.tm 0)], .tm, some ((.tm 10), false)⟩,
                ⟨.un .not (.tm 0), .tm, some ((.tm 11), false)⟩,
                ⟨.pick (.tm 12) (.c (.bool true)) (.tm 0), .tm, none⟩,
                ⟨.mov (.tm 0), .tm, none⟩,
                ⟨.mov (.fr 5), .tm, some ((.tm 0), false)⟩,
                ⟨.build [(.int .u8 0), (.int .u64 0), (.slice none 0 0)] [(0, 1, (.c (.int .u8 4))), (1, 1, (.c (.int .u64 9223372036854775807))), (2, 1, (.c (.slice none 0 0)))], .tm, some ((.tm 1), false)⟩,
                ⟨.build [(.int .u8 0), (.int .u64 0), (.slice none 0 0)] [(0, 1, (.c (.int .u8 4))), (1, 1, (.c (.int .u64 0))), (2, 1, (.c (.slice none 0 0)))], .tm, some ((.tm 2), false)⟩,
                ⟨.bslice 30 3 2 [(.int .u8 0), (.int .u64 0), (.slice none 0 0), (.int .u8 0), (.int .u64 0), (.slice none 0 0)] [(0, 3, (.tm 1)), (3, 3, (.tm 0))], .tm, some ((.tm 3), false)⟩,
                ⟨.callf 5 [(.tm 3), (.tm 0)], .tm, some ((.tm 4), false)⟩,
                ⟨.un .not (.tm 0), .tm, some ((.tm 5), false)⟩,
                ⟨.pick (.tm 6) (.c (.bool true)) (.tm 0), .fr 9, none⟩]) <|
                .cond (.fr 9)
                  (.seq (.reg [
                  ⟨.mov (.c (.bool false)), .fr 0, none⟩]) <|
                  .ret)
                  (.skip))) <|
              .reg [
              ⟨.mov (.fr 6), .tm, none⟩,
              ⟨.bin .add (.tm 0) (.c (.int .u8 1)), .tm, none⟩,
              ⟨.mov (.tm 0), .fr 6, none⟩])))) <|
        .reg [
        ⟨.mov (.fr 4), .tm, none⟩,
        ⟨.bin .add (.tm 0) (.c (.int .i64 1)), .tm, none⟩,
        ⟨.mov (.tm 0), .fr 4, none⟩]))) <|
    .seq (.reg [
    ⟨.mov (.fr 3), .tm, none⟩,
    ⟨.mov (.tm 0), .tm, none⟩,
    ⟨.build [(.int .u8 0), (.int .u64 0), (.slice none 0 0)] [(0, 1, (.c (.int .u8 0))), (1, 1, (.c (.int .u64 256))), (2, 1, (.c (.slice none 0 0)))], .tm, some ((.tm 0), true)⟩,
    ⟨.build [(.int .u8 0), (.int .u64 0), (.slice none 0 0)] [(0, 1, (.c (.int .u8 1))), (1, 1, (.c (.int .u64 65537))), (2, 1, (.c (.slice none 0 0)))], .tm, some ((.tm 1), true)⟩,
    ⟨.build [(.int .u8 0), (.int .u64 0), (.slice none 0 0)] [(0, 1, (.c (.int .u8 2))), (1, 1, (.c (.int .u64 4294967301))), (2, 1, (.c (.slice none 0 0)))], .tm, some ((.tm 2), true)⟩,
    ⟨.build [(.int .u8 0), (.int .u64 0), (.slice none 0 0)] [(0, 1, (.c (.int .u8 3))), (1, 1, (.c (.int .u64 18446744073709551615))), (2, 1, (.c (.slice none 0 0)))], .tm, some ((.tm 3), true)⟩,
    ⟨.build [(.int .u8 0), (.int .u64 0), (.slice none 0 0)] [(0, 1, (.c (.int .u8 4))), (1, 1, (.c (.int .u64 0))), (2, 1, (.c (.slice none 0 0)))], .tm, some ((.tm 4), true)⟩,
    ⟨.bslice 5 1 2 [(.int .u8 0), (.int .u8 0)] [(0, 1, (.c (.int .u8 97))), (1, 1, (.c (.int .u8 98)))], .tm, some ((.tm 5), true)⟩,
    ⟨.mark (.tm 0), .tm, some ((.tm 6), true)⟩,
    ⟨.build [(.int .u8 0), (.int .u64 0), (.slice none 0 0)] [(0, 1, (.c (.int .u8 4))), (1, 1, (.c (.int .u64 0))), (2, 1, (.tm 0))], .tm, some ((.tm 7), true)⟩,
    ⟨.bslice 30 3 6 [(.int .u8 0), (.int .u64 0), (.slice none 0 0), (.int .u8 0), (.int .u64 0), (.slice none 0 0), (.int .u8 0), (.int .u64 0), (.slice none 0 0), (.int .u8 0), (.int .u64 0), (.slice none 0 0), (.int .u8 0), (.int .u64 0), (.slice none 0 0), (.int .u8 0), (.int .u64 0), (.slice none 0 0)] [(0, 3, (.tm 7)), (3, 3, (.tm 6)), (6, 3, (.tm 5)), (9, 3, (.tm 4)), (12, 3, (.tm 3)), (15, 3, (.tm 0))], .tm, some ((.tm 8), true)⟩,
    ⟨.callf 3 [(.tm 0)], .tm, some ((.tm 9), true)⟩,
    ⟨.pick (.tm 10) (.tm 0) (.c (.bool false)), .tm, none⟩,
    ⟨.mov (.tm 0), .tm, none⟩,
    ⟨.callf 6 [(.c (.slice none 0 0)), (.c (.slice none 0 0))], .tm, some ((.tm 0), true)⟩,
    ⟨.pick (.tm 1) (.tm 0) (.c (.bool false)), .tm, none⟩,
    ⟨.mov (.tm 0), .tm, none⟩,
    ⟨.callf 4 [(.c (.int .u64 255)), (.c (.int .u64 256)), (.c (.int .u8 1))], .tm, some ((.tm 0), true)⟩,
    ⟨.pick (.tm 1) (.tm 0) (.c (.bool false)), .tm, none⟩,
    ⟨.mov (.tm 0), .tm, none⟩,
    ⟨.callf 9 [], .tm, some ((.tm 0), true)⟩,
    ⟨.pick (.tm 1) (.tm 0) (.c (.bool false)), .tm, none⟩,
    ⟨.mov (.tm 0), .fr 0, none⟩]) <|
    .ret, [.t 0]⟩
/-- semaphore/semaphorelaw02.large ; args 1 ; slots [0, 2, 3, 4, 7, 11, 22] -/
def f8 : AFunc := ⟨[0, 2, 3, 4, 7, 11, 22],
  .seq (.reg [
    ⟨.mov (.c (.bool false)), .fr 1, none⟩]) <|
    .seq (.seq (.reg [
    ⟨.mov (.fr 0), .tm, none⟩,
    ⟨.len false (.tm 0), .tm, none⟩,
    ⟨.bin .gtr (.tm 0) (.c (.int .i64 100)), .fr 4, none⟩]) <|
    .cond (.fr 4)
      (.seq (.reg [
      ⟨.mov (.c (.bool true)), .fr 1, none⟩]) <|
      .ret)
      (.skip)) <|
    .seq (.reg [
    ⟨.mov (.c (.int .i64 0)), .fr 2, none⟩]) <|
    .seq (.seq (.reg [
    ⟨.mov (.c (.int .i64 0)), .fr 3, none⟩]) <|
    .block 0 (.loop (.seq (.seq (.reg [
        ⟨.mov (.fr 3), .tm, none⟩,
        ⟨.mov (.fr 0), .tm, none⟩,
        ⟨.len false (.tm 0), .tm, none⟩,
        ⟨.bin .lss (.tm 2) (.tm 0), .fr 5, none⟩]) <|
        .cond (.fr 5)
          (.skip)
          (.exit 0)) <|
        .seq (.block 1 (.seq (.seq (.reg [
          ⟨.mov (.fr 0), .tm, none⟩,
          ⟨.mov (.fr 3), .tm, none⟩,
          ⟨.iaddr 3 (.tm 1) (.tm 0), .tm, none⟩,
          ⟨.faddr 2 (.tm 0), .tm, none⟩,
          ⟨.load1 (.tm 0), .tm, none⟩,
          ⟨.len false (.tm 0), .tm, none⟩,
          ⟨.mov (.fr 2), .tm, none⟩,
          ⟨.bin .sub (.c (.int .i64 3000)) (.tm 0), .tm, none⟩,
          ⟨.bin .gtr (.tm 2) (.tm 0), .fr 6, none⟩]) <|
          .cond (.fr 6)
            (.seq (.reg [
            ⟨.mov (.c (.bool true)), .fr 1, none⟩]) <|
            .ret)
            (.skip)) <|
          .reg [
          ⟨.mov (.fr 2), .tm, none⟩,
          ⟨.mov (.fr 0), .tm, none⟩,
          ⟨.mov (.fr 3), .tm, none⟩,
          ⟨.iaddr 3 (.tm 1) (.tm 0), .tm, none⟩,
          ⟨.faddr 2 (.tm 0), .tm, none⟩,
          ⟨.load1 (.tm 0), .tm, none⟩,
          ⟨.len false (.tm 0), .tm, none⟩,
          ⟨.bin .add (.tm 6) (.tm 0), .tm, none⟩,
          ⟨.mov (.tm 0), .fr 2, none⟩])) <|
        .reg [
        ⟨.mov (.fr 3), .tm, none⟩,
        ⟨.bin .add (.tm 0) (.c (.int .i64 1)), .tm, none⟩,
        ⟨.mov (.tm 0), .fr 3, none⟩]))) <|
    .seq (.reg [
    ⟨.mov (.c (.bool false)), .fr 1, none⟩]) <|
    .ret, [.t 1]⟩
/-- semaphore/semaphorelaw02.works ; args 0 ; slots [0, 1, 2] -/
def f9 : AFunc := ⟨[0, 1, 2],
  .seq (.reg [
    ⟨.mov (.c (.bool false)), .fr 0, none⟩]) <|
    .seq (.reg [
    ⟨.new 27 1 [(.slice none 0 0)], .fr 1, none⟩]) <|
    .seq (.reg [
    ⟨.callf 22 [(.fr 1), (.c (.int .u8 1))], .tm, none⟩]) <|
    .seq (.reg [
    ⟨.callf 23 [(.fr 1), (.c (.int .u16 2))], .tm, none⟩]) <|
    .seq (.reg [
    ⟨.callf 24 [(.fr 1), (.c (.int .u32 255))], .tm, none⟩]) <|
    .seq (.reg [
    ⟨.bslice 5 1 1 [(.int .u8 0)] [(0, 1, (.c (.int .u8 7)))], .tm, none⟩,
    ⟨.callf 20 [(.fr 1), (.tm 0)], .tm, none⟩]) <|
    .seq (.reg [
    ⟨.bslice 5 1 3 [(.int .u8 0), (.int .u8 0), (.int .u8 0)] [(0, 1, (.c (.int .u8 1))), (1, 1, (.c (.int .u8 2))), (2, 1, (.c (.int .u8 3)))], .tm, none⟩,
    ⟨.callf 15 [(.tm 0)], .tm, none⟩,
    ⟨.mov (.tm 0), .fr 2, none⟩]) <|
    .seq (.reg [
    ⟨.callf 12 [(.fr 1)], .tm, none⟩,
    ⟨.b2s (.tm 0), .tm, none⟩,
    ⟨.bin .eql (.tm 0) (.c (.string ⟨#[1, 0, 2, 0, 0, 0, 255, 7]⟩)), .tm, none⟩,
    ⟨.mov (.tm 0), .tm, none⟩,
    ⟨.mov (.fr 2), .tm, some ((.tm 0), true)⟩,
    ⟨.callf 27 [(.tm 0)], .tm, some ((.tm 1), true)⟩,
    ⟨.bin .eql (.tm 0) (.c (.int .u16 258)), .tm, some ((.tm 2), true)⟩,
    ⟨.pick (.tm 3) (.tm 0) (.c (.bool false)), .tm, none⟩,
    ⟨.mov (.tm 0), .tm, none⟩,
    ⟨.mov (.fr 2), .tm, some ((.tm 0), true)⟩,
    ⟨.callf 27 [(.tm 0)], .tm, some ((.tm 1), true)⟩,
    ⟨.bin .eql (.tm 0) (.c (.int .u16 0)), .tm, some ((.tm 2), true)⟩,
    ⟨.pick (.tm 3) (.tm 0) (.c (.bool false)), .tm, none⟩,
    ⟨.mov (.tm 0), .tm, none⟩,
    ⟨.mov (.fr 2), .tm, some ((.tm 0), true)⟩,
    ⟨.callf 26 [(.tm 0)], .tm, some ((.tm 1), true)⟩,
    ⟨.bin .eql (.tm 0) (.c (.int .u8 0)), .tm, some ((.tm 2), true)⟩,
    ⟨.pick (.tm 3) (.tm 0) (.c (.bool false)), .tm, none⟩,
    ⟨.mov (.tm 0), .tm, none⟩,
    ⟨.mov (.fr 2), .tm, some ((.tm 0), true)⟩,
    ⟨.callf 18 [(.tm 0)], .tm, some ((.tm 1), true)⟩,
    ⟨.pick (.tm 2) (.tm 0) (.c (.bool false)), .tm, none⟩,
    ⟨.mov (.tm 0), .fr 0, none⟩]) <|
    .ret, [.t 0]⟩
/-- semaphore/semaphorelaw02.put ; args 2 ; slots [0, 1, 3, 6, 11, 18, 25, 32] -/
def f10 : AFunc := ⟨[0, 1, 3, 6, 11, 18, 25, 32],
  .seq (.reg [
    ⟨.box 30 3 (.fr 1), .fr 2, none⟩]) <|
    .seq (.reg [
    ⟨.faddr 0 (.fr 2), .tm, none⟩,
    ⟨.load1 (.tm 0), .tm, none⟩,
    ⟨.bin .rem (.tm 0) (.c (.int .u8 5)), .fr 3, none⟩]) <|
    .block 0 (.seq (.reg [
      ⟨.bin .eql (.fr 3) (.c (.int .u8 0)), .tm, none⟩,
      ⟨.mov (.tm 0), .fr 4, none⟩]) <|
      .cond (.fr 4)
        (.reg [
        ⟨.mov (.fr 0), .tm, none⟩,
        ⟨.faddr 1 (.fr 2), .tm, none⟩,
        ⟨.load1 (.tm 0), .tm, none⟩,
        ⟨.i2i .u8 (.tm 0), .tm, none⟩,
        ⟨.callf 22 [(.tm 3), (.tm 0)], .tm, none⟩])
        (.seq (.reg [
        ⟨.bin .eql (.fr 3) (.c (.int .u8 1)), .tm, none⟩,
        ⟨.mov (.tm 0), .fr 5, none⟩]) <|
        .cond (.fr 5)
          (.reg [
          ⟨.mov (.fr 0), .tm, none⟩,
          ⟨.faddr 1 (.fr 2), .tm, none⟩,
          ⟨.load1 (.tm 0), .tm, none⟩,
          ⟨.i2i .u16 (.tm 0), .tm, none⟩,
          ⟨.callf 23 [(.tm 3), (.tm 0)], .tm, none⟩])
          (.seq (.reg [
          ⟨.bin .eql (.fr 3) (.c (.int .u8 2)), .tm, none⟩,
          ⟨.mov (.tm 0), .fr 6, none⟩]) <|
          .cond (.fr 6)
            (.reg [
            ⟨.mov (.fr 0), .tm, none⟩,
            ⟨.faddr 1 (.fr 2), .tm, none⟩,
            ⟨.load1 (.tm 0), .tm, none⟩,
            ⟨.i2i .u32 (.tm 0), .tm, none⟩,
            ⟨.callf 24 [(.tm 3), (.tm 0)], .tm, none⟩])
            (.seq (.reg [
            ⟨.bin .eql (.fr 3) (.c (.int .u8 3)), .tm, none⟩,
            ⟨.mov (.tm 0), .fr 7, none⟩]) <|
            .cond (.fr 7)
              (.reg [
              ⟨.mov (.fr 0), .tm, none⟩,
              ⟨.faddr 1 (.fr 2), .tm, none⟩,
              ⟨.load1 (.tm 0), .tm, none⟩,
              ⟨.callf 25 [(.tm 2), (.tm 0)], .tm, none⟩])
              (.reg [
              ⟨.mov (.fr 0), .tm, none⟩,
              ⟨.faddr 2 (.fr 2), .tm, none⟩,
              ⟨.load1 (.tm 0), .tm, none⟩,
              ⟨.callf 20 [(.tm 2), (.tm 0)], .tm, none⟩]))))), []⟩
/-- semaphore/semaphorelaw02.bytes ; args 1 ; slots [0, 1, 2, 6] -/
def f11 : AFunc := ⟨[0, 1, 2, 6],
  .seq (.reg [
    ⟨.box 30 3 (.fr 0), .fr 1, none⟩,
    ⟨.mov (.c (.slice none 0 0)), .fr 2, none⟩]) <|
    .seq (.seq (.reg [
    ⟨.faddr 0 (.fr 1), .tm, none⟩,
    ⟨.load1 (.tm 0), .tm, none⟩,
    ⟨.bin .rem (.tm 0) (.c (.int .u8 5)), .tm, none⟩,
    ⟨.bin .eql (.tm 0) (.c (.int .u8 4)), .fr 3, none⟩]) <|
    .cond (.fr 3)
      (.seq (.reg [
      ⟨.faddr 2 (.fr 1), .tm, none⟩,
      ⟨.load1 (.tm 0), .tm, none⟩,
      ⟨.mov (.tm 0), .fr 2, none⟩]) <|
      .ret)
      (.skip)) <|
    .seq (.dreg [
    (⟨.faddr 1 (.fr 1), .tm, none⟩, []),
    (⟨.load1 (.tm 0), .tm, none⟩, []),
    (⟨.faddr 0 (.fr 1), .tm, none⟩, []),
    (⟨.load1 (.tm 0), .tm, none⟩, []),
    (⟨.callf 14 [(.tm 0)], .tm, none⟩, [1]),
    (⟨.callf 30 [(.tm 3), (.tm 0)], .tm, none⟩, []),
    (⟨.mov (.tm 0), .fr 2, none⟩, [])]) <|
    .ret, [.t 2]⟩
/-- (*semaphore/fields.Writer).Out ; args 1 ; slots [0, 2, 4] -/
def f12 : AFunc := ⟨[0, 2, 4],
  .seq (.reg [
    ⟨.mov (.c (.slice none 0 0)), .fr 1, none⟩]) <|
    .seq (.seq (.reg [
    ⟨.mov (.fr 0), .tm, none⟩,
    ⟨.eqv 1 false (.tm 0) (.c (.pointer none)), .fr 2, none⟩]) <|
    .cond (.fr 2)
      (.seq (.reg [
      ⟨.mov (.c (.slice none 0 0)), .fr 1, none⟩]) <|
      .ret)
      (.skip)) <|
    .seq (.reg [
    ⟨.mov (.fr 0), .tm, none⟩,
    ⟨.nilck (.tm 0), .tm, none⟩,
    ⟨.faddr 0 (.tm 0), .tm, none⟩,
    ⟨.load1 (.tm 0), .tm, none⟩,
    ⟨.callf 31 [(.tm 0)], .tm, none⟩,
    ⟨.mov (.tm 0), .fr 1, none⟩]) <|
    .ret, [.t 1]⟩
/-- semaphore/semaphoreref02.Number ; args 1 ; slots [0, 2, 3, 4, 8] -/
def f13 : AFunc := ⟨[0, 2, 3, 4, 8],
  .seq (.reg [
    ⟨.mov (.c (.int .u64 0)), .fr 1, none⟩]) <|
    .seq (.reg [
    ⟨.mov (.c (.int .u64 0)), .fr 2, none⟩]) <|
    .seq (.seq (.reg [
    ⟨.mov (.c (.int .i64 0)), .fr 3, none⟩]) <|
    .block 0 (.loop (.seq (.seq (.reg [
        ⟨.mov (.fr 3), .tm, none⟩,
        ⟨.mov (.fr 0), .tm, none⟩,
        ⟨.len false (.tm 0), .tm, none⟩,
        ⟨.bin .lss (.tm 2) (.tm 0), .fr 4, none⟩]) <|
        .cond (.fr 4)
          (.skip)
          (.exit 0)) <|
        .seq (.block 1 (.reg [
          ⟨.mov (.fr 2), .tm, none⟩,
          ⟨.bin .shl (.tm 0) (.c (.int .u64 8)), .tm, none⟩,
          ⟨.mov (.fr 0), .tm, none⟩,
          ⟨.mov (.fr 3), .tm, none⟩,
          ⟨.iaddr 1 (.tm 1) (.tm 0), .tm, none⟩,
          ⟨.load1 (.tm 0), .tm, none⟩,
          ⟨.i2i .u64 (.tm 0), .tm, none⟩,
          ⟨.bin .or (.tm 5) (.tm 0), .tm, none⟩,
          ⟨.mov (.tm 0), .fr 2, none⟩])) <|
        .reg [
        ⟨.mov (.fr 3), .tm, none⟩,
        ⟨.bin .add (.tm 0) (.c (.int .i64 1)), .tm, none⟩,
        ⟨.mov (.tm 0), .fr 3, none⟩]))) <|
    .seq (.reg [
    ⟨.mov (.fr 2), .tm, none⟩,
    ⟨.mov (.tm 0), .fr 1, none⟩]) <|
    .ret, [.t 1]⟩
/-- semaphore/semaphorelaw02.width ; args 1 ; slots [0, 2] -/
def f14 : AFunc := ⟨[0, 2],
  .seq (.reg [
    ⟨.mov (.c (.int .i64 0)), .fr 1, none⟩]) <|
    .seq (.reg [
    ⟨.bslice 3 1 4 [(.int .i64 0), (.int .i64 0), (.int .i64 0), (.int .i64 0)] [(0, 1, (.c (.int .i64 1))), (1, 1, (.c (.int .i64 2))), (2, 1, (.c (.int .i64 4))), (3, 1, (.c (.int .i64 8)))], .tm, none⟩,
    ⟨.mov (.fr 0), .tm, none⟩,
    ⟨.bin .rem (.tm 0) (.c (.int .u8 5)), .tm, none⟩,
    ⟨.iaddr 1 (.tm 2) (.tm 0), .tm, none⟩,
    ⟨.load1 (.tm 0), .tm, none⟩,
    ⟨.mov (.tm 0), .fr 1, none⟩]) <|
    .ret, [.t 1]⟩
/-- semaphore/fields.Open ; args 1 ; slots [0, 2] -/
def f15 : AFunc := ⟨[0, 2],
  .seq (.reg [
    ⟨.mov (.c (.pointer none)), .fr 1, none⟩]) <|
    .seq (.reg [
    ⟨.mov (.fr 0), .tm, none⟩,
    ⟨.callf 31 [(.tm 0)], .tm, none⟩,
    ⟨.build [(.slice none 0 0), (.bool false)] [(0, 1, (.tm 0))], .tm, none⟩,
    ⟨.box 67 2 (.tm 0), .tm, none⟩,
    ⟨.mov (.tm 0), .fr 1, none⟩]) <|
    .ret, [.t 1]⟩
/-- (*semaphore/semaphoreref02.Reader).Take ; args 2 ; slots [0, 1, 4, 5, 6, 23] -/
def f16 : AFunc := ⟨[0, 1, 4, 5, 6, 23],
  .seq (.reg [
    ⟨.mov (.c (.slice none 0 0)), .fr 2, none⟩,
    ⟨.mov (.c (.bool false)), .fr 3, none⟩]) <|
    .seq (.seq (.reg [
    ⟨.mov (.fr 0), .tm, none⟩,
    ⟨.nilck (.tm 0), .tm, none⟩,
    ⟨.faddr 1 (.tm 0), .tm, none⟩,
    ⟨.load1 (.tm 0), .tm, none⟩,
    ⟨.mov (.tm 0), .tm, none⟩,
    ⟨.mov (.fr 1), .tm, some ((.tm 0), false)⟩,
    ⟨.bin .lss (.tm 0) (.c (.int .i64 0)), .tm, some ((.tm 1), false)⟩,
    ⟨.pick (.tm 2) (.c (.bool true)) (.tm 0), .tm, none⟩,
    ⟨.mov (.tm 0), .tm, none⟩,
    ⟨.mov (.fr 1), .tm, some ((.tm 0), false)⟩,
    ⟨.mov (.fr 0), .tm, some ((.tm 1), false)⟩,
    ⟨.nilck (.tm 0), .tm, some ((.tm 2), false)⟩,
    ⟨.faddr 0 (.tm 0), .tm, some ((.tm 3), false)⟩,
    ⟨.load1 (.tm 0), .tm, some ((.tm 4), false)⟩,
    ⟨.len false (.tm 0), .tm, some ((.tm 5), false)⟩,
    ⟨.bin .gtr (.tm 5) (.tm 0), .tm, some ((.tm 6), false)⟩,
    ⟨.pick (.tm 7) (.c (.bool true)) (.tm 0), .fr 5, none⟩]) <|
    .cond (.fr 5)
      (.seq (.reg [
      ⟨.mov (.fr 0), .tm, none⟩,
      ⟨.nilck (.tm 0), .tm, none⟩,
      ⟨.faddr 1 (.tm 0), .tm, none⟩,
      ⟨.store1 (.tm 0) (.c (.bool true)), .no, none⟩]) <|
      .seq (.reg [
      ⟨.mov (.fr 0), .tm, none⟩,
      ⟨.nilck (.tm 0), .tm, none⟩,
      ⟨.faddr 0 (.tm 0), .tm, none⟩,
      ⟨.store1 (.tm 0) (.c (.slice none 0 0)), .no, none⟩]) <|
      .seq (.reg [
      ⟨.mov (.c (.slice none 0 0)), .fr 2, none⟩,
      ⟨.mov (.c (.bool false)), .fr 3, none⟩]) <|
      .ret)
      (.skip)) <|
    .seq (.reg [
    ⟨.mov (.fr 0), .tm, none⟩,
    ⟨.nilck (.tm 0), .tm, none⟩,
    ⟨.faddr 0 (.tm 0), .tm, none⟩,
    ⟨.load1 (.tm 0), .tm, none⟩,
    ⟨.mov (.fr 1), .tm, none⟩,
    ⟨.slsl 1 (.tm 1) none (some (.tm 0)) none, .tm, none⟩,
    ⟨.mov (.tm 0), .fr 4, none⟩]) <|
    .seq (.reg [
    ⟨.mov (.fr 0), .tm, none⟩,
    ⟨.mov (.fr 0), .tm, none⟩,
    ⟨.nilck (.tm 0), .tm, none⟩,
    ⟨.faddr 0 (.tm 0), .tm, none⟩,
    ⟨.load1 (.tm 0), .tm, none⟩,
    ⟨.mov (.fr 1), .tm, none⟩,
    ⟨.slsl 1 (.tm 1) (some (.tm 0)) none none, .tm, none⟩,
    ⟨.nilck (.tm 6), .tm, none⟩,
    ⟨.faddr 0 (.tm 0), .tm, none⟩,
    ⟨.store1 (.tm 0) (.tm 2), .no, none⟩]) <|
    .seq (.reg [
    ⟨.mov (.fr 4), .tm, none⟩,
    ⟨.mov (.tm 0), .fr 2, none⟩,
    ⟨.mov (.c (.bool true)), .fr 3, none⟩]) <|
    .ret, [.t 2, .t 3]⟩
/-- semaphore/semaphorelaw02.reads ; args 2 ; slots [0, 1, 3, 4, 5, 6, 7, 8, 11, 12, 17, 22, 27, 41] -/
def f17 : AFunc := ⟨[0, 1, 3, 4, 5, 6, 7, 8, 11, 12, 17, 22, 27, 41],
  .seq (.reg [
    ⟨.box 30 3 (.fr 1), .fr 2, none⟩,
    ⟨.mov (.c (.int .u64 0)), .fr 3, none⟩,
    ⟨.mov (.c (.string ByteArray.empty)), .fr 4, none⟩]) <|
    .seq (.seq (.reg [
    ⟨.faddr 0 (.fr 2), .tm, none⟩,
    ⟨.load1 (.tm 0), .tm, none⟩,
    ⟨.bin .rem (.tm 0) (.c (.int .u8 5)), .fr 8, none⟩]) <|
    .block 0 (.seq (.reg [
      ⟨.bin .eql (.fr 8) (.c (.int .u8 0)), .tm, none⟩,
      ⟨.mov (.tm 0), .fr 9, none⟩]) <|
      .cond (.fr 9)
        (.seq (.reg [
        ⟨.mov (.fr 0), .tm, none⟩,
        ⟨.callf 26 [(.tm 0)], .tm, none⟩,
        ⟨.i2i .u64 (.tm 0), .tm, none⟩,
        ⟨.mov (.tm 0), .fr 3, none⟩,
        ⟨.mov (.c (.string ByteArray.empty)), .fr 4, none⟩]) <|
        .ret)
        (.seq (.reg [
        ⟨.bin .eql (.fr 8) (.c (.int .u8 1)), .tm, none⟩,
        ⟨.mov (.tm 0), .fr 10, none⟩]) <|
        .cond (.fr 10)
          (.seq (.reg [
          ⟨.mov (.fr 0), .tm, none⟩,
          ⟨.callf 27 [(.tm 0)], .tm, none⟩,
          ⟨.i2i .u64 (.tm 0), .tm, none⟩,
          ⟨.mov (.tm 0), .fr 3, none⟩,
          ⟨.mov (.c (.string ByteArray.empty)), .fr 4, none⟩]) <|
          .ret)
          (.seq (.reg [
          ⟨.bin .eql (.fr 8) (.c (.int .u8 2)), .tm, none⟩,
          ⟨.mov (.tm 0), .fr 11, none⟩]) <|
          .cond (.fr 11)
            (.seq (.reg [
            ⟨.mov (.fr 0), .tm, none⟩,
            ⟨.callf 28 [(.tm 0)], .tm, none⟩,
            ⟨.i2i .u64 (.tm 0), .tm, none⟩,
            ⟨.mov (.tm 0), .fr 3, none⟩,
            ⟨.mov (.c (.string ByteArray.empty)), .fr 4, none⟩]) <|
            .ret)
            (.seq (.reg [
            ⟨.bin .eql (.fr 8) (.c (.int .u8 3)), .tm, none⟩,
            ⟨.mov (.tm 0), .fr 12, none⟩]) <|
            .cond (.fr 12)
              (.seq (.reg [
              ⟨.mov (.fr 0), .tm, none⟩,
              ⟨.callf 29 [(.tm 0)], .tm, none⟩,
              ⟨.mov (.tm 0), .fr 3, none⟩,
              ⟨.mov (.c (.string ByteArray.empty)), .fr 4, none⟩]) <|
              .ret)
              (.skip)))))) <|
    .seq (.reg [
    ⟨.mov (.fr 0), .tm, none⟩,
    ⟨.faddr 1 (.fr 2), .tm, none⟩,
    ⟨.load1 (.tm 0), .tm, none⟩,
    ⟨.i2i .i64 (.tm 0), .tm, none⟩,
    ⟨.callf 21 [(.tm 3), (.tm 0)], .tm, none⟩,
    ⟨.mov (.tm 0), .fr 5, none⟩]) <|
    .seq (.reg [
    ⟨.mov (.fr 5), .tm, none⟩,
    ⟨.b2s (.tm 0), .tm, none⟩,
    ⟨.mov (.tm 0), .fr 6, none⟩]) <|
    .seq (.seq (.reg [
    ⟨.mov (.c (.int .i64 0)), .fr 7, none⟩]) <|
    .block 1 (.loop (.seq (.seq (.reg [
        ⟨.mov (.fr 7), .tm, none⟩,
        ⟨.mov (.fr 5), .tm, none⟩,
        ⟨.len false (.tm 0), .tm, none⟩,
        ⟨.bin .lss (.tm 2) (.tm 0), .fr 13, none⟩]) <|
        .cond (.fr 13)
          (.skip)
          (.exit 1)) <|
        .seq (.block 2 (.reg [
          ⟨.mov (.fr 5), .tm, none⟩,
          ⟨.mov (.fr 7), .tm, none⟩,
          ⟨.mov (.fr 5), .tm, none⟩,
          ⟨.mov (.fr 7), .tm, none⟩,
          ⟨.iaddr 1 (.tm 1) (.tm 0), .tm, none⟩,
          ⟨.load1 (.tm 0), .tm, none⟩,
          ⟨.bin .add (.tm 0) (.c (.int .u8 1)), .tm, none⟩,
          ⟨.iaddr 1 (.tm 6) (.tm 5), .tm, none⟩,
          ⟨.store1 (.tm 0) (.tm 1), .no, none⟩])) <|
        .reg [
        ⟨.mov (.fr 7), .tm, none⟩,
        ⟨.bin .add (.tm 0) (.c (.int .i64 1)), .tm, none⟩,
        ⟨.mov (.tm 0), .fr 7, none⟩]))) <|
    .seq (.reg [
    ⟨.mov (.fr 6), .tm, none⟩,
    ⟨.mov (.c (.int .u64 0)), .fr 3, none⟩,
    ⟨.mov (.tm 0), .fr 4, none⟩]) <|
    .ret, [.t 3, .t 4]⟩
/-- (*semaphore/fields.Reader).Bad ; args 1 ; slots [0, 2] -/
def f18 : AFunc := ⟨[0, 2],
  .seq (.reg [
    ⟨.mov (.c (.bool false)), .fr 1, none⟩]) <|
    .seq (.reg [
    ⟨.mov (.fr 0), .tm, none⟩,
    ⟨.eqv 1 false (.tm 0) (.c (.pointer none)), .tm, none⟩,
    ⟨.mov (.tm 0), .tm, none⟩,
    ⟨.mov (.fr 0), .tm, some ((.tm 0), false)⟩,
    ⟨.nilck (.tm 0), .tm, some ((.tm 1), false)⟩,
    ⟨.faddr 1 (.tm 0), .tm, some ((.tm 2), false)⟩,
    ⟨.load1 (.tm 0), .tm, some ((.tm 3), false)⟩,
    ⟨.pick (.tm 4) (.c (.bool true)) (.tm 0), .tm, none⟩,
    ⟨.mov (.tm 0), .fr 1, none⟩]) <|
    .ret, [.t 1]⟩
/-- (*semaphore/fields.Reader).Left ; args 1 ; slots [0, 2, 4] -/
def f19 : AFunc := ⟨[0, 2, 4],
  .seq (.reg [
    ⟨.mov (.c (.int .i64 0)), .fr 1, none⟩]) <|
    .seq (.seq (.reg [
    ⟨.mov (.fr 0), .tm, none⟩,
    ⟨.eqv 1 false (.tm 0) (.c (.pointer none)), .fr 2, none⟩]) <|
    .cond (.fr 2)
      (.seq (.reg [
      ⟨.mov (.c (.int .i64 0)), .fr 1, none⟩]) <|
      .ret)
      (.skip)) <|
    .seq (.reg [
    ⟨.mov (.fr 0), .tm, none⟩,
    ⟨.nilck (.tm 0), .tm, none⟩,
    ⟨.faddr 0 (.tm 0), .tm, none⟩,
    ⟨.load1 (.tm 0), .tm, none⟩,
    ⟨.len false (.tm 0), .tm, none⟩,
    ⟨.mov (.tm 0), .fr 1, none⟩]) <|
    .ret, [.t 1]⟩
/-- (*semaphore/fields.Writer).Raw ; args 2 ; slots [0, 1, 5] -/
def f20 : AFunc := ⟨[0, 1, 5],
  .seq (.reg [
    ⟨.mov (.fr 0), .tm, none⟩,
    ⟨.eqv 1 true (.tm 0) (.c (.pointer none)), .fr 2, none⟩]) <|
    .cond (.fr 2)
      (.reg [
      ⟨.mov (.fr 0), .tm, none⟩,
      ⟨.mov (.fr 0), .tm, none⟩,
      ⟨.nilck (.tm 0), .tm, none⟩,
      ⟨.faddr 0 (.tm 0), .tm, none⟩,
      ⟨.load1 (.tm 0), .tm, none⟩,
      ⟨.mov (.fr 1), .tm, none⟩,
      ⟨.app 5 1 1 (.tm 1) (.tm 0), .tm, none⟩,
      ⟨.nilck (.tm 6), .tm, none⟩,
      ⟨.faddr 0 (.tm 0), .tm, none⟩,
      ⟨.store1 (.tm 0) (.tm 2), .no, none⟩])
      (.skip), []⟩
/-- (*semaphore/fields.Reader).Raw ; args 2 ; slots [0, 1, 4] -/
def f21 : AFunc := ⟨[0, 1, 4],
  .seq (.reg [
    ⟨.mov (.c (.slice none 0 0)), .fr 2, none⟩]) <|
    .seq (.reg [
    ⟨.mov (.fr 0), .tm, none⟩,
    ⟨.mov (.fr 1), .tm, none⟩,
    ⟨.callf 32 [(.tm 1), (.tm 0)], .tm, none⟩,
    ⟨.mov (.tm 0), .fr 2, none⟩]) <|
    .ret, [.t 2]⟩
/-- (*semaphore/fields.Writer).Byte ; args 2 ; slots [0, 1] -/
def f22 : AFunc := ⟨[0, 1],
  .reg [
    ⟨.mov (.fr 0), .tm, none⟩,
    ⟨.mov (.fr 1), .tm, none⟩,
    ⟨.iface 5 (.tm 0), .tm, none⟩,
    ⟨.callf 33 [(.tm 2), (.tm 0)], .tm, none⟩], []⟩
/-- (*semaphore/fields.Writer).Short ; args 2 ; slots [0, 1] -/
def f23 : AFunc := ⟨[0, 1],
  .reg [
    ⟨.mov (.fr 0), .tm, none⟩,
    ⟨.mov (.fr 1), .tm, none⟩,
    ⟨.iface 54 (.tm 0), .tm, none⟩,
    ⟨.callf 33 [(.tm 2), (.tm 0)], .tm, none⟩], []⟩
/-- (*semaphore/fields.Writer).Word ; args 2 ; slots [0, 1] -/
def f24 : AFunc := ⟨[0, 1],
  .reg [
    ⟨.mov (.fr 0), .tm, none⟩,
    ⟨.mov (.fr 1), .tm, none⟩,
    ⟨.iface 56 (.tm 0), .tm, none⟩,
    ⟨.callf 33 [(.tm 2), (.tm 0)], .tm, none⟩], []⟩
/-- (*semaphore/fields.Writer).Long ; args 2 ; slots [0, 1] -/
def f25 : AFunc := ⟨[0, 1],
  .reg [
    ⟨.mov (.fr 0), .tm, none⟩,
    ⟨.mov (.fr 1), .tm, none⟩,
    ⟨.iface 28 (.tm 0), .tm, none⟩,
    ⟨.callf 33 [(.tm 2), (.tm 0)], .tm, none⟩], []⟩
/-- (*semaphore/fields.Reader).Byte ; args 1 ; slots [0, 2] -/
def f26 : AFunc := ⟨[0, 2],
  .seq (.reg [
    ⟨.mov (.c (.int .u8 0)), .fr 1, none⟩]) <|
    .seq (.reg [
    ⟨.mov (.fr 0), .tm, none⟩,
    ⟨.callf 34 [(.tm 0), (.c (.int .i64 1))], .tm, none⟩,
    ⟨.assert 5 (.int .u8 0) false (.tm 0), .tm, none⟩,
    ⟨.mov (.tm 0), .fr 1, none⟩]) <|
    .ret, [.t 1]⟩
/-- (*semaphore/fields.Reader).Short ; args 1 ; slots [0, 2] -/
def f27 : AFunc := ⟨[0, 2],
  .seq (.reg [
    ⟨.mov (.c (.int .u16 0)), .fr 1, none⟩]) <|
    .seq (.reg [
    ⟨.mov (.fr 0), .tm, none⟩,
    ⟨.callf 34 [(.tm 0), (.c (.int .i64 2))], .tm, none⟩,
    ⟨.assert 54 (.int .u16 0) false (.tm 0), .tm, none⟩,
    ⟨.mov (.tm 0), .fr 1, none⟩]) <|
    .ret, [.t 1]⟩
/-- (*semaphore/fields.Reader).Word ; args 1 ; slots [0, 2] -/
def f28 : AFunc := ⟨[0, 2],
  .seq (.reg [
    ⟨.mov (.c (.int .u32 0)), .fr 1, none⟩]) <|
    .seq (.reg [
    ⟨.mov (.fr 0), .tm, none⟩,
    ⟨.callf 34 [(.tm 0), (.c (.int .i64 4))], .tm, none⟩,
    ⟨.assert 56 (.int .u32 0) false (.tm 0), .tm, none⟩,
    ⟨.mov (.tm 0), .fr 1, none⟩]) <|
    .ret, [.t 1]⟩
/-- (*semaphore/fields.Reader).Long ; args 1 ; slots [0, 2] -/
def f29 : AFunc := ⟨[0, 2],
  .seq (.reg [
    ⟨.mov (.c (.int .u64 0)), .fr 1, none⟩]) <|
    .seq (.reg [
    ⟨.mov (.fr 0), .tm, none⟩,
    ⟨.callf 34 [(.tm 0), (.c (.int .i64 8))], .tm, none⟩,
    ⟨.assert 28 (.int .u64 0) false (.tm 0), .tm, none⟩,
    ⟨.mov (.tm 0), .fr 1, none⟩]) <|
    .ret, [.t 1]⟩
/-- semaphore/semaphoreref02.Bytes ; args 2 ; slots [0, 1, 4, 5, 6, 10] -/
def f30 : AFunc := ⟨[0, 1, 4, 5, 6, 10],
  .seq (.reg [
    ⟨.mov (.c (.slice none 0 0)), .fr 2, none⟩]) <|
    .seq (.reg [
    ⟨.mov (.c (.slice none 0 0)), .fr 3, none⟩]) <|
    .seq (.seq (.reg [
    ⟨.mov (.fr 1), .tm, none⟩,
    ⟨.bin .sub (.tm 0) (.c (.int .i64 1)), .tm, none⟩,
    ⟨.mov (.tm 0), .fr 4, none⟩]) <|
    .block 0 (.loop (.seq (.seq (.reg [
        ⟨.mov (.fr 4), .tm, none⟩,
        ⟨.bin .geq (.tm 0) (.c (.int .i64 0)), .fr 5, none⟩]) <|
        .cond (.fr 5)
          (.skip)
          (.exit 0)) <|
        .seq (.block 1 (.reg [
          ⟨.mov (.fr 3), .tm, none⟩,
          ⟨.mov (.fr 0), .tm, none⟩,
          ⟨.mov (.fr 4), .tm, none⟩,
          ⟨.bin .mul (.c (.int .i64 8)) (.tm 0), .tm, none⟩,
          ⟨.bin .shr (.tm 2) (.tm 0), .tm, none⟩,
          ⟨.i2i .u8 (.tm 0), .tm, none⟩,
          ⟨.bslice 5 1 1 [(.int .u8 0)] [(0, 1, (.tm 0))], .tm, none⟩,
          ⟨.app 5 1 1 (.tm 6) (.tm 0), .tm, none⟩,
          ⟨.mov (.tm 0), .fr 3, none⟩])) <|
        .reg [
        ⟨.mov (.fr 4), .tm, none⟩,
        ⟨.bin .sub (.tm 0) (.c (.int .i64 1)), .tm, none⟩,
        ⟨.mov (.tm 0), .fr 4, none⟩]))) <|
    .seq (.reg [
    ⟨.mov (.fr 3), .tm, none⟩,
    ⟨.mov (.tm 0), .fr 2, none⟩]) <|
    .ret, [.t 2]⟩
/-- slices.Clone[[]byte,byte] ; args 1 ; slots [0, 2, 4] -/
def f31 : AFunc := ⟨[0, 2, 4],
  .seq (.reg [
    ⟨.mov (.c (.slice none 0 0)), .fr 1, none⟩]) <|
    .seq (.seq (.reg [
    ⟨.mov (.fr 0), .tm, none⟩,
    ⟨.eqv 2 false (.tm 0) (.c (.slice none 0 0)), .fr 2, none⟩]) <|
    .cond (.fr 2)
      (.seq (.reg [
      ⟨.mov (.c (.slice none 0 0)), .fr 1, none⟩]) <|
      .ret)
      (.skip)) <|
    .seq (.reg [
    ⟨.bslice 5 1 0 [] [], .tm, none⟩,
    ⟨.mov (.fr 0), .tm, none⟩,
    ⟨.app 5 1 1 (.tm 1) (.tm 0), .tm, none⟩,
    ⟨.mov (.tm 0), .fr 1, none⟩]) <|
    .ret, [.t 1]⟩
/-- (*semaphore/fields.Reader).take ; args 2 ; slots [0, 1, 4, 5, 6, 9] -/
def f32 : AFunc := ⟨[0, 1, 4, 5, 6, 9],
  .seq (.reg [
    ⟨.mov (.c (.slice none 0 0)), .fr 2, none⟩]) <|
    .seq (.block 0 (.seq (.reg [
      ⟨.mov (.fr 0), .tm, none⟩,
      ⟨.eqv 1 false (.tm 0) (.c (.pointer none)), .tm, none⟩,
      ⟨.mov (.tm 0), .fr 4, none⟩]) <|
      .cond (.fr 4)
        (.seq (.reg [
        ⟨.mov (.c (.slice none 0 0)), .fr 2, none⟩]) <|
        .ret)
        (.seq (.reg [
        ⟨.mov (.fr 0), .tm, none⟩,
        ⟨.nilck (.tm 0), .tm, none⟩,
        ⟨.faddr 1 (.tm 0), .tm, none⟩,
        ⟨.load1 (.tm 0), .tm, none⟩,
        ⟨.mov (.tm 0), .tm, none⟩,
        ⟨.mov (.fr 1), .tm, some ((.tm 0), false)⟩,
        ⟨.bin .lss (.tm 0) (.c (.int .i64 0)), .tm, some ((.tm 1), false)⟩,
        ⟨.pick (.tm 2) (.c (.bool true)) (.tm 0), .tm, none⟩,
        ⟨.mov (.tm 0), .tm, none⟩,
        ⟨.mov (.fr 1), .tm, some ((.tm 0), false)⟩,
        ⟨.mov (.fr 0), .tm, some ((.tm 1), false)⟩,
        ⟨.nilck (.tm 0), .tm, some ((.tm 2), false)⟩,
        ⟨.faddr 0 (.tm 0), .tm, some ((.tm 3), false)⟩,
        ⟨.load1 (.tm 0), .tm, some ((.tm 4), false)⟩,
        ⟨.len false (.tm 0), .tm, some ((.tm 5), false)⟩,
        ⟨.bin .gtr (.tm 5) (.tm 0), .tm, some ((.tm 6), false)⟩,
        ⟨.pick (.tm 7) (.c (.bool true)) (.tm 0), .tm, none⟩,
        ⟨.mov (.tm 0), .fr 5, none⟩]) <|
        .cond (.fr 5)
          (.seq (.reg [
          ⟨.mov (.fr 0), .tm, none⟩,
          ⟨.mov (.fr 0), .tm, none⟩,
          ⟨.nilck (.tm 1), .tm, none⟩,
          ⟨.faddr 0 (.tm 0), .tm, none⟩,
          ⟨.store1 (.tm 0) (.c (.slice none 0 0)), .no, none⟩,
          ⟨.nilck (.tm 2), .tm, none⟩,
          ⟨.faddr 1 (.tm 0), .tm, none⟩,
          ⟨.store1 (.tm 0) (.c (.bool true)), .no, none⟩]) <|
          .seq (.reg [
          ⟨.mov (.c (.slice none 0 0)), .fr 2, none⟩]) <|
          .ret)
          (.skip)))) <|
    .seq (.reg [
    ⟨.mov (.fr 0), .tm, none⟩,
    ⟨.nilck (.tm 0), .tm, none⟩,
    ⟨.faddr 0 (.tm 0), .tm, none⟩,
    ⟨.load1 (.tm 0), .tm, none⟩,
    ⟨.mov (.fr 1), .tm, none⟩,
    ⟨.mov (.fr 1), .tm, none⟩,
    ⟨.slsl 1 (.tm 2) none (some (.tm 1)) (some (.tm 0)), .tm, none⟩,
    ⟨.mov (.tm 0), .fr 3, none⟩]) <|
    .seq (.reg [
    ⟨.mov (.fr 0), .tm, none⟩,
    ⟨.mov (.fr 0), .tm, none⟩,
    ⟨.nilck (.tm 0), .tm, none⟩,
    ⟨.faddr 0 (.tm 0), .tm, none⟩,
    ⟨.load1 (.tm 0), .tm, none⟩,
    ⟨.mov (.fr 1), .tm, none⟩,
    ⟨.slsl 1 (.tm 1) (some (.tm 0)) none none, .tm, none⟩,
    ⟨.nilck (.tm 6), .tm, none⟩,
    ⟨.faddr 0 (.tm 0), .tm, none⟩,
    ⟨.store1 (.tm 0) (.tm 2), .no, none⟩]) <|
    .seq (.reg [
    ⟨.mov (.fr 3), .tm, none⟩,
    ⟨.mov (.tm 0), .fr 2, none⟩]) <|
    .ret, [.t 2]⟩
/-- (*semaphore/fields.Writer).put ; args 2 ; slots [0, 1, 4, 5, 6, 8, 18] -/
def f33 : AFunc := ⟨[0, 1, 4, 5, 6, 8, 18],
  .seq (.seq (.reg [
    ⟨.mov (.fr 0), .tm, none⟩,
    ⟨.eqv 1 false (.tm 0) (.c (.pointer none)), .fr 5, none⟩]) <|
    .cond (.fr 5)
      (.ret)
      (.skip)) <|
    .seq (.reg [
    ⟨.mov (.fr 1), .tm, none⟩,
    ⟨.callf 35 [(.tm 0)], .tm, none⟩,
    ⟨.mov (.tm 0), .tm, none⟩,
    ⟨.extract (.tm 0) 0, .tm, none⟩,
    ⟨.extract (.tm 1) 1, .tm, none⟩,
    ⟨.mov (.tm 1), .fr 2, none⟩,
    ⟨.mov (.tm 0), .fr 3, none⟩]) <|
    .seq (.reg [
    ⟨.mov (.fr 3), .tm, none⟩,
    ⟨.bin .sub (.tm 0) (.c (.int .i64 1)), .tm, none⟩,
    ⟨.bin .mul (.c (.int .i64 8)) (.tm 0), .tm, none⟩,
    ⟨.mov (.tm 0), .fr 4, none⟩]) <|
    .block 0 (.loop (.seq (.seq (.reg [
        ⟨.mov (.fr 4), .tm, none⟩,
        ⟨.bin .geq (.tm 0) (.c (.int .i64 0)), .fr 6, none⟩]) <|
        .cond (.fr 6)
          (.skip)
          (.exit 0)) <|
        .seq (.block 1 (.dreg [
          (⟨.mov (.fr 0), .tm, none⟩, []),
          (⟨.mov (.fr 0), .tm, none⟩, []),
          (⟨.nilck (.tm 0), .tm, none⟩, []),
          (⟨.faddr 0 (.tm 0), .tm, none⟩, []),
          (⟨.load1 (.tm 0), .tm, none⟩, []),
          (⟨.mov (.fr 2), .tm, none⟩, []),
          (⟨.mov (.fr 4), .tm, none⟩, []),
          (⟨.bin .shr (.tm 1) (.tm 0), .tm, none⟩, []),
          (⟨.i2i .u8 (.tm 0), .tm, none⟩, []),
          (⟨.bslice 5 1 1 [(.int .u8 0)] [(0, 1, (.tm 0))], .tm, none⟩, []),
          (⟨.app 5 1 1 (.tm 5) (.tm 0), .tm, none⟩, []),
          (⟨.nilck (.tm 10), .tm, none⟩, []),
          (⟨.faddr 0 (.tm 0), .tm, none⟩, []),
          (⟨.store1 (.tm 0) (.tm 2), .no, none⟩, [])])) <|
        .reg [
        ⟨.mov (.fr 4), .tm, none⟩,
        ⟨.bin .sub (.tm 0) (.c (.int .i64 8)), .tm, none⟩,
        ⟨.mov (.tm 0), .fr 4, none⟩])), []⟩
/-- (*semaphore/fields.Reader).number ; args 2 ; slots [0, 1, 4] -/
def f34 : AFunc := ⟨[0, 1, 4],
  .seq (.reg [
    ⟨.mov (.c .nilIface), .fr 2, none⟩]) <|
    .seq (.reg [
    ⟨.mov (.fr 0), .tm, none⟩,
    ⟨.mov (.fr 1), .tm, none⟩,
    ⟨.callf 32 [(.tm 1), (.tm 0)], .tm, none⟩,
    ⟨.mov (.fr 1), .tm, none⟩,
    ⟨.callf 36 [(.tm 1), (.tm 0)], .tm, none⟩,
    ⟨.mov (.tm 0), .fr 2, none⟩]) <|
    .ret, [.t 2]⟩
/-- semaphore/fields.split ; args 1 ; slots [0, 2, 3, 4, 5, 6, 7, 8, 9, 15, 23, 31] -/
def f35 : AFunc := ⟨[0, 2, 3, 4, 5, 6, 7, 8, 9, 15, 23, 31],
  .seq (.reg [
    ⟨.mov (.c (.int .u64 0)), .fr 1, none⟩,
    ⟨.mov (.c (.int .i64 0)), .fr 2, none⟩]) <|
    .seq (.seq (.reg [
    ⟨.mov (.fr 0), .tm, none⟩,
    ⟨.assert 5 (.int .u8 0) true (.tm 0), .tm, none⟩,
    ⟨.mov (.tm 0), .tm, none⟩,
    ⟨.extract (.tm 0) 0, .tm, none⟩,
    ⟨.extract (.tm 1) 1, .tm, none⟩,
    ⟨.mov (.tm 1), .fr 3, none⟩,
    ⟨.mov (.tm 0), .fr 4, none⟩]) <|
    .seq (.reg [
    ⟨.mov (.fr 4), .fr 9, none⟩]) <|
    .cond (.fr 9)
      (.seq (.reg [
      ⟨.mov (.fr 3), .tm, none⟩,
      ⟨.i2i .u64 (.tm 0), .tm, none⟩,
      ⟨.mov (.tm 0), .fr 1, none⟩,
      ⟨.mov (.c (.int .i64 1)), .fr 2, none⟩]) <|
      .ret)
      (.skip)) <|
    .seq (.seq (.reg [
    ⟨.mov (.fr 0), .tm, none⟩,
    ⟨.assert 54 (.int .u16 0) true (.tm 0), .tm, none⟩,
    ⟨.mov (.tm 0), .tm, none⟩,
    ⟨.extract (.tm 0) 0, .tm, none⟩,
    ⟨.extract (.tm 1) 1, .tm, none⟩,
    ⟨.mov (.tm 1), .fr 5, none⟩,
    ⟨.mov (.tm 0), .fr 6, none⟩]) <|
    .seq (.reg [
    ⟨.mov (.fr 6), .fr 10, none⟩]) <|
    .cond (.fr 10)
      (.seq (.reg [
      ⟨.mov (.fr 5), .tm, none⟩,
      ⟨.i2i .u64 (.tm 0), .tm, none⟩,
      ⟨.mov (.tm 0), .fr 1, none⟩,
      ⟨.mov (.c (.int .i64 2)), .fr 2, none⟩]) <|
      .ret)
      (.skip)) <|
    .seq (.seq (.reg [
    ⟨.mov (.fr 0), .tm, none⟩,
    ⟨.assert 56 (.int .u32 0) true (.tm 0), .tm, none⟩,
    ⟨.mov (.tm 0), .tm, none⟩,
    ⟨.extract (.tm 0) 0, .tm, none⟩,
    ⟨.extract (.tm 1) 1, .tm, none⟩,
    ⟨.mov (.tm 1), .fr 7, none⟩,
    ⟨.mov (.tm 0), .fr 8, none⟩]) <|
    .seq (.reg [
    ⟨.mov (.fr 8), .fr 11, none⟩]) <|
    .cond (.fr 11)
      (.seq (.reg [
      ⟨.mov (.fr 7), .tm, none⟩,
      ⟨.i2i .u64 (.tm 0), .tm, none⟩,
      ⟨.mov (.tm 0), .fr 1, none⟩,
      ⟨.mov (.c (.int .i64 4)), .fr 2, none⟩]) <|
      .ret)
      (.skip)) <|
    .seq (.reg [
    ⟨.mov (.fr 0), .tm, none⟩,
    ⟨.assert 28 (.int .u64 0) false (.tm 0), .tm, none⟩,
    ⟨.mov (.tm 0), .fr 1, none⟩,
    ⟨.mov (.c (.int .i64 8)), .fr 2, none⟩]) <|
    .ret, [.t 1, .t 2]⟩
/-- semaphore/fields.joined ; args 2 ; slots [0, 1, 4, 5, 7, 8, 9, 10, 11, 20, 21, 26, 31] -/
def f36 : AFunc := ⟨[0, 1, 4, 5, 7, 8, 9, 10, 11, 20, 21, 26, 31],
  .seq (.reg [
    ⟨.mov (.c .nilIface), .fr 2, none⟩]) <|
    .seq (.reg [
    ⟨.mov (.c (.int .u64 0)), .fr 3, none⟩]) <|
    .seq (.seq (.reg [
    ⟨.mov (.fr 0), .fr 5, none⟩,
    ⟨.len false (.fr 5), .fr 6, none⟩,
    ⟨.mov (.c (.int .i64 0)), .fr 7, none⟩]) <|
    .block 0 (.loop (.seq (.reg [
        ⟨.bin .lss (.fr 7) (.fr 6), .fr 8, none⟩]) <|
        .seq (.cond (.fr 8)
          (.skip)
          (.exit 0)) <|
        .seq (.block 1 (.seq (.reg [
          ⟨.iaddr 1 (.fr 5) (.fr 7), .tm, none⟩,
          ⟨.load1 (.tm 0), .tm, none⟩,
          ⟨.mov (.tm 0), .fr 4, none⟩]) <|
          .reg [
          ⟨.mov (.fr 3), .tm, none⟩,
          ⟨.bin .shl (.tm 0) (.c (.int .u64 8)), .tm, none⟩,
          ⟨.mov (.fr 4), .tm, none⟩,
          ⟨.i2i .u64 (.tm 0), .tm, none⟩,
          ⟨.bin .or (.tm 2) (.tm 0), .tm, none⟩,
          ⟨.mov (.tm 0), .fr 3, none⟩])) <|
        .reg [
        ⟨.bin .add (.fr 7) (.c (.int .i64 1)), .tm, none⟩,
        ⟨.mov (.tm 0), .fr 7, none⟩]))) <|
    .seq (.seq (.reg [
    ⟨.mov (.fr 1), .fr 9, none⟩]) <|
    .block 2 (.seq (.reg [
      ⟨.bin .eql (.fr 9) (.c (.int .i64 1)), .tm, none⟩,
      ⟨.mov (.tm 0), .fr 10, none⟩]) <|
      .cond (.fr 10)
        (.seq (.reg [
        ⟨.mov (.fr 3), .tm, none⟩,
        ⟨.i2i .u8 (.tm 0), .tm, none⟩,
        ⟨.iface 5 (.tm 0), .tm, none⟩,
        ⟨.mov (.tm 0), .fr 2, none⟩]) <|
        .ret)
        (.seq (.reg [
        ⟨.bin .eql (.fr 9) (.c (.int .i64 2)), .tm, none⟩,
        ⟨.mov (.tm 0), .fr 11, none⟩]) <|
        .cond (.fr 11)
          (.seq (.reg [
          ⟨.mov (.fr 3), .tm, none⟩,
          ⟨.i2i .u16 (.tm 0), .tm, none⟩,
          ⟨.iface 54 (.tm 0), .tm, none⟩,
          ⟨.mov (.tm 0), .fr 2, none⟩]) <|
          .ret)
          (.seq (.reg [
          ⟨.bin .eql (.fr 9) (.c (.int .i64 4)), .tm, none⟩,
          ⟨.mov (.tm 0), .fr 12, none⟩]) <|
          .cond (.fr 12)
            (.seq (.reg [
            ⟨.mov (.fr 3), .tm, none⟩,
            ⟨.i2i .u32 (.tm 0), .tm, none⟩,
            ⟨.iface 56 (.tm 0), .tm, none⟩,
            ⟨.mov (.tm 0), .fr 2, none⟩]) <|
            .ret)
            (.skip))))) <|
    .seq (.reg [
    ⟨.mov (.fr 3), .tm, none⟩,
    ⟨.iface 28 (.tm 0), .tm, none⟩,
    ⟨.mov (.tm 0), .fr 2, none⟩]) <|
    .ret, [.t 2]⟩
theorem f3_ok : compF Go.Proofs.Try.prog 0 [0, 2, 3, 4, 5, 6, 7, 8, 9, 11, 16, 41, 59, 63] 3 = some f3 := by kernel_rfl
theorem f3_n : argsOK Go.Proofs.Try.prog 3 1 = true := by kernel_rfl
theorem f4_ok : compF Go.Proofs.Try.prog 0 [0, 1, 2, 6, 7, 8, 9, 10, 11, 12, 13, 14] 4 = some f4 := by kernel_rfl
theorem f4_n : argsOK Go.Proofs.Try.prog 4 3 = true := by kernel_rfl
theorem f5_ok : compF Go.Proofs.Try.prog 0 [0, 1, 4, 5, 6, 7, 8, 9, 10, 11, 12, 13, 14, 15, 23, 36, 51, 82, 85, 114] 5 = some f5 := by kernel_rfl
theorem f5_n : argsOK Go.Proofs.Try.prog 5 2 = true := by kernel_rfl
theorem f6_ok : compF Go.Proofs.Try.prog 0 [0, 1, 4, 5, 6, 7, 8, 9, 10, 11, 18, 23, 38, 48, 63, 68, 73] 6 = some f6 := by kernel_rfl
theorem f6_n : argsOK Go.Proofs.Try.prog 6 2 = true := by kernel_rfl
theorem f7_ok : compF Go.Proofs.Try.prog 0 [0, 1, 2, 3, 4, 5, 6, 58, 65, 98] 7 = some f7 := by kernel_rfl
theorem f7_n : argsOK Go.Proofs.Try.prog 7 0 = true := by kernel_rfl
theorem f8_ok : compF Go.Proofs.Try.prog 0 [0, 2, 3, 4, 7, 11, 22] 8 = some f8 := by kernel_rfl
theorem f8_n : argsOK Go.Proofs.Try.prog 8 1 = true := by kernel_rfl
theorem f9_ok : compF Go.Proofs.Try.prog 0 [0, 1, 2] 9 = some f9 := by kernel_rfl
theorem f9_n : argsOK Go.Proofs.Try.prog 9 0 = true := by kernel_rfl
theorem f10_ok : compF Go.Proofs.Try.prog 0 [0, 1, 3, 6, 11, 18, 25, 32] 10 = some f10 := by kernel_rfl
theorem f10_n : argsOK Go.Proofs.Try.prog 10 2 = true := by kernel_rfl
theorem f11_ok : compF Go.Proofs.Try.prog 0 [0, 1, 2, 6] 11 = some f11 := by kernel_rfl
theorem f11_n : argsOK Go.Proofs.Try.prog 11 1 = true := by kernel_rfl
theorem f12_ok : compF Go.Proofs.Try.prog 0 [0, 2, 4] 12 = some f12 := by kernel_rfl
theorem f12_n : argsOK Go.Proofs.Try.prog 12 1 = true := by kernel_rfl
theorem f13_ok : compF Go.Proofs.Try.prog 0 [0, 2, 3, 4, 8] 13 = some f13 := by kernel_rfl
theorem f13_n : argsOK Go.Proofs.Try.prog 13 1 = true := by kernel_rfl
theorem f14_ok : compF Go.Proofs.Try.prog 0 [0, 2] 14 = some f14 := by kernel_rfl
theorem f14_n : argsOK Go.Proofs.Try.prog 14 1 = true := by kernel_rfl
theorem f15_ok : compF Go.Proofs.Try.prog 0 [0, 2] 15 = some f15 := by kernel_rfl
theorem f15_n : argsOK Go.Proofs.Try.prog 15 1 = true := by kernel_rfl
theorem f16_ok : compF Go.Proofs.Try.prog 0 [0, 1, 4, 5, 6, 23] 16 = some f16 := by kernel_rfl
theorem f16_n : argsOK Go.Proofs.Try.prog 16 2 = true := by kernel_rfl
theorem f17_ok : compF Go.Proofs.Try.prog 0 [0, 1, 3, 4, 5, 6, 7, 8, 11, 12, 17, 22, 27, 41] 17 = some f17 := by kernel_rfl
theorem f17_n : argsOK Go.Proofs.Try.prog 17 2 = true := by kernel_rfl
theorem f18_ok : compF Go.Proofs.Try.prog 0 [0, 2] 18 = some f18 := by kernel_rfl
theorem f18_n : argsOK Go.Proofs.Try.prog 18 1 = true := by kernel_rfl
theorem f19_ok : compF Go.Proofs.Try.prog 0 [0, 2, 4] 19 = some f19 := by kernel_rfl
theorem f19_n : argsOK Go.Proofs.Try.prog 19 1 = true := by kernel_rfl
theorem f20_ok : compF Go.Proofs.Try.prog 0 [0, 1, 5] 20 = some f20 := by kernel_rfl
theorem f20_n : argsOK Go.Proofs.Try.prog 20 2 = true := by kernel_rfl
theorem f21_ok : compF Go.Proofs.Try.prog 0 [0, 1, 4] 21 = some f21 := by kernel_rfl
theorem f21_n : argsOK Go.Proofs.Try.prog 21 2 = true := by kernel_rfl
theorem f22_ok : compF Go.Proofs.Try.prog 0 [0, 1] 22 = some f22 := by kernel_rfl
theorem f22_n : argsOK Go.Proofs.Try.prog 22 2 = true := by kernel_rfl
theorem f23_ok : compF Go.Proofs.Try.prog 0 [0, 1] 23 = some f23 := by kernel_rfl
theorem f23_n : argsOK Go.Proofs.Try.prog 23 2 = true := by kernel_rfl
theorem f24_ok : compF Go.Proofs.Try.prog 0 [0, 1] 24 = some f24 := by kernel_rfl
theorem f24_n : argsOK Go.Proofs.Try.prog 24 2 = true := by kernel_rfl
theorem f25_ok : compF Go.Proofs.Try.prog 0 [0, 1] 25 = some f25 := by kernel_rfl
theorem f25_n : argsOK Go.Proofs.Try.prog 25 2 = true := by kernel_rfl
theorem f26_ok : compF Go.Proofs.Try.prog 0 [0, 2] 26 = some f26 := by kernel_rfl
theorem f26_n : argsOK Go.Proofs.Try.prog 26 1 = true := by kernel_rfl
theorem f27_ok : compF Go.Proofs.Try.prog 0 [0, 2] 27 = some f27 := by kernel_rfl
theorem f27_n : argsOK Go.Proofs.Try.prog 27 1 = true := by kernel_rfl
theorem f28_ok : compF Go.Proofs.Try.prog 0 [0, 2] 28 = some f28 := by kernel_rfl
theorem f28_n : argsOK Go.Proofs.Try.prog 28 1 = true := by kernel_rfl
theorem f29_ok : compF Go.Proofs.Try.prog 0 [0, 2] 29 = some f29 := by kernel_rfl
theorem f29_n : argsOK Go.Proofs.Try.prog 29 1 = true := by kernel_rfl
theorem f30_ok : compF Go.Proofs.Try.prog 0 [0, 1, 4, 5, 6, 10] 30 = some f30 := by kernel_rfl
theorem f30_n : argsOK Go.Proofs.Try.prog 30 2 = true := by kernel_rfl
theorem f31_ok : compF Go.Proofs.Try.prog 0 [0, 2, 4] 31 = some f31 := by kernel_rfl
theorem f31_n : argsOK Go.Proofs.Try.prog 31 1 = true := by kernel_rfl
theorem f32_ok : compF Go.Proofs.Try.prog 0 [0, 1, 4, 5, 6, 9] 32 = some f32 := by kernel_rfl
theorem f32_n : argsOK Go.Proofs.Try.prog 32 2 = true := by kernel_rfl
theorem f33_ok : compF Go.Proofs.Try.prog 0 [0, 1, 4, 5, 6, 8, 18] 33 = some f33 := by kernel_rfl
theorem f33_n : argsOK Go.Proofs.Try.prog 33 2 = true := by kernel_rfl
theorem f34_ok : compF Go.Proofs.Try.prog 0 [0, 1, 4] 34 = some f34 := by kernel_rfl
theorem f34_n : argsOK Go.Proofs.Try.prog 34 2 = true := by kernel_rfl
theorem f35_ok : compF Go.Proofs.Try.prog 0 [0, 2, 3, 4, 5, 6, 7, 8, 9, 15, 23, 31] 35 = some f35 := by kernel_rfl
theorem f35_n : argsOK Go.Proofs.Try.prog 35 1 = true := by kernel_rfl
theorem f36_ok : compF Go.Proofs.Try.prog 0 [0, 1, 4, 5, 7, 8, 9, 10, 11, 20, 21, 26, 31] 36 = some f36 := by kernel_rfl
theorem f36_n : argsOK Go.Proofs.Try.prog 36 2 = true := by kernel_rfl
end Go.AM.Fd
