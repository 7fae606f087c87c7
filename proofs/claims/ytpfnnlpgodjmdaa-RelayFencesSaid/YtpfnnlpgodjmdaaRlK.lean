/- Part of the proof: RlK. -/
import Derived.Test.YtpfnnlpgodjmdaaRlJ
set_option linter.unusedSimpArgs false
set_option linter.unusedVariables false
set_option maxRecDepth 100000
namespace Go.AM.Rl
open Go.Proofs
def p4_0 : ACode := (.seq (.reg [
          ⟨.faddr 0 (.fr 12), .tm, none⟩,
          ⟨.load1 (.tm 0), .tm, none⟩,
          ⟨.bin .rem (.tm 0) (.c (.int .u8 8)), .fr 21, none⟩]) <|
          .block 2 (.seq (.reg [
            ⟨.bin .eql (.fr 21) (.c (.int .u8 3)), .tm, none⟩,
            ⟨.mov (.tm 0), .fr 22, none⟩]) <|
            .cond (.fr 22)
              (.reg [
              ⟨.mov (.fr 3), .tm, none⟩,
              ⟨.faddr 1 (.fr 12), .tm, none⟩,
              ⟨.load1 (.tm 0), .tm, none⟩,
              ⟨.faddr 2 (.fr 12), .tm, none⟩,
              ⟨.faddr 2 (.tm 0), .tm, none⟩,
              ⟨.load1 (.tm 0), .tm, none⟩,
              ⟨.callf 11 [(.tm 5), (.tm 3), (.tm 0)], .tm, none⟩])
              (.seq (.reg [
              ⟨.bin .eql (.fr 21) (.c (.int .u8 4)), .tm, none⟩,
              ⟨.mov (.tm 0), .fr 23, none⟩]) <|
              .cond (.fr 23)
                (.seq (.reg [
                ⟨.mov (.fr 3), .tm, none⟩,
                ⟨.faddr 1 (.fr 12), .tm, none⟩,
                ⟨.load1 (.tm 0), .tm, none⟩,
                ⟨.faddr 2 (.fr 12), .tm, none⟩,
                ⟨.faddr 2 (.tm 0), .tm, none⟩,
                ⟨.load1 (.tm 0), .tm, none⟩,
                ⟨.callf 12 [(.tm 5), (.tm 3), (.tm 0)], .tm, none⟩,
                ⟨.bin .eql (.tm 0) (.c (.int .i64 0)), .fr 24, none⟩]) <|
                .cond (.fr 24)
                  (.reg [
                  ⟨.mov (.c (.bool false)), .fr 10, none⟩])
                  (.skip))
                (.seq (.seq (.reg [
                ⟨.bin .eql (.fr 21) (.c (.int .u8 5)), .tm, none⟩,
                ⟨.mov (.tm 0), .fr 25, none⟩]) <|
                .cond (.fr 25)
                  (.skip)
                  (.reg [
                  ⟨.bin .eql (.fr 21) (.c (.int .u8 6)), .tm, none⟩,
                  ⟨.mov (.tm 0), .fr 25, none⟩])) <|
                .cond (.fr 25)
                  (.seq (.reg [
                  ⟨.mov (.fr 3), .tm, none⟩,
                  ⟨.callf 13 [(.tm 0)], .tm, none⟩]) <|
                  .reg [
                  ⟨.mov (.fr 7), .tm, none⟩,
                  ⟨.bin .add (.tm 0) (.c (.int .i64 1)), .tm, none⟩,
                  ⟨.mov (.tm 0), .fr 7, none⟩])
                  (.seq (.reg [
                  ⟨.bin .eql (.fr 21) (.c (.int .u8 7)), .tm, none⟩,
                  ⟨.mov (.tm 0), .fr 26, none⟩]) <|
                  .cond (.fr 26)
                    (.seq (.reg [
                    ⟨.mov (.fr 3), .tm, none⟩,
                    ⟨.callf 14 [(.tm 0)], .tm, none⟩,
                    ⟨.bin .eql (.tm 0) (.c (.int .i64 0)), .fr 27, none⟩]) <|
                    .cond (.fr 27)
                      (.seq (.reg [
                      ⟨.mov (.c (.bool true)), .fr 10, none⟩]) <|
                      .seq (.reg [
                      ⟨.mov (.c (.int .i64 0)), .fr 7, none⟩]) <|
                      .reg [
                      ⟨.faddr 1 (.fr 9), .tm, none⟩,
                      ⟨.load1 (.tm 0), .tm, none⟩,
                      ⟨.build [(.int .u64 0), (.int .u32 0)] [(1, 1, (.tm 0))], .tm, none⟩,
                      ⟨.storen 2 (.fr 9) (.tm 0), .no, none⟩])
                      (.skip))
                    (.reg [
                    ⟨.mov (.fr 3), .tm, none⟩,
                    ⟨.faddr 1 (.fr 12), .tm, none⟩,
                    ⟨.load1 (.tm 0), .tm, none⟩,
                    ⟨.faddr 2 (.fr 12), .tm, none⟩,
                    ⟨.loadn 5 (.tm 0), .tm, none⟩,
                    ⟨.faddr 7 (.fr 12), .tm, none⟩,
                    ⟨.loadn 68 (.tm 0), .tm, none⟩,
                    ⟨.callf 15 [(.tm 6), (.tm 4), (.tm 2), (.tm 0)], .tm, none⟩,
                    ⟨.mov (.tm 0), .fr 13, none⟩]))))))
def p4_1 : ACode := (.seq (.reg [
          ⟨.mov (.fr 3), .tm, none⟩,
          ⟨.callf 16 [(.tm 0)], .tm, none⟩,
          ⟨.mov (.fr 5), .tm, none⟩,
          ⟨.bin .lss (.tm 1) (.tm 0), .tm, none⟩,
          ⟨.mov (.tm 0), .tm, none⟩,
          ⟨.mov (.fr 3), .tm, some ((.tm 0), false)⟩,
          ⟨.callf 16 [(.tm 0)], .tm, some ((.tm 1), false)⟩,
          ⟨.mov (.fr 5), .tm, some ((.tm 2), false)⟩,
          ⟨.bin .eql (.tm 1) (.tm 0), .tm, some ((.tm 3), false)⟩,
          ⟨.mov (.tm 0), .tm, some ((.tm 4), false)⟩,
          ⟨.mov (.fr 5), .tm, some ((.tm 0), true)⟩,
          ⟨.bin .gtr (.tm 0) (.c (.int .i64 0)), .tm, some ((.tm 1), true)⟩,
          ⟨.pick (.tm 2) (.tm 0) (.c (.bool false)), .tm, some ((.tm 7), false)⟩,
          ⟨.mov (.tm 0), .tm, some ((.tm 8), false)⟩,
          ⟨.mov (.fr 3), .tm, some ((.tm 0), true)⟩,
          ⟨.callf 17 [(.tm 0)], .tm, some ((.tm 1), true)⟩,
          ⟨.mov (.fr 8), .tm, some ((.tm 2), true)⟩,
          ⟨.bin .neq (.tm 1) (.tm 0), .tm, some ((.tm 3), true)⟩,
          ⟨.pick (.tm 4) (.tm 0) (.c (.bool false)), .tm, some ((.tm 13), false)⟩,
          ⟨.pick (.tm 14) (.c (.bool true)) (.tm 0), .fr 28, none⟩]) <|
          .cond (.fr 28)
            (.seq (.reg [
            ⟨.mov (.c (.bool false)), .fr 2, none⟩]) <|
            .ret)
            (.skip))
def p4_2 : ACode := (.seq (.reg [
          ⟨.mov (.fr 3), .tm, none⟩,
          ⟨.callf 16 [(.tm 0)], .tm, none⟩,
          ⟨.mov (.fr 5), .tm, none⟩,
          ⟨.bin .gtr (.tm 1) (.tm 0), .fr 29, none⟩]) <|
          .cond (.fr 29)
            (.reg [
            ⟨.mov (.c (.int .i64 (-1))), .fr 6, none⟩])
            (.skip))
def p4_3 : ACode := (.reg [
          ⟨.mov (.fr 3), .tm, none⟩,
          ⟨.callf 16 [(.tm 0)], .tm, none⟩,
          ⟨.mov (.fr 3), .tm, none⟩,
          ⟨.callf 17 [(.tm 0)], .tm, none⟩,
          ⟨.mov (.tm 2), .fr 5, none⟩,
          ⟨.mov (.tm 0), .fr 8, none⟩])
def p4_4 : ACode := (.seq (.reg [
          ⟨.mov (.fr 13), .tm, none⟩,
          ⟨.bin .eql (.tm 0) (.c (.int .i64 0)), .fr 30, none⟩]) <|
          .cond (.fr 30)
            (.seq (.seq (.reg [
            ⟨.faddr 2 (.fr 12), .tm, none⟩,
            ⟨.faddr 2 (.tm 0), .tm, none⟩,
            ⟨.load1 (.tm 0), .tm, none⟩,
            ⟨.mov (.fr 5), .tm, none⟩,
            ⟨.bin .neq (.tm 1) (.tm 0), .tm, none⟩,
            ⟨.mov (.tm 0), .tm, none⟩,
            ⟨.faddr 1 (.fr 12), .tm, some ((.tm 0), false)⟩,
            ⟨.load1 (.tm 0), .tm, some ((.tm 1), false)⟩,
            ⟨.mov (.fr 8), .tm, some ((.tm 2), false)⟩,
            ⟨.bin .neq (.tm 1) (.tm 0), .tm, some ((.tm 3), false)⟩,
            ⟨.pick (.tm 4) (.c (.bool true)) (.tm 0), .tm, none⟩,
            ⟨.mov (.tm 0), .tm, none⟩,
            ⟨.faddr 2 (.fr 12), .tm, some ((.tm 0), false)⟩,
            ⟨.faddr 1 (.tm 0), .tm, some ((.tm 1), false)⟩,
            ⟨.load1 (.tm 0), .tm, some ((.tm 2), false)⟩,
            ⟨.mov (.fr 6), .tm, some ((.tm 3), false)⟩,
            ⟨.bin .leq (.tm 1) (.tm 0), .tm, some ((.tm 4), false)⟩,
            ⟨.pick (.tm 5) (.c (.bool true)) (.tm 0), .tm, none⟩,
            ⟨.mov (.tm 0), .tm, none⟩,
            ⟨.mov (.fr 10), .tm, some ((.tm 0), false)⟩,
            ⟨.un .not (.tm 0), .tm, some ((.tm 1), false)⟩,
            ⟨.pick (.tm 2) (.c (.bool true)) (.tm 0), .fr 31, none⟩]) <|
            .cond (.fr 31)
              (.seq (.reg [
              ⟨.mov (.c (.bool false)), .fr 2, none⟩]) <|
              .ret)
              (.skip)) <|
            .seq (.reg [
            ⟨.faddr 2 (.fr 12), .tm, none⟩,
            ⟨.faddr 1 (.tm 0), .tm, none⟩,
            ⟨.load1 (.tm 0), .tm, none⟩,
            ⟨.mov (.tm 0), .fr 6, none⟩]) <|
            .seq (.reg [
            ⟨.faddr 2 (.fr 12), .tm, none⟩,
            ⟨.faddr 3 (.tm 0), .tm, none⟩,
            ⟨.loadn 2 (.tm 0), .tm, none⟩,
            ⟨.storen 2 (.fr 9) (.tm 0), .no, none⟩]) <|
            .reg [
            ⟨.mov (.c (.int .i64 0)), .fr 7, none⟩])
            (.skip))
def p4_5 : ACode := (.reg [
          ⟨.mov (.fr 3), .tm, none⟩,
          ⟨.callf 18 [(.tm 0)], .tm, none⟩,
          ⟨.mov (.tm 0), .tm, none⟩,
          ⟨.extract (.tm 0) 0, .tm, none⟩,
          ⟨.extract (.tm 1) 1, .tm, none⟩,
          ⟨.new 50 70 Z70, .fr 14, none⟩,
          ⟨.storen 70 (.fr 14) (.tm 1), .no, none⟩,
          ⟨.mov (.tm 0), .fr 15, none⟩])
def p4_6 : ACode := (.seq (.reg [
          ⟨.mov (.fr 13), .tm, none⟩,
          ⟨.bin .eql (.tm 0) (.c (.int .i64 0)), .tm, none⟩,
          ⟨.mov (.tm 0), .tm, none⟩,
          ⟨.mov (.fr 15), .tm, some ((.tm 0), true)⟩,
          ⟨.un .not (.tm 0), .tm, some ((.tm 1), true)⟩,
          ⟨.mov (.tm 0), .tm, some ((.tm 2), true)⟩,
          ⟨.faddr 2 (.fr 14), .tm, some ((.tm 0), false)⟩,
          ⟨.loadn 68 (.tm 0), .tm, some ((.tm 1), false)⟩,
          ⟨.faddr 7 (.fr 12), .tm, some ((.tm 2), false)⟩,
          ⟨.loadn 68 (.tm 0), .tm, some ((.tm 3), false)⟩,
          ⟨.eqs O68 true (.tm 2) (.tm 0), .tm, some ((.tm 4), false)⟩,
          ⟨.pick (.tm 5) (.c (.bool true)) (.tm 0), .tm, some ((.tm 8), true)⟩,
          ⟨.mov (.tm 0), .tm, some ((.tm 9), true)⟩,
          ⟨.faddr 1 (.fr 14), .tm, some ((.tm 0), false)⟩,
          ⟨.load1 (.tm 0), .tm, some ((.tm 1), false)⟩,
          ⟨.mov (.fr 6), .tm, some ((.tm 2), false)⟩,
          ⟨.bin .neq (.tm 1) (.tm 0), .tm, some ((.tm 3), false)⟩,
          ⟨.pick (.tm 4) (.c (.bool true)) (.tm 0), .tm, some ((.tm 14), true)⟩,
          ⟨.pick (.tm 15) (.tm 0) (.c (.bool false)), .fr 32, none⟩]) <|
          .cond (.fr 32)
            (.seq (.reg [
            ⟨.mov (.c (.bool false)), .fr 2, none⟩]) <|
            .ret)
            (.skip))
def p4_7 : ACode := (.reg [
          ⟨.mov (.fr 3), .tm, none⟩,
          ⟨.callf 19 [(.tm 0)], .tm, none⟩,
          ⟨.mov (.tm 0), .tm, none⟩,
          ⟨.extract (.tm 0) 0, .tm, none⟩,
          ⟨.extract (.tm 1) 1, .tm, none⟩,
          ⟨.new 35 2 [(.int .u64 0), (.int .u32 0)], .fr 16, none⟩,
          ⟨.storen 2 (.fr 16) (.tm 1), .no, none⟩,
          ⟨.mov (.tm 0), .fr 17, none⟩])
def p4_8 : ACode := (.seq (.reg [
          ⟨.faddr 0 (.fr 16), .tm, none⟩,
          ⟨.load1 (.tm 0), .tm, none⟩,
          ⟨.faddr 2 (.fr 14), .tm, none⟩,
          ⟨.faddr 0 (.tm 0), .tm, none⟩,
          ⟨.load1 (.tm 0), .tm, none⟩,
          ⟨.bin .andNot (.tm 3) (.tm 0), .tm, none⟩,
          ⟨.bin .neq (.tm 0) (.c (.int .u64 0)), .fr 33, none⟩]) <|
          .cond (.fr 33)
            (.seq (.reg [
            ⟨.mov (.c (.bool false)), .fr 2, none⟩]) <|
            .ret)
            (.skip))
def p4_9 : ACode := (.seq (.reg [
          ⟨.mov (.fr 17), .fr 34, none⟩]) <|
          .cond (.fr 34)
            (.reg [
            ⟨.mov (.c (.bool false)), .fr 10, none⟩])
            (.skip))
def p4_10 : ACode := .seq (.reg [
          ⟨.mov (.fr 17), .tm, none⟩,
          ⟨.mov (.tm 0), .tm, none⟩,
          ⟨.faddr 0 (.fr 16), .tm, some ((.tm 0), true)⟩,
          ⟨.load1 (.tm 0), .tm, some ((.tm 1), true)⟩,
          ⟨.bin .neq (.tm 0) (.c (.int .u64 0)), .tm, some ((.tm 2), true)⟩,
          ⟨.pick (.tm 3) (.tm 0) (.c (.bool false)), .tm, none⟩,
          ⟨.mov (.tm 0), .tm, none⟩,
          ⟨.mov (.fr 17), .tm, some ((.tm 0), false)⟩,
          ⟨.un .not (.tm 0), .tm, some ((.tm 1), false)⟩,
          ⟨.mov (.tm 0), .tm, some ((.tm 2), false)⟩,
          ⟨.loadn 2 (.fr 16), .tm, some ((.tm 0), true)⟩,
          ⟨.loadn 2 (.fr 9), .tm, some ((.tm 1), true)⟩,
          ⟨.eqs [1, 1] true (.tm 1) (.tm 0), .tm, some ((.tm 2), true)⟩,
          ⟨.mov (.tm 0), .tm, some ((.tm 3), true)⟩,
          ⟨.mov (.fr 7), .tm, some ((.tm 0), false)⟩,
          ⟨.mov (.fr 0), .tm, some ((.tm 1), false)⟩,
          ⟨.i2i .i64 (.tm 0), .tm, some ((.tm 2), false)⟩,
          ⟨.bin .add (.c (.int .i64 1)) (.tm 0), .tm, some ((.tm 3), false)⟩,
          ⟨.bin .gtr (.tm 3) (.tm 0), .tm, some ((.tm 4), false)⟩,
          ⟨.pick (.tm 5) (.c (.bool true)) (.tm 0), .tm, some ((.tm 9), true)⟩,
          ⟨.mov (.tm 0), .tm, some ((.tm 10), true)⟩,
          ⟨.mov (.fr 10), .tm, some ((.tm 0), false)⟩,
          ⟨.un .not (.tm 0), .tm, some ((.tm 1), false)⟩,
          ⟨.pick (.tm 2) (.c (.bool true)) (.tm 0), .tm, some ((.tm 13), true)⟩,
          ⟨.pick (.tm 14) (.tm 0) (.c (.bool false)), .tm, some ((.tm 17), false)⟩,
          ⟨.pick (.tm 18) (.c (.bool true)) (.tm 0), .fr 35, none⟩]) <|
          .cond (.fr 35)
            (.seq (.reg [
            ⟨.mov (.c (.bool false)), .fr 2, none⟩]) <|
            .ret)
            (.skip)
def f4x : AFunc := ⟨[0, 1, 4, 5, 6, 7, 8, 9, 10, 11, 12, 13, 14, 15, 16, 17, 18, 19, 22, 32, 36, 45, 54, 63, 72, 73, 80, 84, 107, 111, 117, 139, 169, 181, 182, 208],
  .seq (.reg [
    ⟨.mov (.c (.bool false)), .fr 2, none⟩]) <|
    .seq (.seq (.reg [
    ⟨.mov (.fr 1), .tm, none⟩,
    ⟨.len false (.tm 0), .tm, none⟩,
    ⟨.bin .gtr (.tm 0) (.c (.int .i64 300)), .fr 18, none⟩]) <|
    .cond (.fr 18)
      (.seq (.reg [
      ⟨.callf 6 [], .tm, none⟩,
      ⟨.mov (.tm 0), .fr 2, none⟩]) <|
      .ret)
      (.skip)) <|
    .seq (.reg [
    ⟨.mov (.fr 0), .tm, none⟩,
    ⟨.i2i .i64 (.tm 0), .tm, none⟩,
    ⟨.bin .add (.c (.int .i64 1)) (.tm 0), .tm, none⟩,
    ⟨.callf 7 [(.tm 0)], .tm, none⟩,
    ⟨.mov (.tm 0), .tm, none⟩,
    ⟨.extract (.tm 0) 0, .tm, none⟩,
    ⟨.extract (.tm 1) 1, .tm, none⟩,
    ⟨.mov (.tm 1), .fr 3, none⟩,
    ⟨.mov (.tm 0), .fr 4, none⟩]) <|
    .seq (.seq (.reg [
    ⟨.mov (.fr 4), .tm, none⟩,
    ⟨.bin .neq (.tm 0) (.c (.int .i64 0)), .fr 19, none⟩]) <|
    .cond (.fr 19)
      (.seq (.reg [
      ⟨.mov (.c (.bool false)), .fr 2, none⟩]) <|
      .ret)
      (.skip)) <|
    .seq (.reg [
    ⟨.mov (.c (.int .i64 0)), .fr 5, none⟩,
    ⟨.mov (.c (.int .i64 (-1))), .fr 6, none⟩,
    ⟨.mov (.c (.int .i64 0)), .fr 7, none⟩]) <|
    .seq (.reg [
    ⟨.mov (.c (.int .i64 (-1))), .fr 8, none⟩]) <|
    .seq (.reg [
    ⟨.new 35 2 [(.int .u64 0), (.int .u32 0)], .fr 9, none⟩]) <|
    .seq (.reg [
    ⟨.mov (.c (.bool false)), .fr 10, none⟩]) <|
    .seq (.seq (.reg [
    ⟨.mov (.c (.int .i64 0)), .fr 11, none⟩]) <|
    .block 0 (.loop (.seq (.seq (.reg [
        ⟨.mov (.fr 11), .tm, none⟩,
        ⟨.mov (.fr 1), .tm, none⟩,
        ⟨.len false (.tm 0), .tm, none⟩,
        ⟨.bin .lss (.tm 2) (.tm 0), .fr 20, none⟩]) <|
        .cond (.fr 20)
          (.skip)
          (.exit 0)) <|
        .seq (.block 1 (.seq (.reg [
          ⟨.mov (.fr 1), .tm, none⟩,
          ⟨.mov (.fr 11), .tm, none⟩,
          ⟨.iaddr 75 (.tm 1) (.tm 0), .tm, none⟩,
          ⟨.loadn 75 (.tm 0), .tm, none⟩,
          ⟨.new 42 75 Z75, .fr 12, none⟩,
          ⟨.storen 75 (.fr 12) (.tm 0), .no, none⟩]) <|
          .seq (.reg [
          ⟨.mov (.c (.int .i64 4)), .fr 13, none⟩]) <|
          .seq p4_0 <|
          .seq p4_1 <|
          .seq p4_2 <|
          .seq p4_3 <|
          .seq p4_4 <|
          .seq p4_5 <|
          .seq p4_6 <|
          .seq p4_7 <|
          .seq p4_8 <|
          .seq p4_9 <|
          p4_10)) <|
        .reg [
        ⟨.mov (.fr 11), .tm, none⟩,
        ⟨.bin .add (.tm 0) (.c (.int .i64 1)), .tm, none⟩,
        ⟨.mov (.tm 0), .fr 11, none⟩]))) <|
    .seq (.reg [
    ⟨.callf 6 [], .tm, none⟩,
    ⟨.mov (.tm 0), .fr 2, none⟩]) <|
    .ret, [.t 2]⟩

theorem f4_eq : f4 = f4x := rfl
end Go.AM.Rl
