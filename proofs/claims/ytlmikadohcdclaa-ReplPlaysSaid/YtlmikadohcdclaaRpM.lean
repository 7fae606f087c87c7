/- Part of the proof: RpM. -/
import Derived.Test.YtlmikadohcdclaaRpK
set_option linter.unusedSimpArgs false
set_option linter.unusedVariables false
set_option maxRecDepth 100000
namespace Go.AM.Rp
def O70 : List Nat := [1, 1, 1, 1, 1, 1, 1, 1, 1, 1, 1, 1, 1, 1, 1, 1, 1, 1, 1, 1, 1, 1, 1, 1, 1, 1, 1, 1, 1, 1, 1, 1, 1, 1, 1, 1, 1, 1, 1, 1, 1, 1, 1, 1, 1, 1, 1, 1, 1, 1, 1, 1, 1, 1, 1, 1, 1, 1, 1, 1, 1, 1, 1, 1, 1, 1, 1, 1, 1, 1]
def Z70 : List Value := [(.int .i64 0), (.int .i64 0), (.int .u64 0), (.int .u64 0), (.int .u64 0), (.int .u8 0), (.int .u8 0), (.int .u8 0), (.int .u8 0), (.int .u8 0), (.int .u8 0), (.int .u8 0), (.int .u8 0), (.int .u8 0), (.int .u8 0), (.int .u8 0), (.int .u8 0), (.int .u8 0), (.int .u8 0), (.int .u8 0), (.int .u8 0), (.int .u8 0), (.int .u8 0), (.int .u8 0), (.int .u8 0), (.int .u8 0), (.int .u8 0), (.int .u8 0), (.int .u8 0), (.int .u8 0), (.int .u8 0), (.int .u8 0), (.int .u8 0), (.int .u8 0), (.int .u8 0), (.int .u8 0), (.int .u8 0), (.int .u8 0), (.int .u8 0), (.int .u8 0), (.int .u8 0), (.int .u8 0), (.int .u8 0), (.int .u8 0), (.int .u8 0), (.int .u8 0), (.int .u8 0), (.int .u8 0), (.int .u8 0), (.int .u8 0), (.int .u8 0), (.int .u8 0), (.int .u8 0), (.int .u8 0), (.int .u8 0), (.int .u8 0), (.int .u8 0), (.int .u8 0), (.int .u8 0), (.int .u8 0), (.int .u8 0), (.int .u8 0), (.int .u8 0), (.int .u8 0), (.int .u8 0), (.int .u8 0), (.int .u8 0), (.int .u8 0), (.int .u8 0), (.int .u32 0)]
def Z71 : List Value := [(.int .i64 0), (.int .i64 0), (.int .u64 0), (.int .u64 0), (.int .u64 0), (.int .u8 0), (.int .u8 0), (.int .u8 0), (.int .u8 0), (.int .u8 0), (.int .u8 0), (.int .u8 0), (.int .u8 0), (.int .u8 0), (.int .u8 0), (.int .u8 0), (.int .u8 0), (.int .u8 0), (.int .u8 0), (.int .u8 0), (.int .u8 0), (.int .u8 0), (.int .u8 0), (.int .u8 0), (.int .u8 0), (.int .u8 0), (.int .u8 0), (.int .u8 0), (.int .u8 0), (.int .u8 0), (.int .u8 0), (.int .u8 0), (.int .u8 0), (.int .u8 0), (.int .u8 0), (.int .u8 0), (.int .u8 0), (.int .u8 0), (.int .u8 0), (.int .u8 0), (.int .u8 0), (.int .u8 0), (.int .u8 0), (.int .u8 0), (.int .u8 0), (.int .u8 0), (.int .u8 0), (.int .u8 0), (.int .u8 0), (.int .u8 0), (.int .u8 0), (.int .u8 0), (.int .u8 0), (.int .u8 0), (.int .u8 0), (.int .u8 0), (.int .u8 0), (.int .u8 0), (.int .u8 0), (.int .u8 0), (.int .u8 0), (.int .u8 0), (.int .u8 0), (.int .u8 0), (.int .u8 0), (.int .u8 0), (.int .u8 0), (.int .u8 0), (.int .u8 0), (.int .u32 0), (.bool false)]
/-- semaphore/semaphorelaw25.ReplFollows ; args 1 ; slots [0, 2, 3, 4, 5, 6, 7, 8, 9, 10, 11, 12, 13, 14, 16, 17, 18, 19, 20, 21, 22, 23, 25, 26, 27, 30, 36, 50, 53, 60, 68, 82, 87, 98, 103, 108, 123, 130, 136, 141, 146, 156, 163, 172, 186, 192, 195, 203, 216] -/
def f4 : AFunc := ⟨[0, 2, 3, 4, 5, 6, 7, 8, 9, 10, 11, 12, 13, 14, 16, 17, 18, 19, 20, 21, 22, 23, 25, 26, 27, 30, 36, 50, 53, 60, 68, 82, 87, 98, 103, 108, 123, 130, 136, 141, 146, 156, 163, 172, 186, 192, 195, 203, 216],
  .seq (.reg [
    ⟨.mov (.c (.bool false)), .fr 1, none⟩]) <|
    .seq (.seq (.reg [
    ⟨.mov (.fr 0), .tm, none⟩,
    ⟨.len false (.tm 0), .tm, none⟩,
    ⟨.bin .gtr (.tm 0) (.c (.int .i64 300)), .fr 25, none⟩]) <|
    .cond (.fr 25)
      (.seq (.reg [
      ⟨.callf 8 [], .tm, none⟩,
      ⟨.mov (.tm 0), .fr 1, none⟩]) <|
      .ret)
      (.skip)) <|
    .seq (.reg [
    ⟨.new 48 2 [(.slice none 0 0), (.int .i64 0)], .fr 2, none⟩]) <|
    .seq (.reg [
    ⟨.new 51 1 [(.pointer none)], .fr 3, none⟩]) <|
    .seq (.reg [
    ⟨.mov (.c (.slice none 0 0)), .fr 4, none⟩]) <|
    .seq (.reg [
    ⟨.mov (.c (.slice none 0 0)), .fr 5, none⟩,
    ⟨.mov (.c (.slice none 0 0)), .fr 6, none⟩]) <|
    .seq (.reg [
    ⟨.build Z70 [(0, 1, (.c (.int .i64 1)))], .tm, none⟩,
    ⟨.new 54 70 Z70, .fr 7, none⟩,
    ⟨.storen 70 (.fr 7) (.tm 0), .no, none⟩]) <|
    .seq (.reg [
    ⟨.mov (.c (.int .i64 (-1))), .fr 8, none⟩]) <|
    .seq (.seq (.reg [
    ⟨.mov (.c (.int .i64 0)), .fr 9, none⟩]) <|
    .block 0 (.loop (.seq (.seq (.reg [
        ⟨.mov (.fr 9), .tm, none⟩,
        ⟨.mov (.fr 0), .tm, none⟩,
        ⟨.len false (.tm 0), .tm, none⟩,
        ⟨.bin .lss (.tm 2) (.tm 0), .fr 26, none⟩]) <|
        .cond (.fr 26)
          (.skip)
          (.exit 0)) <|
        .seq (.block 1 (.seq (.reg [
          ⟨.mov (.fr 0), .tm, none⟩,
          ⟨.mov (.fr 9), .tm, none⟩,
          ⟨.iaddr 70 (.tm 1) (.tm 0), .tm, none⟩,
          ⟨.faddr 1 (.tm 0), .tm, none⟩,
          ⟨.load1 (.tm 0), .tm, none⟩,
          ⟨.i2i .i64 (.tm 0), .tm, none⟩,
          ⟨.mov (.tm 0), .fr 10, none⟩]) <|
          .seq (.seq (.reg [
          ⟨.mov (.fr 0), .tm, none⟩,
          ⟨.mov (.fr 9), .tm, none⟩,
          ⟨.iaddr 70 (.tm 1) (.tm 0), .tm, none⟩,
          ⟨.faddr 0 (.tm 0), .tm, none⟩,
          ⟨.load1 (.tm 0), .tm, none⟩,
          ⟨.bin .rem (.tm 0) (.c (.int .u8 8)), .fr 27, none⟩]) <|
          .block 2 (.seq (.seq (.reg [
            ⟨.bin .eql (.fr 27) (.c (.int .u8 0)), .tm, none⟩,
            ⟨.mov (.tm 0), .fr 29, none⟩]) <|
            .cond (.fr 29)
              (.skip)
              (.reg [
              ⟨.bin .eql (.fr 27) (.c (.int .u8 1)), .tm, none⟩,
              ⟨.mov (.tm 0), .fr 29, none⟩])) <|
            .cond (.fr 29)
              (.seq (.reg [
              ⟨.faddr 1 (.fr 7), .tm, none⟩,
              ⟨.load1 (.tm 0), .tm, none⟩,
              ⟨.bin .add (.tm 0) (.c (.int .i64 1)), .tm, none⟩,
              ⟨.faddr 1 (.fr 7), .tm, none⟩,
              ⟨.store1 (.tm 0) (.tm 1), .no, none⟩]) <|
              .seq (.seq (.reg [
              ⟨.mov (.fr 10), .tm, none⟩,
              ⟨.bin .eql (.tm 0) (.c (.int .i64 0)), .fr 30, none⟩]) <|
              .cond (.fr 30)
                (.seq (.reg [
                ⟨.faddr 0 (.fr 7), .tm, none⟩,
                ⟨.load1 (.tm 0), .tm, none⟩,
                ⟨.bin .add (.tm 0) (.c (.int .i64 1)), .tm, none⟩,
                ⟨.faddr 0 (.fr 7), .tm, none⟩,
                ⟨.store1 (.tm 0) (.tm 1), .no, none⟩]) <|
                .reg [
                ⟨.faddr 1 (.fr 7), .tm, none⟩,
                ⟨.store1 (.tm 0) (.c (.int .i64 0)), .no, none⟩])
                (.skip)) <|
              .seq (.reg [
              ⟨.mov (.fr 0), .tm, none⟩,
              ⟨.mov (.fr 9), .tm, none⟩,
              ⟨.iaddr 70 (.tm 1) (.tm 0), .tm, none⟩,
              ⟨.faddr 2 (.tm 0), .tm, none⟩,
              ⟨.loadn 68 (.tm 0), .tm, none⟩,
              ⟨.faddr 2 (.fr 7), .tm, none⟩,
              ⟨.storen 68 (.tm 0) (.tm 1), .no, none⟩]) <|
              .seq (.seq (.reg [
              ⟨.loadn 70 (.fr 7), .tm, none⟩,
              ⟨.callf 15 [(.fr 2), (.tm 0)], .tm, none⟩,
              ⟨.bin .neq (.tm 0) (.c (.int .i64 0)), .fr 31, none⟩]) <|
              .cond (.fr 31)
                (.seq (.reg [
                ⟨.mov (.c (.bool false)), .fr 1, none⟩]) <|
                .ret)
                (.skip)) <|
              .reg [
              ⟨.mov (.fr 4), .tm, none⟩,
              ⟨.loadn 70 (.fr 7), .tm, none⟩,
              ⟨.bslice 54 70 1 Z70 [(0, 70, (.tm 0))], .tm, none⟩,
              ⟨.app 54 70 112 (.tm 2) (.tm 0), .tm, none⟩,
              ⟨.mov (.tm 0), .fr 4, none⟩])
              (.seq (.reg [
              ⟨.bin .eql (.fr 27) (.c (.int .u8 2)), .tm, none⟩,
              ⟨.mov (.tm 0), .fr 32, none⟩]) <|
              .cond (.fr 32)
                (.seq (.reg [
                ⟨.callf 16 [(.fr 2)], .tm, none⟩,
                ⟨.mov (.tm 0), .tm, none⟩,
                ⟨.extract (.tm 0) 0, .tm, none⟩,
                ⟨.extract (.tm 1) 1, .tm, none⟩,
                ⟨.new 41 78 Z78, .fr 11, none⟩,
                ⟨.storen 78 (.fr 11) (.tm 1), .no, none⟩,
                ⟨.mov (.tm 0), .fr 12, none⟩]) <|
                .seq (.reg [
                ⟨.mov (.fr 12), .tm, none⟩,
                ⟨.mov (.tm 0), .tm, none⟩,
                ⟨.mov (.fr 5), .tm, some ((.tm 0), true)⟩,
                ⟨.len false (.tm 0), .tm, some ((.tm 1), true)⟩,
                ⟨.bin .lss (.tm 0) (.c (.int .i64 50)), .tm, some ((.tm 2), true)⟩,
                ⟨.pick (.tm 3) (.tm 0) (.c (.bool false)), .fr 33, none⟩]) <|
                .cond (.fr 33)
                  (.reg [
                  ⟨.mov (.fr 5), .tm, none⟩,
                  ⟨.loadn 78 (.fr 11), .tm, none⟩,
                  ⟨.bslice 41 78 1 Z78 [(0, 78, (.tm 0))], .tm, none⟩,
                  ⟨.app 41 78 192 (.tm 2) (.tm 0), .tm, none⟩,
                  ⟨.mov (.tm 0), .fr 5, none⟩])
                  (.skip))
                (.seq (.seq (.reg [
                ⟨.bin .eql (.fr 27) (.c (.int .u8 3)), .tm, none⟩,
                ⟨.mov (.tm 0), .fr 34, none⟩]) <|
                .cond (.fr 34)
                  (.skip)
                  (.reg [
                  ⟨.bin .eql (.fr 27) (.c (.int .u8 4)), .tm, none⟩,
                  ⟨.mov (.tm 0), .fr 34, none⟩])) <|
                .cond (.fr 34)
                  (.seq (.seq (.reg [
                  ⟨.mov (.fr 5), .tm, none⟩,
                  ⟨.len false (.tm 0), .tm, none⟩,
                  ⟨.bin .eql (.tm 0) (.c (.int .i64 0)), .fr 35, none⟩]) <|
                  .cond (.fr 35)
                    (.exit 1)
                    (.skip)) <|
                  .seq (.reg [
                  ⟨.mov (.fr 10), .tm, none⟩,
                  ⟨.mov (.fr 5), .tm, none⟩,
                  ⟨.len false (.tm 0), .tm, none⟩,
                  ⟨.bin .rem (.tm 2) (.tm 0), .tm, none⟩,
                  ⟨.mov (.tm 0), .fr 10, none⟩]) <|
                  .seq (.reg [
                  ⟨.mov (.fr 5), .tm, none⟩,
                  ⟨.mov (.fr 10), .tm, none⟩,
                  ⟨.iaddr 78 (.tm 1) (.tm 0), .tm, none⟩,
                  ⟨.loadn 78 (.tm 0), .tm, none⟩,
                  ⟨.callf 17 [(.fr 3), (.tm 0)], .tm, none⟩,
                  ⟨.mov (.tm 0), .tm, none⟩,
                  ⟨.extract (.tm 0) 0, .tm, none⟩,
                  ⟨.extract (.tm 1) 1, .tm, none⟩,
                  ⟨.extract (.tm 2) 2, .tm, none⟩,
                  ⟨.new 41 78 Z78, .fr 13, none⟩,
                  ⟨.storen 78 (.fr 13) (.tm 2), .no, none⟩,
                  ⟨.mov (.tm 1), .tm, none⟩,
                  ⟨.mov (.tm 1), .fr 14, none⟩]) <|
                  .seq (.seq (.reg [
                  ⟨.mov (.fr 14), .tm, none⟩,
                  ⟨.bin .neq (.tm 0) (.c (.int .i64 0)), .fr 36, none⟩]) <|
                  .cond (.fr 36)
                    (.seq (.reg [
                    ⟨.mov (.c (.bool false)), .fr 1, none⟩]) <|
                    .ret)
                    (.skip)) <|
                  .seq (.seq (.reg [
                  ⟨.mov (.fr 0), .tm, none⟩,
                  ⟨.mov (.fr 9), .tm, none⟩,
                  ⟨.iaddr 70 (.tm 1) (.tm 0), .tm, none⟩,
                  ⟨.faddr 0 (.tm 0), .tm, none⟩,
                  ⟨.load1 (.tm 0), .tm, none⟩,
                  ⟨.bin .rem (.tm 0) (.c (.int .u8 8)), .tm, none⟩,
                  ⟨.bin .eql (.tm 0) (.c (.int .u8 3)), .fr 37, none⟩]) <|
                  .cond (.fr 37)
                    (.reg [
                    ⟨.mov (.fr 5), .tm, none⟩,
                    ⟨.mov (.fr 10), .tm, none⟩,
                    ⟨.callf 18 [(.tm 1), (.tm 0)], .tm, none⟩,
                    ⟨.mov (.tm 0), .fr 5, none⟩])
                    (.skip)) <|
                  .seq (.reg [
                  ⟨.mov (.fr 6), .tm, none⟩,
                  ⟨.len false (.tm 0), .tm, none⟩,
                  ⟨.bin .lss (.tm 0) (.c (.int .i64 50)), .fr 38, none⟩]) <|
                  .cond (.fr 38)
                    (.reg [
                    ⟨.mov (.fr 6), .tm, none⟩,
                    ⟨.loadn 78 (.fr 13), .tm, none⟩,
                    ⟨.bslice 41 78 1 Z78 [(0, 78, (.tm 0))], .tm, none⟩,
                    ⟨.app 41 78 192 (.tm 2) (.tm 0), .tm, none⟩,
                    ⟨.mov (.tm 0), .fr 6, none⟩])
                    (.skip))
                  (.seq (.seq (.reg [
                  ⟨.bin .eql (.fr 27) (.c (.int .u8 5)), .tm, none⟩,
                  ⟨.mov (.tm 0), .fr 39, none⟩]) <|
                  .cond (.fr 39)
                    (.skip)
                    (.reg [
                    ⟨.bin .eql (.fr 27) (.c (.int .u8 6)), .tm, none⟩,
                    ⟨.mov (.tm 0), .fr 39, none⟩])) <|
                  .cond (.fr 39)
                    (.seq (.seq (.reg [
                    ⟨.mov (.fr 6), .tm, none⟩,
                    ⟨.len false (.tm 0), .tm, none⟩,
                    ⟨.bin .eql (.tm 0) (.c (.int .i64 0)), .fr 40, none⟩]) <|
                    .cond (.fr 40)
                      (.exit 1)
                      (.skip)) <|
                    .seq (.reg [
                    ⟨.mov (.fr 10), .tm, none⟩,
                    ⟨.mov (.fr 6), .tm, none⟩,
                    ⟨.len false (.tm 0), .tm, none⟩,
                    ⟨.bin .rem (.tm 2) (.tm 0), .tm, none⟩,
                    ⟨.mov (.tm 0), .fr 10, none⟩]) <|
                    .seq (.seq (.reg [
                    ⟨.mov (.fr 6), .tm, none⟩,
                    ⟨.mov (.fr 10), .tm, none⟩,
                    ⟨.iaddr 78 (.tm 1) (.tm 0), .tm, none⟩,
                    ⟨.loadn 78 (.tm 0), .tm, none⟩,
                    ⟨.callf 19 [(.fr 2), (.tm 0)], .tm, none⟩,
                    ⟨.bin .neq (.tm 0) (.c (.int .i64 0)), .fr 41, none⟩]) <|
                    .cond (.fr 41)
                      (.seq (.reg [
                      ⟨.mov (.c (.bool false)), .fr 1, none⟩]) <|
                      .ret)
                      (.skip)) <|
                    .seq (.reg [
                    ⟨.mov (.fr 0), .tm, none⟩,
                    ⟨.mov (.fr 9), .tm, none⟩,
                    ⟨.iaddr 70 (.tm 1) (.tm 0), .tm, none⟩,
                    ⟨.faddr 0 (.tm 0), .tm, none⟩,
                    ⟨.load1 (.tm 0), .tm, none⟩,
                    ⟨.bin .rem (.tm 0) (.c (.int .u8 8)), .tm, none⟩,
                    ⟨.bin .eql (.tm 0) (.c (.int .u8 5)), .fr 42, none⟩]) <|
                    .cond (.fr 42)
                      (.reg [
                      ⟨.mov (.fr 6), .tm, none⟩,
                      ⟨.mov (.fr 10), .tm, none⟩,
                      ⟨.callf 18 [(.tm 1), (.tm 0)], .tm, none⟩,
                      ⟨.mov (.tm 0), .fr 6, none⟩])
                      (.skip))
                    (.seq (.reg [
                    ⟨.mov (.fr 5), .tm, none⟩,
                    ⟨.len false (.tm 0), .tm, none⟩,
                    ⟨.bin .gtr (.tm 0) (.c (.int .i64 0)), .fr 28, none⟩]) <|
                    .cond (.fr 28)
                      (.reg [
                      ⟨.mov (.fr 5), .tm, none⟩,
                      ⟨.mov (.fr 10), .tm, none⟩,
                      ⟨.mov (.fr 5), .tm, none⟩,
                      ⟨.len false (.tm 0), .tm, none⟩,
                      ⟨.bin .rem (.tm 2) (.tm 0), .tm, none⟩,
                      ⟨.callf 18 [(.tm 4), (.tm 0)], .tm, none⟩,
                      ⟨.mov (.tm 0), .fr 5, none⟩])
                      (.skip))))))) <|
          .seq (.reg [
          ⟨.callf 20 [(.fr 3)], .tm, none⟩,
          ⟨.mov (.tm 0), .tm, none⟩,
          ⟨.extract (.tm 0) 0, .tm, none⟩,
          ⟨.extract (.tm 1) 1, .tm, none⟩,
          ⟨.new 54 70 Z70, .fr 15, none⟩,
          ⟨.storen 70 (.fr 15) (.tm 1), .no, none⟩,
          ⟨.mov (.tm 0), .fr 16, none⟩]) <|
          .seq (.seq (.reg [
          ⟨.mov (.fr 16), .tm, none⟩,
          ⟨.un .not (.tm 0), .fr 43, none⟩]) <|
          .cond (.fr 43)
            (.exit 1)
            (.skip)) <|
          .seq (.reg [
          ⟨.mov (.fr 8), .tm, none⟩,
          ⟨.mm true (.c (.int .i64 0)) (.tm 0), .tm, none⟩,
          ⟨.mov (.tm 0), .fr 17, none⟩]) <|
          .seq (.block 3 (.loop (.seq (.seq (.dreg [
              (⟨.mov (.fr 17), .tm, none⟩, []),
              (⟨.mov (.fr 4), .tm, none⟩, []),
              (⟨.len false (.tm 0), .tm, none⟩, []),
              (⟨.bin .lss (.tm 2) (.tm 0), .tm, none⟩, []),
              (⟨.mov (.tm 0), .tm, none⟩, []),
              (⟨.mov (.fr 4), .tm, some ((.tm 0), true)⟩, []),
              (⟨.mov (.fr 17), .tm, some ((.tm 1), true)⟩, []),
              (⟨.iaddr 70 (.tm 1) (.tm 0), .tm, some ((.tm 2), true)⟩, []),
              (⟨.loadn 70 (.tm 0), .tm, some ((.tm 3), true)⟩, []),
              (⟨.loadn 70 (.fr 15), .tm, some ((.tm 4), true)⟩, []),
              (⟨.eqs O70 true (.tm 1) (.tm 0), .tm, some ((.tm 5), true)⟩, []),
              (⟨.pick (.tm 6) (.tm 0) (.c (.bool false)), .fr 44, none⟩, [])]) <|
              .cond (.fr 44)
                (.skip)
                (.exit 3)) <|
              .block 4 (.reg [
                ⟨.mov (.fr 17), .tm, none⟩,
                ⟨.bin .add (.tm 0) (.c (.int .i64 1)), .tm, none⟩,
                ⟨.mov (.tm 0), .fr 17, none⟩])))) <|
          .seq (.seq (.reg [
          ⟨.mov (.fr 17), .tm, none⟩,
          ⟨.mov (.fr 4), .tm, none⟩,
          ⟨.len false (.tm 0), .tm, none⟩,
          ⟨.bin .eql (.tm 2) (.tm 0), .fr 45, none⟩]) <|
          .cond (.fr 45)
            (.seq (.reg [
            ⟨.mov (.c (.bool false)), .fr 1, none⟩]) <|
            .ret)
            (.skip)) <|
          .reg [
          ⟨.mov (.fr 17), .tm, none⟩,
          ⟨.mov (.tm 0), .fr 8, none⟩])) <|
        .reg [
        ⟨.mov (.fr 9), .tm, none⟩,
        ⟨.bin .add (.tm 0) (.c (.int .i64 1)), .tm, none⟩,
        ⟨.mov (.tm 0), .fr 9, none⟩]))) <|
    .seq (.seq (.reg [
    ⟨.mov (.c (.int .i64 0)), .fr 18, none⟩]) <|
    .block 5 (.loop (.seq (.seq (.reg [
        ⟨.mov (.fr 18), .tm, none⟩,
        ⟨.bin .lss (.tm 0) (.c (.int .i64 2)), .fr 46, none⟩]) <|
        .cond (.fr 46)
          (.skip)
          (.exit 5)) <|
        .seq (.block 6 (.seq (.reg [
          ⟨.callf 16 [(.fr 2)], .tm, none⟩,
          ⟨.mov (.tm 0), .tm, none⟩,
          ⟨.extract (.tm 0) 0, .tm, none⟩,
          ⟨.extract (.tm 1) 1, .tm, none⟩,
          ⟨.new 41 78 Z78, .fr 19, none⟩,
          ⟨.storen 78 (.fr 19) (.tm 1), .no, none⟩,
          ⟨.mov (.tm 0), .fr 20, none⟩]) <|
          .seq (.seq (.reg [
          ⟨.mov (.fr 20), .tm, none⟩,
          ⟨.un .not (.tm 0), .fr 47, none⟩]) <|
          .cond (.fr 47)
            (.exit 5)
            (.skip)) <|
          .seq (.reg [
          ⟨.loadn 78 (.fr 19), .tm, none⟩,
          ⟨.callf 17 [(.fr 3), (.tm 0)], .tm, none⟩,
          ⟨.mov (.tm 0), .tm, none⟩,
          ⟨.extract (.tm 0) 0, .tm, none⟩,
          ⟨.extract (.tm 1) 1, .tm, none⟩,
          ⟨.extract (.tm 2) 2, .tm, none⟩,
          ⟨.new 41 78 Z78, .fr 21, none⟩,
          ⟨.storen 78 (.fr 21) (.tm 2), .no, none⟩,
          ⟨.mov (.tm 1), .tm, none⟩,
          ⟨.mov (.tm 1), .fr 22, none⟩]) <|
          .seq (.reg [
          ⟨.mov (.fr 22), .tm, none⟩,
          ⟨.bin .neq (.tm 0) (.c (.int .i64 0)), .tm, none⟩,
          ⟨.mov (.tm 0), .tm, none⟩,
          ⟨.loadn 78 (.fr 21), .tm, some ((.tm 0), false)⟩,
          ⟨.callf 19 [(.fr 2), (.tm 0)], .tm, some ((.tm 1), false)⟩,
          ⟨.bin .neq (.tm 0) (.c (.int .i64 0)), .tm, some ((.tm 2), false)⟩,
          ⟨.pick (.tm 3) (.c (.bool true)) (.tm 0), .fr 48, none⟩]) <|
          .cond (.fr 48)
            (.seq (.reg [
            ⟨.mov (.c (.bool false)), .fr 1, none⟩]) <|
            .ret)
            (.skip))) <|
        .reg [
        ⟨.mov (.fr 18), .tm, none⟩,
        ⟨.bin .add (.tm 0) (.c (.int .i64 1)), .tm, none⟩,
        ⟨.mov (.tm 0), .fr 18, none⟩]))) <|
    .seq (.reg [
    ⟨.callf 20 [(.fr 3)], .tm, none⟩,
    ⟨.mov (.tm 0), .tm, none⟩,
    ⟨.extract (.tm 0) 0, .tm, none⟩,
    ⟨.extract (.tm 1) 1, .tm, none⟩,
    ⟨.new 54 70 Z70, .fr 23, none⟩,
    ⟨.storen 70 (.fr 23) (.tm 1), .no, none⟩,
    ⟨.mov (.tm 0), .fr 24, none⟩]) <|
    .seq (.dreg [
    (⟨.mov (.fr 24), .tm, none⟩, []),
    (⟨.mov (.fr 4), .tm, none⟩, []),
    (⟨.len false (.tm 0), .tm, none⟩, []),
    (⟨.bin .gtr (.tm 0) (.c (.int .i64 0)), .tm, none⟩, []),
    (⟨.eqv 0 false (.tm 3) (.tm 0), .tm, none⟩, []),
    (⟨.mov (.tm 0), .tm, none⟩, []),
    (⟨.mov (.fr 24), .tm, some ((.tm 0), true)⟩, []),
    (⟨.un .not (.tm 0), .tm, some ((.tm 1), true)⟩, []),
    (⟨.mov (.tm 0), .tm, some ((.tm 2), true)⟩, []),
    (⟨.loadn 70 (.fr 23), .tm, some ((.tm 0), false)⟩, []),
    (⟨.mov (.fr 4), .tm, some ((.tm 1), false)⟩, []),
    (⟨.mov (.fr 4), .tm, some ((.tm 2), false)⟩, []),
    (⟨.len false (.tm 0), .tm, some ((.tm 3), false)⟩, []),
    (⟨.bin .sub (.tm 0) (.c (.int .i64 1)), .tm, some ((.tm 4), false)⟩, []),
    (⟨.iaddr 70 (.tm 3) (.tm 0), .tm, some ((.tm 5), false)⟩, []),
    (⟨.loadn 70 (.tm 0), .tm, some ((.tm 6), false)⟩, []),
    (⟨.eqs O70 false (.tm 6) (.tm 0), .tm, some ((.tm 7), false)⟩, []),
    (⟨.pick (.tm 8) (.c (.bool true)) (.tm 0), .tm, some ((.tm 11), true)⟩, []),
    (⟨.pick (.tm 12) (.tm 0) (.c (.bool false)), .tm, none⟩, []),
    (⟨.mov (.tm 0), .tm, none⟩, []),
    (⟨.callf 8 [], .tm, some ((.tm 0), true)⟩, []),
    (⟨.pick (.tm 1) (.tm 0) (.c (.bool false)), .tm, none⟩, []),
    (⟨.mov (.tm 0), .fr 1, none⟩, [])]) <|
    .ret, [.t 1]⟩
/-- semaphore/semaphorelaw25.ReplPlays ; args 1 ; slots [0, 2, 3, 4, 5, 6, 7, 10, 18, 34] -/
def f5 : AFunc := ⟨[0, 2, 3, 4, 5, 6, 7, 10, 18, 34],
  .seq (.reg [
    ⟨.mov (.c (.bool false)), .fr 1, none⟩]) <|
    .seq (.seq (.reg [
    ⟨.mov (.fr 0), .tm, none⟩,
    ⟨.callf 21 [(.tm 0)], .tm, none⟩,
    ⟨.un .not (.tm 0), .fr 7, none⟩]) <|
    .cond (.fr 7)
      (.seq (.reg [
      ⟨.callf 8 [], .tm, none⟩,
      ⟨.mov (.tm 0), .fr 1, none⟩]) <|
      .ret)
      (.skip)) <|
    .seq (.reg [
    ⟨.new 48 2 [(.slice none 0 0), (.int .i64 0)], .fr 2, none⟩]) <|
    .seq (.reg [
    ⟨.new 51 1 [(.pointer none)], .fr 3, none⟩]) <|
    .seq (.reg [
    ⟨.callf 22 [], .tm, none⟩,
    ⟨.build Z71 [], .tm, none⟩,
    ⟨.box 74 71 (.tm 0), .tm, none⟩,
    ⟨.mov (.tm 2), .fr 4, none⟩,
    ⟨.mov (.tm 0), .fr 5, none⟩]) <|
    .seq (.seq (.reg [
    ⟨.mov (.c (.int .i64 0)), .fr 6, none⟩]) <|
    .block 0 (.loop (.seq (.seq (.reg [
        ⟨.mov (.fr 6), .tm, none⟩,
        ⟨.mov (.fr 0), .tm, none⟩,
        ⟨.len false (.tm 0), .tm, none⟩,
        ⟨.bin .lss (.tm 2) (.tm 0), .fr 8, none⟩]) <|
        .cond (.fr 8)
          (.skip)
          (.exit 0)) <|
        .seq (.block 1 (.seq (.reg [
          ⟨.mov (.fr 4), .tm, none⟩,
          ⟨.mov (.fr 5), .tm, none⟩,
          ⟨.mov (.fr 0), .tm, none⟩,
          ⟨.mov (.fr 6), .tm, none⟩,
          ⟨.iaddr 149 (.tm 1) (.tm 0), .tm, none⟩,
          ⟨.loadn 149 (.tm 0), .tm, none⟩,
          ⟨.callf 23 [(.fr 2), (.fr 3), (.tm 5), (.tm 4), (.tm 0)], .tm, none⟩,
          ⟨.un .not (.tm 0), .tm, none⟩,
          ⟨.mov (.tm 0), .tm, none⟩,
          ⟨.mov (.fr 4), .tm, some ((.tm 0), false)⟩,
          ⟨.mov (.fr 5), .tm, some ((.tm 1), false)⟩,
          ⟨.callf 24 [(.fr 2), (.fr 3), (.tm 1), (.tm 0)], .tm, some ((.tm 2), false)⟩,
          ⟨.un .not (.tm 0), .tm, some ((.tm 3), false)⟩,
          ⟨.pick (.tm 4) (.c (.bool true)) (.tm 0), .fr 9, none⟩]) <|
          .cond (.fr 9)
            (.seq (.reg [
            ⟨.mov (.c (.bool false)), .fr 1, none⟩]) <|
            .ret)
            (.skip))) <|
        .reg [
        ⟨.mov (.fr 6), .tm, none⟩,
        ⟨.bin .add (.tm 0) (.c (.int .i64 1)), .tm, none⟩,
        ⟨.mov (.tm 0), .fr 6, none⟩]))) <|
    .seq (.reg [
    ⟨.callf 8 [], .tm, none⟩,
    ⟨.mov (.tm 0), .fr 1, none⟩]) <|
    .ret, [.t 1]⟩
/-- (*semaphore/repl.Sender).Offer ; args 2 ; slots [0, 1, 3, 4, 5, 8, 56] -/
def f15 : AFunc := ⟨[0, 1, 3, 4, 5, 8, 56],
  .seq (.reg [
    ⟨.box 54 70 (.fr 1), .fr 2, none⟩,
    ⟨.mov (.c (.int .i64 0)), .fr 3, none⟩]) <|
    .seq (.block 0 (.seq (.reg [
      ⟨.mov (.fr 0), .tm, none⟩,
      ⟨.eqv 1 false (.tm 0) (.c (.pointer none)), .tm, none⟩,
      ⟨.mov (.tm 0), .fr 4, none⟩]) <|
      .cond (.fr 4)
        (.seq (.reg [
        ⟨.mov (.c (.int .i64 1)), .fr 3, none⟩]) <|
        .ret)
        (.seq (.dreg [
        (⟨.faddr 0 (.fr 2), .tm, none⟩, []),
        (⟨.load1 (.tm 0), .tm, none⟩, []),
        (⟨.faddr 1 (.fr 2), .tm, none⟩, []),
        (⟨.load1 (.tm 0), .tm, none⟩, []),
        (⟨.bslice 2 1 2 [(.int .i64 0), (.int .i64 0)] [(0, 1, (.tm 2)), (1, 1, (.tm 0))], .tm, none⟩, []),
        (⟨.callf 33 [(.tm 0)], .tm, none⟩, []),
        (⟨.un .not (.tm 0), .tm, none⟩, []),
        (⟨.mov (.tm 0), .tm, none⟩, []),
        (⟨.mov (.fr 0), .tm, some ((.tm 0), false)⟩, []),
        (⟨.nilck (.tm 0), .tm, some ((.tm 1), false)⟩, []),
        (⟨.faddr 0 (.tm 0), .tm, some ((.tm 2), false)⟩, []),
        (⟨.load1 (.tm 0), .tm, some ((.tm 3), false)⟩, []),
        (⟨.len false (.tm 0), .tm, some ((.tm 4), false)⟩, []),
        (⟨.bin .gtr (.tm 0) (.c (.int .i64 0)), .tm, some ((.tm 5), false)⟩, []),
        (⟨.mov (.tm 0), .tm, some ((.tm 6), false)⟩, []),
        (⟨.loadn 70 (.fr 2), .tm, some ((.tm 0), true)⟩, []),
        (⟨.mov (.fr 0), .tm, some ((.tm 1), true)⟩, []),
        (⟨.nilck (.tm 0), .tm, some ((.tm 2), true)⟩, []),
        (⟨.faddr 0 (.tm 0), .tm, some ((.tm 3), true)⟩, []),
        (⟨.load1 (.tm 0), .tm, some ((.tm 4), true)⟩, []),
        (⟨.mov (.fr 0), .tm, some ((.tm 5), true)⟩, []),
        (⟨.nilck (.tm 0), .tm, some ((.tm 6), true)⟩, []),
        (⟨.faddr 0 (.tm 0), .tm, some ((.tm 7), true)⟩, []),
        (⟨.load1 (.tm 0), .tm, some ((.tm 8), true)⟩, []),
        (⟨.len false (.tm 0), .tm, some ((.tm 9), true)⟩, []),
        (⟨.bin .sub (.tm 0) (.c (.int .i64 1)), .tm, some ((.tm 10), true)⟩, []),
        (⟨.iaddr 70 (.tm 6) (.tm 0), .tm, some ((.tm 11), true)⟩, []),
        (⟨.loadn 70 (.tm 0), .tm, some ((.tm 12), true)⟩, []),
        (⟨.callf 34 [(.tm 12), (.tm 0)], .tm, some ((.tm 13), true)⟩, []),
        (⟨.bin .leq (.tm 0) (.c (.int .i64 0)), .tm, some ((.tm 14), true)⟩, []),
        (⟨.pick (.tm 15) (.tm 0) (.c (.bool false)), .tm, some ((.tm 22), false)⟩, []),
        (⟨.pick (.tm 23) (.c (.bool true)) (.tm 0), .tm, none⟩, []),
        (⟨.mov (.tm 0), .fr 5, none⟩, [])]) <|
        .cond (.fr 5)
          (.seq (.reg [
          ⟨.mov (.c (.int .i64 2)), .fr 3, none⟩]) <|
          .ret)
          (.skip)))) <|
    .seq (.dreg [
    (⟨.mov (.fr 0), .tm, none⟩, []),
    (⟨.mov (.fr 0), .tm, none⟩, []),
    (⟨.nilck (.tm 0), .tm, none⟩, []),
    (⟨.faddr 0 (.tm 0), .tm, none⟩, []),
    (⟨.load1 (.tm 0), .tm, none⟩, []),
    (⟨.loadn 70 (.fr 2), .tm, none⟩, []),
    (⟨.bslice 54 70 1 Z70 [(0, 70, (.tm 0))], .tm, none⟩, []),
    (⟨.app 54 70 112 (.tm 2) (.tm 0), .tm, none⟩, []),
    (⟨.nilck (.tm 7), .tm, none⟩, []),
    (⟨.faddr 0 (.tm 0), .tm, none⟩, []),
    (⟨.store1 (.tm 0) (.tm 2), .no, none⟩, [])]) <|
    .seq (.seq (.reg [
    ⟨.mov (.fr 0), .tm, none⟩,
    ⟨.nilck (.tm 0), .tm, none⟩,
    ⟨.faddr 0 (.tm 0), .tm, none⟩,
    ⟨.load1 (.tm 0), .tm, none⟩,
    ⟨.len false (.tm 0), .tm, none⟩,
    ⟨.bin .gtr (.tm 0) (.c (.int .i64 8)), .fr 6, none⟩]) <|
    .cond (.fr 6)
      (.dreg [
      (⟨.mov (.fr 0), .tm, none⟩, []),
      (⟨.mov (.fr 0), .tm, none⟩, []),
      (⟨.mov (.fr 0), .tm, none⟩, []),
      (⟨.nilck (.tm 0), .tm, none⟩, []),
      (⟨.faddr 0 (.tm 0), .tm, none⟩, []),
      (⟨.load1 (.tm 0), .tm, none⟩, []),
      (⟨.slsl 70 (.tm 0) (some (.c (.int .i64 1))) none none, .tm, none⟩, []),
      (⟨.mov (.fr 0), .tm, none⟩, []),
      (⟨.nilck (.tm 0), .tm, none⟩, []),
      (⟨.faddr 1 (.tm 0), .tm, none⟩, []),
      (⟨.load1 (.tm 0), .tm, none⟩, []),
      (⟨.bin .sub (.tm 0) (.c (.int .i64 1)), .tm, none⟩, []),
      (⟨.mm true (.c (.int .i64 0)) (.tm 0), .tm, none⟩, []),
      (⟨.nilck (.tm 12), .tm, none⟩, []),
      (⟨.faddr 0 (.tm 0), .tm, none⟩, []),
      (⟨.store1 (.tm 0) (.tm 8), .no, none⟩, []),
      (⟨.nilck (.tm 13), .tm, none⟩, []),
      (⟨.faddr 1 (.tm 0), .tm, none⟩, []),
      (⟨.store1 (.tm 0) (.tm 4), .no, none⟩, [])])
      (.skip)) <|
    .seq (.reg [
    ⟨.mov (.c (.int .i64 0)), .fr 3, none⟩]) <|
    .ret, [.t 3]⟩
/-- (*semaphore/repl.Sender).Send ; args 1 ; slots [0, 2, 3, 4, 5, 6, 20, 39] -/
def f16 : AFunc := ⟨[0, 2, 3, 4, 5, 6, 20, 39],
  .seq (.reg [
    ⟨.new 41 78 Z78, .fr 1, none⟩,
    ⟨.mov (.c (.bool false)), .fr 2, none⟩]) <|
    .seq (.seq (.dreg [
    (⟨.mov (.fr 0), .tm, none⟩, []),
    (⟨.eqv 1 false (.tm 0) (.c (.pointer none)), .tm, none⟩, []),
    (⟨.mov (.tm 0), .tm, none⟩, []),
    (⟨.mov (.fr 0), .tm, some ((.tm 0), false)⟩, []),
    (⟨.nilck (.tm 0), .tm, some ((.tm 1), false)⟩, []),
    (⟨.faddr 1 (.tm 0), .tm, some ((.tm 2), false)⟩, []),
    (⟨.load1 (.tm 0), .tm, some ((.tm 3), false)⟩, []),
    (⟨.mov (.fr 0), .tm, some ((.tm 4), false)⟩, []),
    (⟨.nilck (.tm 0), .tm, some ((.tm 5), false)⟩, []),
    (⟨.faddr 0 (.tm 0), .tm, some ((.tm 6), false)⟩, []),
    (⟨.load1 (.tm 0), .tm, some ((.tm 7), false)⟩, []),
    (⟨.len false (.tm 0), .tm, some ((.tm 8), false)⟩, []),
    (⟨.bin .eql (.tm 5) (.tm 0), .tm, some ((.tm 9), false)⟩, []),
    (⟨.pick (.tm 10) (.c (.bool true)) (.tm 0), .fr 6, none⟩, [])]) <|
    .cond (.fr 6)
      (.seq (.reg [
      ⟨.build Z78 [], .tm, none⟩,
      ⟨.storen 78 (.fr 1) (.tm 0), .no, none⟩,
      ⟨.mov (.c (.bool false)), .fr 2, none⟩]) <|
      .ret)
      (.skip)) <|
    .seq (.dreg [
    (⟨.mov (.fr 0), .tm, none⟩, []),
    (⟨.nilck (.tm 0), .tm, none⟩, []),
    (⟨.faddr 0 (.tm 0), .tm, none⟩, []),
    (⟨.load1 (.tm 0), .tm, none⟩, []),
    (⟨.mov (.fr 0), .tm, none⟩, []),
    (⟨.nilck (.tm 0), .tm, none⟩, []),
    (⟨.faddr 0 (.tm 0), .tm, none⟩, []),
    (⟨.load1 (.tm 0), .tm, none⟩, []),
    (⟨.len false (.tm 0), .tm, none⟩, []),
    (⟨.bin .sub (.tm 0) (.c (.int .i64 1)), .tm, none⟩, []),
    (⟨.iaddr 70 (.tm 6) (.tm 0), .tm, none⟩, []),
    (⟨.loadn 70 (.tm 0), .tm, none⟩, []),
    (⟨.new 54 70 Z70, .fr 3, none⟩, []),
    (⟨.storen 70 (.fr 3) (.tm 0), .no, none⟩, [])]) <|
    .seq (.seq (.reg [
    ⟨.mov (.fr 0), .tm, none⟩,
    ⟨.callf 29 [(.tm 0)], .tm, none⟩,
    ⟨.mov (.tm 0), .tm, none⟩,
    ⟨.extract (.tm 0) 0, .tm, none⟩,
    ⟨.extract (.tm 1) 1, .tm, none⟩,
    ⟨.new 54 70 Z70, .fr 4, none⟩,
    ⟨.storen 70 (.fr 4) (.tm 1), .no, none⟩,
    ⟨.mov (.tm 0), .fr 5, none⟩]) <|
    .seq (.reg [
    ⟨.mov (.fr 5), .fr 7, none⟩]) <|
    .cond (.fr 7)
      (.seq (.dreg [
      (⟨.faddr 0 (.fr 3), .tm, none⟩, []),
      (⟨.load1 (.tm 0), .tm, none⟩, []),
      (⟨.faddr 1 (.fr 3), .tm, none⟩, []),
      (⟨.load1 (.tm 0), .tm, none⟩, []),
      (⟨.faddr 0 (.fr 4), .tm, none⟩, []),
      (⟨.load1 (.tm 0), .tm, none⟩, []),
      (⟨.faddr 1 (.fr 4), .tm, none⟩, []),
      (⟨.load1 (.tm 0), .tm, none⟩, []),
      (⟨.faddr 2 (.fr 4), .tm, none⟩, []),
      (⟨.loadn 68 (.tm 0), .tm, none⟩, []),
      (⟨.faddr 2 (.fr 3), .tm, none⟩, []),
      (⟨.loadn 68 (.tm 0), .tm, none⟩, []),
      (⟨.callf 9 [(.tm 2), (.tm 0)], .tm, none⟩, [1, 3, 5, 7]),
      (⟨.build Z78 [(0, 1, (.c (.int .u8 2))), (1, 1, (.tm 11)), (2, 1, (.tm 9)), (3, 1, (.tm 7)), (4, 1, (.tm 5)), (73, 5, (.tm 0))], .tm, none⟩, []),
      (⟨.storen 78 (.fr 1) (.tm 0), .no, none⟩, []),
      (⟨.mov (.c (.bool true)), .fr 2, none⟩, [])]) <|
      .ret)
      (.skip)) <|
    .seq (.reg [
    ⟨.faddr 0 (.fr 3), .tm, none⟩,
    ⟨.load1 (.tm 0), .tm, none⟩,
    ⟨.faddr 1 (.fr 3), .tm, none⟩,
    ⟨.load1 (.tm 0), .tm, none⟩,
    ⟨.faddr 2 (.fr 3), .tm, none⟩,
    ⟨.loadn 68 (.tm 0), .tm, none⟩,
    ⟨.build Z78 [(0, 1, (.c (.int .u8 1))), (1, 1, (.tm 4)), (2, 1, (.tm 2)), (5, 68, (.tm 0))], .tm, none⟩,
    ⟨.storen 78 (.fr 1) (.tm 0), .no, none⟩,
    ⟨.mov (.c (.bool true)), .fr 2, none⟩]) <|
    .ret, [.cn 78 1, .t 2]⟩
/-- (*semaphore/repl.Receiver).Hear ; args 2 ; slots [0, 1, 3, 4, 5, 6, 7, 8, 9, 13, 49, 81, 85] -/
def f17 : AFunc := ⟨[0, 1, 3, 4, 5, 6, 7, 8, 9, 13, 49, 81, 85],
  .seq (.reg [
    ⟨.box 41 78 (.fr 1), .fr 2, none⟩,
    ⟨.new 41 78 Z78, .fr 3, none⟩,
    ⟨.mov (.c (.bool false)), .fr 4, none⟩,
    ⟨.mov (.c (.int .i64 0)), .fr 5, none⟩]) <|
    .seq (.block 0 (.seq (.reg [
      ⟨.mov (.fr 0), .tm, none⟩,
      ⟨.eqv 1 false (.tm 0) (.c (.pointer none)), .tm, none⟩,
      ⟨.mov (.tm 0), .fr 8, none⟩]) <|
      .cond (.fr 8)
        (.seq (.reg [
        ⟨.build Z78 [], .tm, none⟩,
        ⟨.storen 78 (.fr 3) (.tm 0), .no, none⟩,
        ⟨.mov (.c (.bool false)), .fr 4, none⟩,
        ⟨.mov (.c (.int .i64 1)), .fr 5, none⟩]) <|
        .ret)
        (.seq (.reg [
        ⟨.loadn 78 (.fr 2), .tm, none⟩,
        ⟨.callf 35 [(.tm 0)], .tm, none⟩,
        ⟨.un .not (.tm 0), .tm, none⟩,
        ⟨.mov (.tm 0), .tm, none⟩,
        ⟨.faddr 0 (.fr 2), .tm, some ((.tm 0), false)⟩,
        ⟨.load1 (.tm 0), .tm, some ((.tm 1), false)⟩,
        ⟨.bin .gtr (.tm 0) (.c (.int .u8 2)), .tm, some ((.tm 2), false)⟩,
        ⟨.pick (.tm 3) (.c (.bool true)) (.tm 0), .tm, none⟩,
        ⟨.mov (.tm 0), .fr 9, none⟩]) <|
        .cond (.fr 9)
          (.seq (.reg [
          ⟨.build Z78 [], .tm, none⟩,
          ⟨.storen 78 (.fr 3) (.tm 0), .no, none⟩,
          ⟨.mov (.c (.bool false)), .fr 4, none⟩,
          ⟨.mov (.c (.int .i64 2)), .fr 5, none⟩]) <|
          .ret)
          (.skip)))) <|
    .seq (.reg [
    ⟨.faddr 1 (.fr 2), .tm, none⟩,
    ⟨.load1 (.tm 0), .tm, none⟩,
    ⟨.faddr 2 (.fr 2), .tm, none⟩,
    ⟨.load1 (.tm 0), .tm, none⟩,
    ⟨.faddr 5 (.fr 2), .tm, none⟩,
    ⟨.loadn 68 (.tm 0), .tm, none⟩,
    ⟨.build Z70 [(0, 1, (.tm 4)), (1, 1, (.tm 2)), (2, 68, (.tm 0))], .tm, none⟩,
    ⟨.new 54 70 Z70, .fr 6, none⟩,
    ⟨.storen 70 (.fr 6) (.tm 0), .no, none⟩]) <|
    .seq (.seq (.reg [
    ⟨.faddr 3 (.fr 2), .tm, none⟩,
    ⟨.load1 (.tm 0), .tm, none⟩,
    ⟨.faddr 4 (.fr 2), .tm, none⟩,
    ⟨.load1 (.tm 0), .tm, none⟩,
    ⟨.build Z70 [(0, 1, (.tm 2)), (1, 1, (.tm 0))], .tm, none⟩,
    ⟨.new 54 70 Z70, .fr 7, none⟩,
    ⟨.storen 70 (.fr 7) (.tm 0), .no, none⟩]) <|
    .block 1 (.seq (.dreg [
      (⟨.mov (.fr 0), .tm, none⟩, []),
      (⟨.nilck (.tm 0), .tm, none⟩, []),
      (⟨.faddr 0 (.tm 0), .tm, none⟩, []),
      (⟨.load1 (.tm 0), .tm, none⟩, []),
      (⟨.eqv 1 true (.tm 0) (.c (.pointer none)), .tm, none⟩, []),
      (⟨.mov (.tm 0), .tm, none⟩, []),
      (⟨.loadn 70 (.fr 6), .tm, some ((.tm 0), true)⟩, []),
      (⟨.mov (.fr 0), .tm, some ((.tm 1), true)⟩, []),
      (⟨.nilck (.tm 0), .tm, some ((.tm 2), true)⟩, []),
      (⟨.faddr 0 (.tm 0), .tm, some ((.tm 3), true)⟩, []),
      (⟨.load1 (.tm 0), .tm, some ((.tm 4), true)⟩, []),
      (⟨.nilck (.tm 0), .tm, some ((.tm 5), true)⟩, []),
      (⟨.loadn 70 (.tm 0), .tm, some ((.tm 6), true)⟩, []),
      (⟨.callf 34 [(.tm 6), (.tm 0)], .tm, some ((.tm 7), true)⟩, []),
      (⟨.bin .leq (.tm 0) (.c (.int .i64 0)), .tm, some ((.tm 8), true)⟩, []),
      (⟨.pick (.tm 9) (.tm 0) (.c (.bool false)), .tm, none⟩, []),
      (⟨.mov (.tm 0), .fr 10, none⟩, [])]) <|
      .cond (.fr 10)
        (.seq (.dreg [
        (⟨.mov (.fr 0), .tm, none⟩, []),
        (⟨.nilck (.tm 0), .tm, none⟩, []),
        (⟨.faddr 0 (.tm 0), .tm, none⟩, []),
        (⟨.load1 (.tm 0), .tm, none⟩, []),
        (⟨.nilck (.tm 0), .tm, none⟩, []),
        (⟨.faddr 0 (.tm 0), .tm, none⟩, []),
        (⟨.load1 (.tm 0), .tm, none⟩, []),
        (⟨.mov (.fr 0), .tm, none⟩, []),
        (⟨.nilck (.tm 0), .tm, none⟩, []),
        (⟨.faddr 0 (.tm 0), .tm, none⟩, []),
        (⟨.load1 (.tm 0), .tm, none⟩, []),
        (⟨.nilck (.tm 0), .tm, none⟩, []),
        (⟨.faddr 1 (.tm 0), .tm, none⟩, []),
        (⟨.load1 (.tm 0), .tm, none⟩, []),
        (⟨.build Z78 [(0, 1, (.c (.int .u8 3))), (1, 1, (.tm 7)), (2, 1, (.tm 0))], .tm, none⟩, []),
        (⟨.storen 78 (.fr 3) (.tm 0), .no, none⟩, []),
        (⟨.mov (.c (.bool false)), .fr 4, none⟩, []),
        (⟨.mov (.c (.int .i64 0)), .fr 5, none⟩, [])]) <|
        .ret)
        (.seq (.reg [
        ⟨.faddr 0 (.fr 2), .tm, none⟩,
        ⟨.load1 (.tm 0), .tm, none⟩,
        ⟨.bin .eql (.tm 0) (.c (.int .u8 1)), .tm, none⟩,
        ⟨.mov (.tm 0), .fr 11, none⟩]) <|
        .cond (.fr 11)
          (.skip)
          (.seq (.dreg [
          (⟨.mov (.fr 0), .tm, none⟩, []),
          (⟨.nilck (.tm 0), .tm, none⟩, []),
          (⟨.faddr 0 (.tm 0), .tm, none⟩, []),
          (⟨.load1 (.tm 0), .tm, none⟩, []),
          (⟨.eqv 1 false (.tm 0) (.c (.pointer none)), .tm, none⟩, []),
          (⟨.mov (.tm 0), .tm, none⟩, []),
          (⟨.loadn 70 (.fr 7), .tm, some ((.tm 0), false)⟩, []),
          (⟨.mov (.fr 0), .tm, some ((.tm 1), false)⟩, []),
          (⟨.nilck (.tm 0), .tm, some ((.tm 2), false)⟩, []),
          (⟨.faddr 0 (.tm 0), .tm, some ((.tm 3), false)⟩, []),
          (⟨.load1 (.tm 0), .tm, some ((.tm 4), false)⟩, []),
          (⟨.nilck (.tm 0), .tm, some ((.tm 5), false)⟩, []),
          (⟨.loadn 70 (.tm 0), .tm, some ((.tm 6), false)⟩, []),
          (⟨.callf 34 [(.tm 6), (.tm 0)], .tm, some ((.tm 7), false)⟩, []),
          (⟨.bin .neq (.tm 0) (.c (.int .i64 0)), .tm, some ((.tm 8), false)⟩, []),
          (⟨.pick (.tm 9) (.c (.bool true)) (.tm 0), .tm, none⟩, []),
          (⟨.mov (.tm 0), .fr 12, none⟩, [])]) <|
          .cond (.fr 12)
            (.seq (.reg [
            ⟨.build Z78 [(0, 1, (.c (.int .u8 4)))], .tm, none⟩,
            ⟨.storen 78 (.fr 3) (.tm 0), .no, none⟩,
            ⟨.mov (.c (.bool false)), .fr 4, none⟩,
            ⟨.mov (.c (.int .i64 0)), .fr 5, none⟩]) <|
            .ret)
            (.dreg [
            (⟨.mov (.fr 0), .tm, none⟩, []),
            (⟨.nilck (.tm 0), .tm, none⟩, []),
            (⟨.faddr 0 (.tm 0), .tm, none⟩, []),
            (⟨.load1 (.tm 0), .tm, none⟩, []),
            (⟨.nilck (.tm 0), .tm, none⟩, []),
            (⟨.faddr 2 (.tm 0), .tm, none⟩, []),
            (⟨.loadn 68 (.tm 0), .tm, none⟩, []),
            (⟨.faddr 73 (.fr 2), .tm, none⟩, []),
            (⟨.loadn 5 (.tm 0), .tm, none⟩, []),
            (⟨.callf 10 [(.tm 2), (.tm 0)], .tm, none⟩, []),
            (⟨.mov (.tm 0), .tm, none⟩, []),
            (⟨.extract (.tm 0) 0, .tm, none⟩, []),
            (⟨.extract (.tm 1) 1, .tm, none⟩, []),
            (⟨.faddr 2 (.fr 6), .tm, none⟩, []),
            (⟨.storen 68 (.tm 0) (.tm 2), .no, none⟩, [])]))))) <|
    .seq (.reg [
    ⟨.mov (.fr 0), .tm, none⟩,
    ⟨.nilck (.tm 0), .tm, none⟩,
    ⟨.faddr 0 (.tm 0), .tm, none⟩,
    ⟨.store1 (.tm 0) (.fr 6), .no, none⟩]) <|
    .seq (.reg [
    ⟨.faddr 0 (.fr 6), .tm, none⟩,
    ⟨.load1 (.tm 0), .tm, none⟩,
    ⟨.faddr 1 (.fr 6), .tm, none⟩,
    ⟨.load1 (.tm 0), .tm, none⟩,
    ⟨.build Z78 [(0, 1, (.c (.int .u8 3))), (1, 1, (.tm 2)), (2, 1, (.tm 0))], .tm, none⟩,
    ⟨.storen 78 (.fr 3) (.tm 0), .no, none⟩,
    ⟨.mov (.c (.bool true)), .fr 4, none⟩,
    ⟨.mov (.c (.int .i64 0)), .fr 5, none⟩]) <|
    .ret, [.cn 78 3, .t 4, .t 5]⟩
/-- semaphore/semaphorelaw25.drop ; args 2 ; slots [0, 1, 4, 5] -/
def f18 : AFunc := ⟨[0, 1, 4, 5],
  .seq (.reg [
    ⟨.mov (.c (.slice none 0 0)), .fr 2, none⟩]) <|
    .seq (.reg [
    ⟨.mov (.c (.slice none 0 0)), .fr 3, none⟩]) <|
    .seq (.reg [
    ⟨.mov (.fr 3), .tm, none⟩,
    ⟨.mov (.fr 0), .tm, none⟩,
    ⟨.mov (.fr 1), .tm, none⟩,
    ⟨.slsl 78 (.tm 1) none (some (.tm 0)) none, .tm, none⟩,
    ⟨.app 41 78 192 (.tm 3) (.tm 0), .tm, none⟩,
    ⟨.mov (.tm 0), .fr 3, none⟩]) <|
    .seq (.reg [
    ⟨.mov (.fr 3), .tm, none⟩,
    ⟨.mov (.fr 0), .tm, none⟩,
    ⟨.mov (.fr 1), .tm, none⟩,
    ⟨.bin .add (.tm 0) (.c (.int .i64 1)), .tm, none⟩,
    ⟨.slsl 78 (.tm 2) (some (.tm 0)) none none, .tm, none⟩,
    ⟨.app 41 78 192 (.tm 4) (.tm 0), .tm, none⟩,
    ⟨.mov (.tm 0), .fr 3, none⟩]) <|
    .seq (.reg [
    ⟨.mov (.fr 3), .tm, none⟩,
    ⟨.mov (.tm 0), .fr 2, none⟩]) <|
    .ret, [.t 2]⟩
/-- (*semaphore/repl.Sender).Hear ; args 2 ; slots [0, 1, 3, 4, 5, 6, 7, 10, 19, 39] -/
def f19 : AFunc := ⟨[0, 1, 3, 4, 5, 6, 7, 10, 19, 39],
  .seq (.reg [
    ⟨.box 41 78 (.fr 1), .fr 2, none⟩,
    ⟨.mov (.c (.int .i64 0)), .fr 3, none⟩]) <|
    .seq (.block 0 (.seq (.reg [
      ⟨.mov (.fr 0), .tm, none⟩,
      ⟨.eqv 1 false (.tm 0) (.c (.pointer none)), .tm, none⟩,
      ⟨.mov (.tm 0), .fr 6, none⟩]) <|
      .cond (.fr 6)
        (.seq (.reg [
        ⟨.mov (.c (.int .i64 1)), .fr 3, none⟩]) <|
        .ret)
        (.seq (.reg [
        ⟨.loadn 78 (.fr 2), .tm, none⟩,
        ⟨.callf 35 [(.tm 0)], .tm, none⟩,
        ⟨.un .not (.tm 0), .tm, none⟩,
        ⟨.mov (.tm 0), .tm, none⟩,
        ⟨.faddr 0 (.fr 2), .tm, some ((.tm 0), false)⟩,
        ⟨.load1 (.tm 0), .tm, some ((.tm 1), false)⟩,
        ⟨.bin .lss (.tm 0) (.c (.int .u8 3)), .tm, some ((.tm 2), false)⟩,
        ⟨.pick (.tm 3) (.c (.bool true)) (.tm 0), .tm, none⟩,
        ⟨.mov (.tm 0), .fr 7, none⟩]) <|
        .cond (.fr 7)
          (.seq (.reg [
          ⟨.mov (.c (.int .i64 2)), .fr 3, none⟩]) <|
          .ret)
          (.seq (.reg [
          ⟨.faddr 0 (.fr 2), .tm, none⟩,
          ⟨.load1 (.tm 0), .tm, none⟩,
          ⟨.bin .eql (.tm 0) (.c (.int .u8 4)), .tm, none⟩,
          ⟨.mov (.tm 0), .fr 8, none⟩]) <|
          .cond (.fr 8)
            (.seq (.reg [
            ⟨.mov (.fr 0), .tm, none⟩,
            ⟨.nilck (.tm 0), .tm, none⟩,
            ⟨.faddr 1 (.tm 0), .tm, none⟩,
            ⟨.store1 (.tm 0) (.c (.int .i64 0)), .no, none⟩]) <|
            .seq (.reg [
            ⟨.mov (.c (.int .i64 0)), .fr 3, none⟩]) <|
            .ret)
            (.skip))))) <|
    .seq (.dreg [
    (⟨.mov (.fr 0), .tm, none⟩, []),
    (⟨.nilck (.tm 0), .tm, none⟩, []),
    (⟨.faddr 0 (.tm 0), .tm, none⟩, []),
    (⟨.load1 (.tm 0), .tm, none⟩, []),
    (⟨.faddr 1 (.fr 2), .tm, none⟩, []),
    (⟨.load1 (.tm 0), .tm, none⟩, []),
    (⟨.faddr 2 (.fr 2), .tm, none⟩, []),
    (⟨.load1 (.tm 0), .tm, none⟩, []),
    (⟨.build Z70 [(0, 1, (.tm 2)), (1, 1, (.tm 0))], .tm, none⟩, []),
    (⟨.callf 36 [(.tm 5), (.tm 0), (.fn 34)], .tm, none⟩, []),
    (⟨.mov (.tm 0), .tm, none⟩, []),
    (⟨.extract (.tm 0) 0, .tm, none⟩, []),
    (⟨.extract (.tm 1) 1, .tm, none⟩, []),
    (⟨.mov (.tm 1), .fr 4, none⟩, []),
    (⟨.mov (.tm 0), .fr 5, none⟩, [])]) <|
    .seq (.seq (.reg [
    ⟨.mov (.fr 5), .fr 9, none⟩]) <|
    .cond (.fr 9)
      (.reg [
      ⟨.mov (.fr 0), .tm, none⟩,
      ⟨.mov (.fr 0), .tm, none⟩,
      ⟨.nilck (.tm 0), .tm, none⟩,
      ⟨.faddr 1 (.tm 0), .tm, none⟩,
      ⟨.load1 (.tm 0), .tm, none⟩,
      ⟨.mov (.fr 4), .tm, none⟩,
      ⟨.bin .add (.tm 0) (.c (.int .i64 1)), .tm, none⟩,
      ⟨.mm true (.tm 2) (.tm 0), .tm, none⟩,
      ⟨.nilck (.tm 7), .tm, none⟩,
      ⟨.faddr 1 (.tm 0), .tm, none⟩,
      ⟨.store1 (.tm 0) (.tm 2), .no, none⟩])
      (.skip)) <|
    .seq (.reg [
    ⟨.mov (.c (.int .i64 0)), .fr 3, none⟩]) <|
    .ret, [.t 3]⟩
/-- (*semaphore/repl.Receiver).Has ; args 1 ; slots [0, 2, 3, 12] -/
def f20 : AFunc := ⟨[0, 2, 3, 12],
  .seq (.reg [
    ⟨.new 54 70 Z70, .fr 1, none⟩,
    ⟨.mov (.c (.bool false)), .fr 2, none⟩]) <|
    .seq (.seq (.reg [
    ⟨.mov (.fr 0), .tm, none⟩,
    ⟨.eqv 1 false (.tm 0) (.c (.pointer none)), .tm, none⟩,
    ⟨.mov (.tm 0), .tm, none⟩,
    ⟨.mov (.fr 0), .tm, some ((.tm 0), false)⟩,
    ⟨.nilck (.tm 0), .tm, some ((.tm 1), false)⟩,
    ⟨.faddr 0 (.tm 0), .tm, some ((.tm 2), false)⟩,
    ⟨.load1 (.tm 0), .tm, some ((.tm 3), false)⟩,
    ⟨.eqv 1 false (.tm 0) (.c (.pointer none)), .tm, some ((.tm 4), false)⟩,
    ⟨.pick (.tm 5) (.c (.bool true)) (.tm 0), .fr 3, none⟩]) <|
    .cond (.fr 3)
      (.seq (.reg [
      ⟨.build Z70 [], .tm, none⟩,
      ⟨.storen 70 (.fr 1) (.tm 0), .no, none⟩,
      ⟨.mov (.c (.bool false)), .fr 2, none⟩]) <|
      .ret)
      (.skip)) <|
    .seq (.reg [
    ⟨.mov (.fr 0), .tm, none⟩,
    ⟨.nilck (.tm 0), .tm, none⟩,
    ⟨.faddr 0 (.tm 0), .tm, none⟩,
    ⟨.load1 (.tm 0), .tm, none⟩,
    ⟨.nilck (.tm 0), .tm, none⟩,
    ⟨.loadn 70 (.tm 0), .tm, none⟩,
    ⟨.storen 70 (.fr 1) (.tm 0), .no, none⟩,
    ⟨.mov (.c (.bool true)), .fr 2, none⟩]) <|
    .ret, [.cn 70 1, .t 2]⟩
/-- semaphore/semaphorelaw25.few ; args 1 ; slots [0, 2, 3, 4, 7, 11, 24] -/
def f21 : AFunc := ⟨[0, 2, 3, 4, 7, 11, 24],
  .seq (.reg [
    ⟨.mov (.c (.bool false)), .fr 1, none⟩]) <|
    .seq (.seq (.reg [
    ⟨.mov (.fr 0), .tm, none⟩,
    ⟨.len false (.tm 0), .tm, none⟩,
    ⟨.bin .gtr (.tm 0) (.c (.int .i64 100)), .fr 4, none⟩]) <|
    .cond (.fr 4)
      (.seq (.reg [
      ⟨.mov (.c (.bool false)), .fr 1, none⟩]) <|
      .ret)
      (.skip)) <|
    .seq (.reg [
    ⟨.mov (.c (.int .i64 0)), .fr 2, none⟩]) <|
    .seq (.seq (.reg [
    ⟨.mov (.c (.int .i64 0)), .fr 3, none⟩]) <|
    .block 0 (.loop (.seq (.seq (.reg [
        ⟨.mov (.fr 3), .tm, none⟩,
        ⟨.mov (.fr 0), .tm, none⟩,
        ⟨.len false (.tm 0), .tm, none⟩,
        ⟨.bin .lss (.tm 2) (.tm 0), .fr 5, none⟩]) <|
        .cond (.fr 5)
          (.skip)
          (.exit 0)) <|
        .seq (.block 1 (.seq (.seq (.reg [
          ⟨.mov (.fr 0), .tm, none⟩,
          ⟨.mov (.fr 3), .tm, none⟩,
          ⟨.iaddr 149 (.tm 1) (.tm 0), .tm, none⟩,
          ⟨.faddr 71 (.tm 0), .tm, none⟩,
          ⟨.faddr 73 (.tm 0), .tm, none⟩,
          ⟨.faddr 4 (.tm 0), .tm, none⟩,
          ⟨.load1 (.tm 0), .tm, none⟩,
          ⟨.len false (.tm 0), .tm, none⟩,
          ⟨.mov (.fr 2), .tm, none⟩,
          ⟨.bin .sub (.c (.int .i64 1000)) (.tm 0), .tm, none⟩,
          ⟨.bin .gtr (.tm 2) (.tm 0), .fr 6, none⟩]) <|
          .cond (.fr 6)
            (.seq (.reg [
            ⟨.mov (.c (.bool false)), .fr 1, none⟩]) <|
            .ret)
            (.skip)) <|
          .reg [
          ⟨.mov (.fr 2), .tm, none⟩,
          ⟨.mov (.fr 0), .tm, none⟩,
          ⟨.mov (.fr 3), .tm, none⟩,
          ⟨.iaddr 149 (.tm 1) (.tm 0), .tm, none⟩,
          ⟨.faddr 71 (.tm 0), .tm, none⟩,
          ⟨.faddr 73 (.tm 0), .tm, none⟩,
          ⟨.faddr 4 (.tm 0), .tm, none⟩,
          ⟨.load1 (.tm 0), .tm, none⟩,
          ⟨.len false (.tm 0), .tm, none⟩,
          ⟨.bin .add (.tm 8) (.tm 0), .tm, none⟩,
          ⟨.mov (.tm 0), .fr 2, none⟩])) <|
        .reg [
        ⟨.mov (.fr 3), .tm, none⟩,
        ⟨.bin .add (.tm 0) (.c (.int .i64 1)), .tm, none⟩,
        ⟨.mov (.tm 0), .fr 3, none⟩]))) <|
    .seq (.reg [
    ⟨.mov (.c (.bool true)), .fr 1, none⟩]) <|
    .ret, [.t 1]⟩
/-- semaphore/semaphoreref25.NewSender ; args 0 ; slots [0] -/
def f22 : AFunc := ⟨[0],
  .seq (.reg [
    ⟨.mov (.c (.pointer none)), .fr 0, none⟩]) <|
    .seq (.reg [
    ⟨.build [(.slice none 0 0), (.int .i64 0)] [(1, 1, (.c (.int .i64 (-1))))], .tm, none⟩,
    ⟨.box 99 2 (.tm 0), .tm, none⟩,
    ⟨.mov (.tm 0), .fr 0, none⟩]) <|
    .ret, [.t 0]⟩
/-- semaphore/semaphorelaw25.does ; args 5 ; slots [0, 1, 2, 3, 4, 9, 10, 11, 12, 13, 14, 15, 16, 17, 18, 19, 20, 21, 22, 23, 24, 25, 26, 29, 30, 43, 55, 89, 120, 127, 165] -/
def f23 : AFunc := ⟨[0, 1, 2, 3, 4, 9, 10, 11, 12, 13, 14, 15, 16, 17, 18, 19, 20, 21, 22, 23, 24, 25, 26, 29, 30, 43, 55, 89, 120, 127, 165],
  .seq (.reg [
    ⟨.box 79 149 (.fr 4), .fr 5, none⟩,
    ⟨.mov (.c (.bool false)), .fr 6, none⟩]) <|
    .seq (.seq (.reg [
    ⟨.faddr 0 (.fr 5), .tm, none⟩,
    ⟨.load1 (.tm 0), .tm, none⟩,
    ⟨.bin .rem (.tm 0) (.c (.int .u8 8)), .fr 23, none⟩]) <|
    .block 0 (.seq (.seq (.reg [
      ⟨.bin .eql (.fr 23) (.c (.int .u8 0)), .tm, none⟩,
      ⟨.mov (.tm 0), .fr 24, none⟩]) <|
      .cond (.fr 24)
        (.skip)
        (.reg [
        ⟨.bin .eql (.fr 23) (.c (.int .u8 1)), .tm, none⟩,
        ⟨.mov (.tm 0), .fr 24, none⟩])) <|
      .cond (.fr 24)
        (.seq (.dreg [
        (⟨.mov (.fr 0), .tm, none⟩, []),
        (⟨.faddr 1 (.fr 5), .tm, none⟩, []),
        (⟨.loadn 70 (.tm 0), .tm, none⟩, []),
        (⟨.callf 15 [(.tm 2), (.tm 0)], .tm, none⟩, []),
        (⟨.mov (.fr 2), .tm, none⟩, []),
        (⟨.faddr 1 (.fr 5), .tm, none⟩, []),
        (⟨.loadn 70 (.tm 0), .tm, none⟩, [3]),
        (⟨.callf 38 [(.tm 0)], .tm, none⟩, []),
        (⟨.callf 37 [(.tm 3), (.tm 0)], .tm, none⟩, []),
        (⟨.bin .eql (.tm 5) (.tm 0), .tm, none⟩, []),
        (⟨.mov (.tm 0), .fr 6, none⟩, [])]) <|
        .ret)
        (.seq (.reg [
        ⟨.bin .eql (.fr 23) (.c (.int .u8 3)), .tm, none⟩,
        ⟨.mov (.tm 0), .fr 25, none⟩]) <|
        .cond (.fr 25)
          (.seq (.dreg [
          (⟨.mov (.fr 0), .tm, none⟩, []),
          (⟨.faddr 71 (.fr 5), .tm, none⟩, []),
          (⟨.loadn 78 (.tm 0), .tm, none⟩, []),
          (⟨.callf 19 [(.tm 2), (.tm 0)], .tm, none⟩, []),
          (⟨.mov (.fr 2), .tm, none⟩, []),
          (⟨.faddr 71 (.fr 5), .tm, none⟩, []),
          (⟨.loadn 78 (.tm 0), .tm, none⟩, [3]),
          (⟨.callf 12 [(.tm 0)], .tm, none⟩, []),
          (⟨.callf 39 [(.tm 3), (.tm 0)], .tm, none⟩, []),
          (⟨.bin .eql (.tm 5) (.tm 0), .tm, none⟩, []),
          (⟨.mov (.tm 0), .fr 6, none⟩, [])]) <|
          .ret)
          (.seq (.seq (.reg [
          ⟨.bin .eql (.fr 23) (.c (.int .u8 4)), .tm, none⟩,
          ⟨.mov (.tm 0), .fr 26, none⟩]) <|
          .cond (.fr 26)
            (.skip)
            (.reg [
            ⟨.bin .eql (.fr 23) (.c (.int .u8 5)), .tm, none⟩,
            ⟨.mov (.tm 0), .fr 26, none⟩])) <|
          .cond (.fr 26)
            (.seq (.reg [
            ⟨.mov (.fr 1), .tm, none⟩,
            ⟨.faddr 71 (.fr 5), .tm, none⟩,
            ⟨.loadn 78 (.tm 0), .tm, none⟩,
            ⟨.callf 17 [(.tm 2), (.tm 0)], .tm, none⟩,
            ⟨.mov (.tm 0), .tm, none⟩,
            ⟨.extract (.tm 0) 0, .tm, none⟩,
            ⟨.extract (.tm 1) 1, .tm, none⟩,
            ⟨.extract (.tm 2) 2, .tm, none⟩,
            ⟨.new 41 78 Z78, .fr 7, none⟩,
            ⟨.storen 78 (.fr 7) (.tm 2), .no, none⟩,
            ⟨.mov (.tm 1), .fr 8, none⟩,
            ⟨.mov (.tm 0), .fr 9, none⟩]) <|
            .seq (.reg [
            ⟨.mov (.fr 3), .tm, none⟩,
            ⟨.faddr 71 (.fr 5), .tm, none⟩,
            ⟨.loadn 78 (.tm 0), .tm, none⟩,
            ⟨.callf 12 [(.tm 0)], .tm, none⟩,
            ⟨.callf 40 [(.tm 3), (.tm 0)], .tm, none⟩,
            ⟨.mov (.tm 0), .tm, none⟩,
            ⟨.extract (.tm 0) 0, .tm, none⟩,
            ⟨.extract (.tm 1) 1, .tm, none⟩,
            ⟨.extract (.tm 2) 2, .tm, none⟩,
            ⟨.new 38 78 Z78, .fr 10, none⟩,
            ⟨.storen 78 (.fr 10) (.tm 2), .no, none⟩,
            ⟨.mov (.tm 1), .fr 11, none⟩,
            ⟨.mov (.tm 0), .fr 12, none⟩]) <|
            .seq (.dreg [
            (⟨.loadn 78 (.fr 7), .tm, none⟩, []),
            (⟨.callf 12 [(.tm 0)], .tm, none⟩, []),
            (⟨.loadn 78 (.fr 10), .tm, none⟩, [1]),
            (⟨.callf 13 [(.tm 1), (.tm 0)], .tm, none⟩, []),
            (⟨.mov (.tm 0), .tm, none⟩, []),
            (⟨.mov (.fr 8), .tm, some ((.tm 0), true)⟩, []),
            (⟨.mov (.fr 11), .tm, some ((.tm 1), true)⟩, []),
            (⟨.eqv 0 false (.tm 1) (.tm 0), .tm, some ((.tm 2), true)⟩, []),
            (⟨.pick (.tm 3) (.tm 0) (.c (.bool false)), .tm, none⟩, []),
            (⟨.mov (.tm 0), .tm, none⟩, []),
            (⟨.mov (.fr 9), .tm, some ((.tm 0), true)⟩, []),
            (⟨.mov (.fr 12), .tm, some ((.tm 1), true)⟩, []),
            (⟨.bin .eql (.tm 1) (.tm 0), .tm, some ((.tm 2), true)⟩, []),
            (⟨.pick (.tm 3) (.tm 0) (.c (.bool false)), .tm, none⟩, []),
            (⟨.mov (.tm 0), .fr 6, none⟩, [])]) <|
            .ret)
            (.seq (.reg [
            ⟨.bin .eql (.fr 23) (.c (.int .u8 6)), .tm, none⟩,
            ⟨.mov (.tm 0), .fr 27, none⟩]) <|
            .cond (.fr 27)
              (.seq (.dreg [
              (⟨.mov (.fr 1), .tm, none⟩, []),
              (⟨.faddr 1 (.fr 5), .tm, none⟩, []),
              (⟨.loadn 70 (.tm 0), .tm, none⟩, []),
              (⟨.callf 30 [(.tm 2), (.tm 0)], .tm, none⟩, []),
              (⟨.mov (.fr 3), .tm, none⟩, []),
              (⟨.faddr 1 (.fr 5), .tm, none⟩, []),
              (⟨.loadn 70 (.tm 0), .tm, none⟩, [3]),
              (⟨.callf 38 [(.tm 0)], .tm, none⟩, []),
              (⟨.callf 41 [(.tm 3), (.tm 0)], .tm, none⟩, []),
              (⟨.bin .eql (.tm 5) (.tm 0), .tm, none⟩, []),
              (⟨.mov (.tm 0), .fr 6, none⟩, [])]) <|
              .ret)
              (.skip)))))) <|
    .seq (.reg [
    ⟨.mov (.fr 0), .tm, none⟩,
    ⟨.callf 16 [(.tm 0)], .tm, none⟩,
    ⟨.mov (.tm 0), .tm, none⟩,
    ⟨.extract (.tm 0) 0, .tm, none⟩,
    ⟨.extract (.tm 1) 1, .tm, none⟩,
    ⟨.new 41 78 Z78, .fr 13, none⟩,
    ⟨.storen 78 (.fr 13) (.tm 1), .no, none⟩,
    ⟨.mov (.tm 0), .fr 14, none⟩]) <|
    .seq (.reg [
    ⟨.mov (.fr 2), .tm, none⟩,
    ⟨.callf 42 [(.tm 0)], .tm, none⟩,
    ⟨.mov (.tm 0), .tm, none⟩,
    ⟨.extract (.tm 0) 0, .tm, none⟩,
    ⟨.extract (.tm 1) 1, .tm, none⟩,
    ⟨.new 38 78 Z78, .fr 15, none⟩,
    ⟨.storen 78 (.fr 15) (.tm 1), .no, none⟩,
    ⟨.mov (.tm 0), .fr 16, none⟩]) <|
    .seq (.seq (.dreg [
    (⟨.loadn 78 (.fr 13), .tm, none⟩, []),
    (⟨.callf 12 [(.tm 0)], .tm, none⟩, []),
    (⟨.loadn 78 (.fr 15), .tm, none⟩, [1]),
    (⟨.callf 13 [(.tm 1), (.tm 0)], .tm, none⟩, []),
    (⟨.un .not (.tm 0), .tm, none⟩, []),
    (⟨.mov (.tm 0), .tm, none⟩, []),
    (⟨.mov (.fr 14), .tm, some ((.tm 0), false)⟩, []),
    (⟨.mov (.fr 16), .tm, some ((.tm 1), false)⟩, []),
    (⟨.eqv 0 true (.tm 1) (.tm 0), .tm, some ((.tm 2), false)⟩, []),
    (⟨.pick (.tm 3) (.c (.bool true)) (.tm 0), .fr 28, none⟩, [])]) <|
    .cond (.fr 28)
      (.seq (.reg [
      ⟨.mov (.c (.bool false)), .fr 6, none⟩]) <|
      .ret)
      (.skip)) <|
    .seq (.seq (.reg [
    ⟨.faddr 0 (.fr 5), .tm, none⟩,
    ⟨.load1 (.tm 0), .tm, none⟩,
    ⟨.bin .rem (.tm 0) (.c (.int .u8 8)), .tm, none⟩,
    ⟨.bin .eql (.tm 0) (.c (.int .u8 7)), .tm, none⟩,
    ⟨.mov (.tm 0), .tm, none⟩,
    ⟨.mov (.fr 14), .tm, some ((.tm 0), true)⟩,
    ⟨.pick (.tm 1) (.tm 0) (.c (.bool false)), .fr 29, none⟩]) <|
    .cond (.fr 29)
      (.seq (.reg [
      ⟨.mov (.fr 1), .tm, none⟩,
      ⟨.loadn 78 (.fr 13), .tm, none⟩,
      ⟨.callf 17 [(.tm 1), (.tm 0)], .tm, none⟩,
      ⟨.mov (.tm 0), .tm, none⟩,
      ⟨.extract (.tm 0) 0, .tm, none⟩,
      ⟨.extract (.tm 1) 1, .tm, none⟩,
      ⟨.extract (.tm 2) 2, .tm, none⟩,
      ⟨.new 41 78 Z78, .fr 17, none⟩,
      ⟨.storen 78 (.fr 17) (.tm 2), .no, none⟩,
      ⟨.mov (.tm 1), .fr 18, none⟩,
      ⟨.mov (.tm 0), .fr 19, none⟩]) <|
      .seq (.reg [
      ⟨.mov (.fr 3), .tm, none⟩,
      ⟨.loadn 78 (.fr 15), .tm, none⟩,
      ⟨.callf 40 [(.tm 1), (.tm 0)], .tm, none⟩,
      ⟨.mov (.tm 0), .tm, none⟩,
      ⟨.extract (.tm 0) 0, .tm, none⟩,
      ⟨.extract (.tm 1) 1, .tm, none⟩,
      ⟨.extract (.tm 2) 2, .tm, none⟩,
      ⟨.new 38 78 Z78, .fr 20, none⟩,
      ⟨.storen 78 (.fr 20) (.tm 2), .no, none⟩,
      ⟨.mov (.tm 1), .fr 21, none⟩,
      ⟨.mov (.tm 0), .fr 22, none⟩]) <|
      .seq (.dreg [
      (⟨.loadn 78 (.fr 17), .tm, none⟩, []),
      (⟨.callf 12 [(.tm 0)], .tm, none⟩, []),
      (⟨.loadn 78 (.fr 20), .tm, none⟩, [1]),
      (⟨.callf 13 [(.tm 1), (.tm 0)], .tm, none⟩, []),
      (⟨.un .not (.tm 0), .tm, none⟩, []),
      (⟨.mov (.tm 0), .tm, none⟩, []),
      (⟨.mov (.fr 18), .tm, some ((.tm 0), false)⟩, []),
      (⟨.mov (.fr 21), .tm, some ((.tm 1), false)⟩, []),
      (⟨.eqv 0 true (.tm 1) (.tm 0), .tm, some ((.tm 2), false)⟩, []),
      (⟨.pick (.tm 3) (.c (.bool true)) (.tm 0), .tm, none⟩, []),
      (⟨.mov (.tm 0), .tm, none⟩, []),
      (⟨.mov (.fr 19), .tm, some ((.tm 0), false)⟩, []),
      (⟨.mov (.fr 22), .tm, some ((.tm 1), false)⟩, []),
      (⟨.bin .neq (.tm 1) (.tm 0), .tm, some ((.tm 2), false)⟩, []),
      (⟨.pick (.tm 3) (.c (.bool true)) (.tm 0), .tm, none⟩, []),
      (⟨.mov (.tm 0), .tm, none⟩, []),
      (⟨.mov (.fr 0), .tm, some ((.tm 0), false)⟩, []),
      (⟨.loadn 78 (.fr 17), .tm, some ((.tm 1), false)⟩, []),
      (⟨.callf 19 [(.tm 1), (.tm 0)], .tm, some ((.tm 2), false)⟩, []),
      (⟨.mov (.fr 2), .tm, some ((.tm 3), false)⟩, []),
      (⟨.loadn 78 (.fr 20), .tm, some ((.tm 4), false)⟩, [18]),
      (⟨.callf 39 [(.tm 1), (.tm 0)], .tm, some ((.tm 5), false)⟩, []),
      (⟨.bin .neq (.tm 3) (.tm 0), .tm, some ((.tm 6), false)⟩, []),
      (⟨.pick (.tm 7) (.c (.bool true)) (.tm 0), .fr 30, none⟩, [])]) <|
      .cond (.fr 30)
        (.seq (.reg [
        ⟨.mov (.c (.bool false)), .fr 6, none⟩]) <|
        .ret)
        (.skip))
      (.skip)) <|
    .seq (.reg [
    ⟨.loadn 78 (.fr 13), .tm, none⟩,
    ⟨.callf 43 [(.tm 0)], .tm, none⟩]) <|
    .seq (.reg [
    ⟨.mov (.c (.bool true)), .fr 6, none⟩]) <|
    .ret, [.t 6]⟩
/-- semaphore/semaphorelaw25.tells ; args 4 ; slots [0, 1, 2, 3, 8, 9, 10, 11, 12, 13, 28] -/
def f24 : AFunc := ⟨[0, 1, 2, 3, 8, 9, 10, 11, 12, 13, 28],
  .seq (.reg [
    ⟨.mov (.c (.bool false)), .fr 4, none⟩]) <|
    .seq (.reg [
    ⟨.mov (.fr 0), .tm, none⟩,
    ⟨.callf 29 [(.tm 0)], .tm, none⟩,
    ⟨.mov (.tm 0), .tm, none⟩,
    ⟨.extract (.tm 0) 0, .tm, none⟩,
    ⟨.extract (.tm 1) 1, .tm, none⟩,
    ⟨.new 54 70 Z70, .fr 5, none⟩,
    ⟨.storen 70 (.fr 5) (.tm 1), .no, none⟩,
    ⟨.mov (.tm 0), .fr 6, none⟩]) <|
    .seq (.reg [
    ⟨.mov (.fr 1), .tm, none⟩,
    ⟨.callf 20 [(.tm 0)], .tm, none⟩,
    ⟨.mov (.tm 0), .tm, none⟩,
    ⟨.extract (.tm 0) 0, .tm, none⟩,
    ⟨.extract (.tm 1) 1, .tm, none⟩,
    ⟨.new 54 70 Z70, .fr 7, none⟩,
    ⟨.storen 70 (.fr 7) (.tm 1), .no, none⟩,
    ⟨.mov (.tm 0), .fr 8, none⟩]) <|
    .seq (.reg [
    ⟨.new 72 70 Z70, .fr 9, none⟩]) <|
    .seq (.seq (.reg [
    ⟨.mov (.fr 2), .tm, none⟩,
    ⟨.nilck (.tm 0), .tm, none⟩,
    ⟨.faddr 1 (.tm 0), .tm, none⟩,
    ⟨.load1 (.tm 0), .tm, none⟩,
    ⟨.bin .geq (.tm 0) (.c (.int .i64 0)), .fr 10, none⟩]) <|
    .cond (.fr 10)
      (.dreg [
      (⟨.mov (.fr 2), .tm, none⟩, []),
      (⟨.nilck (.tm 0), .tm, none⟩, []),
      (⟨.faddr 0 (.tm 0), .tm, none⟩, []),
      (⟨.load1 (.tm 0), .tm, none⟩, []),
      (⟨.mov (.fr 2), .tm, none⟩, []),
      (⟨.nilck (.tm 0), .tm, none⟩, []),
      (⟨.faddr 1 (.tm 0), .tm, none⟩, []),
      (⟨.load1 (.tm 0), .tm, none⟩, []),
      (⟨.iaddr 70 (.tm 4) (.tm 0), .tm, none⟩, []),
      (⟨.loadn 70 (.tm 0), .tm, none⟩, []),
      (⟨.storen 70 (.fr 9) (.tm 0), .no, none⟩, [])])
      (.skip)) <|
    .seq (.dreg [
    (⟨.loadn 70 (.fr 5), .tm, none⟩, []),
    (⟨.callf 38 [(.tm 0)], .tm, none⟩, []),
    (⟨.loadn 70 (.fr 9), .tm, none⟩, [1]),
    (⟨.eqs O70 false (.tm 1) (.tm 0), .tm, none⟩, []),
    (⟨.mov (.tm 0), .tm, none⟩, []),
    (⟨.mov (.fr 6), .tm, some ((.tm 0), true)⟩, []),
    (⟨.mov (.fr 2), .tm, some ((.tm 1), true)⟩, []),
    (⟨.nilck (.tm 0), .tm, some ((.tm 2), true)⟩, []),
    (⟨.faddr 1 (.tm 0), .tm, some ((.tm 3), true)⟩, []),
    (⟨.load1 (.tm 0), .tm, some ((.tm 4), true)⟩, []),
    (⟨.bin .geq (.tm 0) (.c (.int .i64 0)), .tm, some ((.tm 5), true)⟩, []),
    (⟨.eqv 0 false (.tm 5) (.tm 0), .tm, some ((.tm 6), true)⟩, []),
    (⟨.pick (.tm 7) (.tm 0) (.c (.bool false)), .tm, none⟩, []),
    (⟨.mov (.tm 0), .tm, none⟩, []),
    (⟨.loadn 70 (.fr 7), .tm, some ((.tm 0), true)⟩, []),
    (⟨.callf 38 [(.tm 0)], .tm, some ((.tm 1), true)⟩, []),
    (⟨.mov (.fr 3), .tm, some ((.tm 2), true)⟩, []),
    (⟨.nilck (.tm 0), .tm, some ((.tm 3), true)⟩, []),
    (⟨.faddr 0 (.tm 0), .tm, some ((.tm 4), true)⟩, []),
    (⟨.loadn 70 (.tm 0), .tm, some ((.tm 5), true)⟩, [15]),
    (⟨.eqs O70 false (.tm 4) (.tm 0), .tm, some ((.tm 6), true)⟩, []),
    (⟨.pick (.tm 7) (.tm 0) (.c (.bool false)), .tm, none⟩, []),
    (⟨.mov (.tm 0), .tm, none⟩, []),
    (⟨.mov (.fr 8), .tm, some ((.tm 0), true)⟩, []),
    (⟨.mov (.fr 3), .tm, some ((.tm 1), true)⟩, []),
    (⟨.nilck (.tm 0), .tm, some ((.tm 2), true)⟩, []),
    (⟨.faddr 70 (.tm 0), .tm, some ((.tm 3), true)⟩, []),
    (⟨.load1 (.tm 0), .tm, some ((.tm 4), true)⟩, []),
    (⟨.eqv 0 false (.tm 4) (.tm 0), .tm, some ((.tm 5), true)⟩, []),
    (⟨.pick (.tm 6) (.tm 0) (.c (.bool false)), .tm, none⟩, []),
    (⟨.mov (.tm 0), .fr 4, none⟩, [])]) <|
    .ret, [.t 4]⟩
/-- (*semaphore/repl.Sender).Acked ; args 1 ; slots [0, 2, 3, 12] -/
def f29 : AFunc := ⟨[0, 2, 3, 12],
  .seq (.reg [
    ⟨.new 54 70 Z70, .fr 1, none⟩,
    ⟨.mov (.c (.bool false)), .fr 2, none⟩]) <|
    .seq (.seq (.reg [
    ⟨.mov (.fr 0), .tm, none⟩,
    ⟨.eqv 1 false (.tm 0) (.c (.pointer none)), .tm, none⟩,
    ⟨.mov (.tm 0), .tm, none⟩,
    ⟨.mov (.fr 0), .tm, some ((.tm 0), false)⟩,
    ⟨.nilck (.tm 0), .tm, some ((.tm 1), false)⟩,
    ⟨.faddr 1 (.tm 0), .tm, some ((.tm 2), false)⟩,
    ⟨.load1 (.tm 0), .tm, some ((.tm 3), false)⟩,
    ⟨.bin .eql (.tm 0) (.c (.int .i64 0)), .tm, some ((.tm 4), false)⟩,
    ⟨.pick (.tm 5) (.c (.bool true)) (.tm 0), .fr 3, none⟩]) <|
    .cond (.fr 3)
      (.seq (.reg [
      ⟨.build Z70 [], .tm, none⟩,
      ⟨.storen 70 (.fr 1) (.tm 0), .no, none⟩,
      ⟨.mov (.c (.bool false)), .fr 2, none⟩]) <|
      .ret)
      (.skip)) <|
    .seq (.dreg [
    (⟨.mov (.fr 0), .tm, none⟩, []),
    (⟨.nilck (.tm 0), .tm, none⟩, []),
    (⟨.faddr 0 (.tm 0), .tm, none⟩, []),
    (⟨.load1 (.tm 0), .tm, none⟩, []),
    (⟨.mov (.fr 0), .tm, none⟩, []),
    (⟨.nilck (.tm 0), .tm, none⟩, []),
    (⟨.faddr 1 (.tm 0), .tm, none⟩, []),
    (⟨.load1 (.tm 0), .tm, none⟩, []),
    (⟨.bin .sub (.tm 0) (.c (.int .i64 1)), .tm, none⟩, []),
    (⟨.iaddr 70 (.tm 5) (.tm 0), .tm, none⟩, []),
    (⟨.loadn 70 (.tm 0), .tm, none⟩, []),
    (⟨.storen 70 (.fr 1) (.tm 0), .no, none⟩, []),
    (⟨.mov (.c (.bool true)), .fr 2, none⟩, [])]) <|
    .ret, [.cn 70 1, .t 2]⟩
/-- (*semaphore/repl.Receiver).Begin ; args 2 ; slots [0, 1, 3, 4, 5, 8] -/
def f30 : AFunc := ⟨[0, 1, 3, 4, 5, 8],
  .seq (.reg [
    ⟨.box 54 70 (.fr 1), .fr 2, none⟩,
    ⟨.mov (.c (.int .i64 0)), .fr 3, none⟩]) <|
    .seq (.block 0 (.seq (.reg [
      ⟨.mov (.fr 0), .tm, none⟩,
      ⟨.eqv 1 false (.tm 0) (.c (.pointer none)), .tm, none⟩,
      ⟨.mov (.tm 0), .fr 4, none⟩]) <|
      .cond (.fr 4)
        (.seq (.reg [
        ⟨.mov (.c (.int .i64 1)), .fr 3, none⟩]) <|
        .ret)
        (.seq (.reg [
        ⟨.faddr 0 (.fr 2), .tm, none⟩,
        ⟨.load1 (.tm 0), .tm, none⟩,
        ⟨.faddr 1 (.fr 2), .tm, none⟩,
        ⟨.load1 (.tm 0), .tm, none⟩,
        ⟨.bslice 2 1 2 [(.int .i64 0), (.int .i64 0)] [(0, 1, (.tm 2)), (1, 1, (.tm 0))], .tm, none⟩,
        ⟨.callf 33 [(.tm 0)], .tm, none⟩,
        ⟨.un .not (.tm 0), .tm, none⟩,
        ⟨.mov (.tm 0), .fr 5, none⟩]) <|
        .cond (.fr 5)
          (.seq (.reg [
          ⟨.mov (.c (.int .i64 2)), .fr 3, none⟩]) <|
          .ret)
          (.skip)))) <|
    .seq (.reg [
    ⟨.mov (.fr 0), .tm, none⟩,
    ⟨.nilck (.tm 0), .tm, none⟩,
    ⟨.faddr 0 (.tm 0), .tm, none⟩,
    ⟨.store1 (.tm 0) (.fr 2), .no, none⟩]) <|
    .seq (.reg [
    ⟨.mov (.c (.int .i64 0)), .fr 3, none⟩]) <|
    .ret, [.t 3]⟩
/-- semaphore/repl.in ; args 1 ; slots [0, 2] -/
def f33 : AFunc := ⟨[0, 2],
  .seq (.reg [
    ⟨.mov (.c (.bool false)), .fr 1, none⟩]) <|
    .seq (.reg [
    ⟨.mov (.fr 0), .tm, none⟩,
    ⟨.callf 64 [(.tm 0)], .tm, none⟩,
    ⟨.bin .geq (.tm 0) (.c (.int .i64 0)), .tm, none⟩,
    ⟨.mov (.tm 0), .tm, none⟩,
    ⟨.mov (.fr 0), .tm, some ((.tm 0), true)⟩,
    ⟨.callf 65 [(.tm 0)], .tm, some ((.tm 1), true)⟩,
    ⟨.bin .leq (.tm 0) (.c (.int .i64 1099511627776)), .tm, some ((.tm 2), true)⟩,
    ⟨.pick (.tm 3) (.tm 0) (.c (.bool false)), .tm, none⟩,
    ⟨.mov (.tm 0), .fr 1, none⟩]) <|
    .ret, [.t 1]⟩
/-- semaphore/repl.compare ; args 2 ; slots [0, 1, 2, 3, 4] -/
def f34 : AFunc := ⟨[0, 1, 2, 3, 4],
  .seq (.reg [
    ⟨.box 54 70 (.fr 0), .fr 2, none⟩,
    ⟨.box 54 70 (.fr 1), .fr 3, none⟩,
    ⟨.mov (.c (.int .i64 0)), .fr 4, none⟩]) <|
    .seq (.dreg [
    (⟨.faddr 0 (.fr 2), .tm, none⟩, []),
    (⟨.load1 (.tm 0), .tm, none⟩, []),
    (⟨.faddr 0 (.fr 3), .tm, none⟩, []),
    (⟨.load1 (.tm 0), .tm, none⟩, []),
    (⟨.callf 67 [(.tm 2), (.tm 0)], .tm, none⟩, []),
    (⟨.faddr 1 (.fr 2), .tm, none⟩, []),
    (⟨.load1 (.tm 0), .tm, none⟩, [4]),
    (⟨.faddr 1 (.fr 3), .tm, none⟩, []),
    (⟨.load1 (.tm 0), .tm, none⟩, [4]),
    (⟨.callf 67 [(.tm 2), (.tm 0)], .tm, none⟩, []),
    (⟨.bslice 3 1 2 [(.int .i64 0), (.int .i64 0)] [(0, 1, (.tm 5)), (1, 1, (.tm 0))], .tm, none⟩, []),
    (⟨.callf 66 [(.tm 0)], .tm, none⟩, []),
    (⟨.mov (.tm 0), .fr 4, none⟩, [])]) <|
    .ret, [.t 4]⟩
/-- (semaphore/repl.Message).may ; args 1 ; slots [0, 1, 2] -/
def f35 : AFunc := ⟨[0, 1, 2],
  .seq (.reg [
    ⟨.box 41 78 (.fr 0), .fr 1, none⟩,
    ⟨.mov (.c (.bool false)), .fr 2, none⟩]) <|
    .seq (.reg [
    ⟨.faddr 0 (.fr 1), .tm, none⟩,
    ⟨.load1 (.tm 0), .tm, none⟩,
    ⟨.bin .geq (.tm 0) (.c (.int .u8 1)), .tm, none⟩,
    ⟨.mov (.tm 0), .tm, none⟩,
    ⟨.faddr 0 (.fr 1), .tm, some ((.tm 0), true)⟩,
    ⟨.load1 (.tm 0), .tm, some ((.tm 1), true)⟩,
    ⟨.bin .leq (.tm 0) (.c (.int .u8 4)), .tm, some ((.tm 2), true)⟩,
    ⟨.pick (.tm 3) (.tm 0) (.c (.bool false)), .tm, none⟩,
    ⟨.mov (.tm 0), .tm, none⟩,
    ⟨.faddr 1 (.fr 1), .tm, some ((.tm 0), true)⟩,
    ⟨.load1 (.tm 0), .tm, some ((.tm 1), true)⟩,
    ⟨.faddr 2 (.fr 1), .tm, some ((.tm 2), true)⟩,
    ⟨.load1 (.tm 0), .tm, some ((.tm 3), true)⟩,
    ⟨.faddr 3 (.fr 1), .tm, some ((.tm 4), true)⟩,
    ⟨.load1 (.tm 0), .tm, some ((.tm 5), true)⟩,
    ⟨.faddr 4 (.fr 1), .tm, some ((.tm 6), true)⟩,
    ⟨.load1 (.tm 0), .tm, some ((.tm 7), true)⟩,
    ⟨.bslice 2 1 4 [(.int .i64 0), (.int .i64 0), (.int .i64 0), (.int .i64 0)] [(0, 1, (.tm 6)), (1, 1, (.tm 4)), (2, 1, (.tm 2)), (3, 1, (.tm 0))], .tm, some ((.tm 8), true)⟩,
    ⟨.callf 33 [(.tm 0)], .tm, some ((.tm 9), true)⟩,
    ⟨.pick (.tm 10) (.tm 0) (.c (.bool false)), .tm, none⟩,
    ⟨.mov (.tm 0), .tm, none⟩,
    ⟨.faddr 73 (.fr 1), .tm, some ((.tm 0), true)⟩,
    ⟨.loadn 5 (.tm 0), .tm, some ((.tm 1), true)⟩,
    ⟨.callf 31 [(.tm 0)], .tm, some ((.tm 2), true)⟩,
    ⟨.pick (.tm 3) (.tm 0) (.c (.bool false)), .tm, none⟩,
    ⟨.mov (.tm 0), .fr 2, none⟩]) <|
    .ret, [.t 2]⟩
/-- slices.BinarySearchFunc[[]semaphore/frame.Log,semaphore/frame.Log,semaphore/frame.Log] ; args 3 ; slots [0, 1, 2, 4, 6, 7, 8, 9, 10, 11, 17, 31] -/
def f36 : AFunc := ⟨[0, 1, 2, 4, 6, 7, 8, 9, 10, 11, 17, 31],
  .seq (.reg [
    ⟨.box 54 70 (.fr 1), .fr 3, none⟩,
    ⟨.mov (.c (.int .i64 0)), .fr 4, none⟩,
    ⟨.mov (.c (.bool false)), .fr 5, none⟩]) <|
    .seq (.reg [
    ⟨.mov (.fr 0), .tm, none⟩,
    ⟨.len false (.tm 0), .tm, none⟩,
    ⟨.mov (.tm 0), .fr 6, none⟩]) <|
    .seq (.reg [
    ⟨.mov (.fr 6), .tm, none⟩,
    ⟨.mov (.c (.int .i64 0)), .fr 7, none⟩,
    ⟨.mov (.tm 0), .fr 8, none⟩]) <|
    .seq (.block 0 (.loop (.seq (.seq (.reg [
        ⟨.mov (.fr 7), .tm, none⟩,
        ⟨.mov (.fr 8), .tm, none⟩,
        ⟨.bin .lss (.tm 1) (.tm 0), .fr 10, none⟩]) <|
        .cond (.fr 10)
          (.skip)
          (.exit 0)) <|
        .block 1 (.seq (.reg [
          ⟨.mov (.fr 7), .tm, none⟩,
          ⟨.mov (.fr 8), .tm, none⟩,
          ⟨.bin .add (.tm 1) (.tm 0), .tm, none⟩,
          ⟨.i2i .u64 (.tm 0), .tm, none⟩,
          ⟨.bin .shr (.tm 0) (.c (.int .u64 1)), .tm, none⟩,
          ⟨.i2i .i64 (.tm 0), .tm, none⟩,
          ⟨.mov (.tm 0), .fr 9, none⟩]) <|
          .seq (.dreg [
          (⟨.mov (.fr 2), .tm, none⟩, []),
          (⟨.mov (.fr 0), .tm, none⟩, []),
          (⟨.mov (.fr 9), .tm, none⟩, []),
          (⟨.iaddr 70 (.tm 1) (.tm 0), .tm, none⟩, []),
          (⟨.loadn 70 (.tm 0), .tm, none⟩, []),
          (⟨.loadn 70 (.fr 3), .tm, none⟩, []),
          (⟨.callv (.tm 5) [(.tm 1), (.tm 0)], .tm, none⟩, []),
          (⟨.bin .lss (.tm 0) (.c (.int .i64 0)), .fr 11, none⟩, [])]) <|
          .cond (.fr 11)
            (.reg [
            ⟨.mov (.fr 9), .tm, none⟩,
            ⟨.bin .add (.tm 0) (.c (.int .i64 1)), .tm, none⟩,
            ⟨.mov (.tm 0), .fr 7, none⟩])
            (.reg [
            ⟨.mov (.fr 9), .tm, none⟩,
            ⟨.mov (.tm 0), .fr 8, none⟩]))))) <|
    .seq (.dreg [
    (⟨.mov (.fr 7), .tm, none⟩, []),
    (⟨.mov (.fr 7), .tm, none⟩, []),
    (⟨.mov (.fr 6), .tm, none⟩, []),
    (⟨.bin .lss (.tm 1) (.tm 0), .tm, none⟩, []),
    (⟨.mov (.tm 0), .tm, none⟩, []),
    (⟨.mov (.fr 2), .tm, some ((.tm 0), true)⟩, []),
    (⟨.mov (.fr 0), .tm, some ((.tm 1), true)⟩, []),
    (⟨.mov (.fr 7), .tm, some ((.tm 2), true)⟩, []),
    (⟨.iaddr 70 (.tm 1) (.tm 0), .tm, some ((.tm 3), true)⟩, []),
    (⟨.loadn 70 (.tm 0), .tm, some ((.tm 4), true)⟩, []),
    (⟨.loadn 70 (.fr 3), .tm, some ((.tm 5), true)⟩, []),
    (⟨.callv (.tm 5) [(.tm 1), (.tm 0)], .tm, some ((.tm 6), true)⟩, []),
    (⟨.bin .eql (.tm 0) (.c (.int .i64 0)), .tm, some ((.tm 7), true)⟩, []),
    (⟨.pick (.tm 8) (.tm 0) (.c (.bool false)), .tm, none⟩, []),
    (⟨.mov (.tm 13), .fr 4, none⟩, []),
    (⟨.mov (.tm 0), .fr 5, none⟩, [])]) <|
    .ret, [.t 4, .t 5]⟩
/-- (*semaphore/semaphoreref25.Sender).Offer ; args 2 ; slots [0, 1, 3, 4, 39, 55] -/
def f37 : AFunc := ⟨[0, 1, 3, 4, 39, 55],
  .seq (.reg [
    ⟨.box 72 70 (.fr 1), .fr 2, none⟩,
    ⟨.mov (.c (.int .i64 0)), .fr 3, none⟩]) <|
    .seq (.seq (.dreg [
    (⟨.faddr 0 (.fr 2), .tm, none⟩, []),
    (⟨.load1 (.tm 0), .tm, none⟩, []),
    (⟨.callf 68 [(.tm 0)], .tm, none⟩, []),
    (⟨.un .not (.tm 0), .tm, none⟩, []),
    (⟨.mov (.tm 0), .tm, none⟩, []),
    (⟨.faddr 1 (.fr 2), .tm, some ((.tm 0), false)⟩, []),
    (⟨.load1 (.tm 0), .tm, some ((.tm 1), false)⟩, []),
    (⟨.callf 68 [(.tm 0)], .tm, some ((.tm 2), false)⟩, []),
    (⟨.un .not (.tm 0), .tm, some ((.tm 3), false)⟩, []),
    (⟨.pick (.tm 4) (.c (.bool true)) (.tm 0), .tm, none⟩, []),
    (⟨.mov (.tm 0), .tm, none⟩, []),
    (⟨.mov (.fr 0), .tm, some ((.tm 0), false)⟩, []),
    (⟨.nilck (.tm 0), .tm, some ((.tm 1), false)⟩, []),
    (⟨.faddr 0 (.tm 0), .tm, some ((.tm 2), false)⟩, []),
    (⟨.load1 (.tm 0), .tm, some ((.tm 3), false)⟩, []),
    (⟨.len false (.tm 0), .tm, some ((.tm 4), false)⟩, []),
    (⟨.bin .gtr (.tm 0) (.c (.int .i64 0)), .tm, some ((.tm 5), false)⟩, []),
    (⟨.mov (.tm 0), .tm, some ((.tm 6), false)⟩, []),
    (⟨.loadn 70 (.fr 2), .tm, some ((.tm 0), true)⟩, []),
    (⟨.mov (.fr 0), .tm, some ((.tm 1), true)⟩, []),
    (⟨.nilck (.tm 0), .tm, some ((.tm 2), true)⟩, []),
    (⟨.faddr 0 (.tm 0), .tm, some ((.tm 3), true)⟩, []),
    (⟨.load1 (.tm 0), .tm, some ((.tm 4), true)⟩, []),
    (⟨.mov (.fr 0), .tm, some ((.tm 5), true)⟩, []),
    (⟨.nilck (.tm 0), .tm, some ((.tm 6), true)⟩, []),
    (⟨.faddr 0 (.tm 0), .tm, some ((.tm 7), true)⟩, []),
    (⟨.load1 (.tm 0), .tm, some ((.tm 8), true)⟩, []),
    (⟨.len false (.tm 0), .tm, some ((.tm 9), true)⟩, []),
    (⟨.bin .sub (.tm 0) (.c (.int .i64 1)), .tm, some ((.tm 10), true)⟩, []),
    (⟨.iaddr 70 (.tm 6) (.tm 0), .tm, some ((.tm 11), true)⟩, []),
    (⟨.loadn 70 (.tm 0), .tm, some ((.tm 12), true)⟩, []),
    (⟨.callf 69 [(.tm 12), (.tm 0)], .tm, some ((.tm 13), true)⟩, []),
    (⟨.un .not (.tm 0), .tm, some ((.tm 14), true)⟩, []),
    (⟨.pick (.tm 15) (.tm 0) (.c (.bool false)), .tm, some ((.tm 22), false)⟩, []),
    (⟨.pick (.tm 23) (.c (.bool true)) (.tm 0), .fr 4, none⟩, [])]) <|
    .cond (.fr 4)
      (.seq (.reg [
      ⟨.mov (.c (.int .i64 2)), .fr 3, none⟩]) <|
      .ret)
      (.skip)) <|
    .seq (.dreg [
    (⟨.mov (.fr 0), .tm, none⟩, []),
    (⟨.mov (.fr 0), .tm, none⟩, []),
    (⟨.nilck (.tm 0), .tm, none⟩, []),
    (⟨.faddr 0 (.tm 0), .tm, none⟩, []),
    (⟨.load1 (.tm 0), .tm, none⟩, []),
    (⟨.loadn 70 (.fr 2), .tm, none⟩, []),
    (⟨.bslice 72 70 1 Z70 [(0, 70, (.tm 0))], .tm, none⟩, []),
    (⟨.app 72 70 112 (.tm 2) (.tm 0), .tm, none⟩, []),
    (⟨.nilck (.tm 7), .tm, none⟩, []),
    (⟨.faddr 0 (.tm 0), .tm, none⟩, []),
    (⟨.store1 (.tm 0) (.tm 2), .no, none⟩, [])]) <|
    .seq (.seq (.reg [
    ⟨.mov (.fr 0), .tm, none⟩,
    ⟨.nilck (.tm 0), .tm, none⟩,
    ⟨.faddr 0 (.tm 0), .tm, none⟩,
    ⟨.load1 (.tm 0), .tm, none⟩,
    ⟨.len false (.tm 0), .tm, none⟩,
    ⟨.bin .gtr (.tm 0) (.c (.int .i64 8)), .fr 5, none⟩]) <|
    .cond (.fr 5)
      (.seq (.reg [
      ⟨.mov (.fr 0), .tm, none⟩,
      ⟨.bslice 72 70 0 [] [], .tm, none⟩,
      ⟨.mov (.fr 0), .tm, none⟩,
      ⟨.nilck (.tm 0), .tm, none⟩,
      ⟨.faddr 0 (.tm 0), .tm, none⟩,
      ⟨.load1 (.tm 0), .tm, none⟩,
      ⟨.slsl 70 (.tm 0) (some (.c (.int .i64 1))) none none, .tm, none⟩,
      ⟨.app 72 70 112 (.tm 5) (.tm 0), .tm, none⟩,
      ⟨.nilck (.tm 7), .tm, none⟩,
      ⟨.faddr 0 (.tm 0), .tm, none⟩,
      ⟨.store1 (.tm 0) (.tm 2), .no, none⟩]) <|
      .reg [
      ⟨.mov (.fr 0), .tm, none⟩,
      ⟨.mov (.fr 0), .tm, none⟩,
      ⟨.nilck (.tm 0), .tm, none⟩,
      ⟨.faddr 1 (.tm 0), .tm, none⟩,
      ⟨.load1 (.tm 0), .tm, none⟩,
      ⟨.bin .sub (.tm 0) (.c (.int .i64 1)), .tm, none⟩,
      ⟨.mm true (.c (.int .i64 (-1))) (.tm 0), .tm, none⟩,
      ⟨.nilck (.tm 6), .tm, none⟩,
      ⟨.faddr 1 (.tm 0), .tm, none⟩,
      ⟨.store1 (.tm 0) (.tm 2), .no, none⟩])
      (.skip)) <|
    .seq (.reg [
    ⟨.mov (.c (.int .i64 0)), .fr 3, none⟩]) <|
    .ret, [.t 3]⟩
/-- semaphore/semaphorelaw25.log ; args 1 ; slots [0, 1, 2] -/
def f38 : AFunc := ⟨[0, 1, 2],
  .seq (.reg [
    ⟨.box 54 70 (.fr 0), .fr 1, none⟩,
    ⟨.new 72 70 Z70, .fr 2, none⟩]) <|
    .seq (.reg [
    ⟨.faddr 0 (.fr 1), .tm, none⟩,
    ⟨.load1 (.tm 0), .tm, none⟩,
    ⟨.faddr 1 (.fr 1), .tm, none⟩,
    ⟨.load1 (.tm 0), .tm, none⟩,
    ⟨.faddr 2 (.fr 1), .tm, none⟩,
    ⟨.loadn 68 (.tm 0), .tm, none⟩,
    ⟨.build Z70 [(0, 1, (.tm 4)), (1, 1, (.tm 2)), (2, 68, (.tm 0))], .tm, none⟩,
    ⟨.storen 70 (.fr 2) (.tm 0), .no, none⟩]) <|
    .ret, [.cn 70 2]⟩
/-- (*semaphore/semaphoreref25.Sender).Hear ; args 2 ; slots [0, 1, 3, 4, 5, 13, 16, 26, 60] -/
def f39 : AFunc := ⟨[0, 1, 3, 4, 5, 13, 16, 26, 60],
  .seq (.reg [
    ⟨.box 38 78 (.fr 1), .fr 2, none⟩,
    ⟨.mov (.c (.int .i64 0)), .fr 3, none⟩]) <|
    .seq (.seq (.reg [
    ⟨.loadn 78 (.fr 2), .tm, none⟩,
    ⟨.callf 61 [(.tm 0)], .tm, none⟩,
    ⟨.un .not (.tm 0), .tm, none⟩,
    ⟨.mov (.tm 0), .tm, none⟩,
    ⟨.faddr 0 (.fr 2), .tm, some ((.tm 0), false)⟩,
    ⟨.load1 (.tm 0), .tm, some ((.tm 1), false)⟩,
    ⟨.bin .lss (.tm 0) (.c (.int .u8 3)), .tm, some ((.tm 2), false)⟩,
    ⟨.pick (.tm 3) (.c (.bool true)) (.tm 0), .fr 5, none⟩]) <|
    .cond (.fr 5)
      (.seq (.reg [
      ⟨.mov (.c (.int .i64 2)), .fr 3, none⟩]) <|
      .ret)
      (.skip)) <|
    .seq (.seq (.reg [
    ⟨.faddr 0 (.fr 2), .tm, none⟩,
    ⟨.load1 (.tm 0), .tm, none⟩,
    ⟨.bin .eql (.tm 0) (.c (.int .u8 4)), .fr 6, none⟩]) <|
    .cond (.fr 6)
      (.seq (.reg [
      ⟨.mov (.fr 0), .tm, none⟩,
      ⟨.nilck (.tm 0), .tm, none⟩,
      ⟨.faddr 1 (.tm 0), .tm, none⟩,
      ⟨.store1 (.tm 0) (.c (.int .i64 (-1))), .no, none⟩]) <|
      .seq (.reg [
      ⟨.mov (.c (.int .i64 0)), .fr 3, none⟩]) <|
      .ret)
      (.skip)) <|
    .seq (.seq (.reg [
    ⟨.mov (.c (.int .i64 0)), .fr 4, none⟩]) <|
    .block 0 (.loop (.seq (.seq (.reg [
        ⟨.mov (.fr 4), .tm, none⟩,
        ⟨.mov (.fr 0), .tm, none⟩,
        ⟨.nilck (.tm 0), .tm, none⟩,
        ⟨.faddr 0 (.tm 0), .tm, none⟩,
        ⟨.load1 (.tm 0), .tm, none⟩,
        ⟨.len false (.tm 0), .tm, none⟩,
        ⟨.bin .lss (.tm 5) (.tm 0), .fr 7, none⟩]) <|
        .cond (.fr 7)
          (.skip)
          (.exit 0)) <|
        .seq (.block 1 (.seq (.dreg [
          (⟨.mov (.fr 4), .tm, none⟩, []),
          (⟨.mov (.fr 0), .tm, none⟩, []),
          (⟨.nilck (.tm 0), .tm, none⟩, []),
          (⟨.faddr 1 (.tm 0), .tm, none⟩, []),
          (⟨.load1 (.tm 0), .tm, none⟩, []),
          (⟨.bin .gtr (.tm 4) (.tm 0), .tm, none⟩, []),
          (⟨.mov (.tm 0), .tm, none⟩, []),
          (⟨.mov (.fr 0), .tm, some ((.tm 0), true)⟩, []),
          (⟨.nilck (.tm 0), .tm, some ((.tm 1), true)⟩, []),
          (⟨.faddr 0 (.tm 0), .tm, some ((.tm 2), true)⟩, []),
          (⟨.load1 (.tm 0), .tm, some ((.tm 3), true)⟩, []),
          (⟨.mov (.fr 4), .tm, some ((.tm 4), true)⟩, []),
          (⟨.iaddr 70 (.tm 1) (.tm 0), .tm, some ((.tm 5), true)⟩, []),
          (⟨.faddr 0 (.tm 0), .tm, some ((.tm 6), true)⟩, []),
          (⟨.load1 (.tm 0), .tm, some ((.tm 7), true)⟩, []),
          (⟨.faddr 1 (.fr 2), .tm, some ((.tm 8), true)⟩, []),
          (⟨.load1 (.tm 0), .tm, some ((.tm 9), true)⟩, []),
          (⟨.bin .eql (.tm 2) (.tm 0), .tm, some ((.tm 10), true)⟩, []),
          (⟨.pick (.tm 11) (.tm 0) (.c (.bool false)), .tm, none⟩, []),
          (⟨.mov (.tm 0), .tm, none⟩, []),
          (⟨.mov (.fr 0), .tm, some ((.tm 0), true)⟩, []),
          (⟨.nilck (.tm 0), .tm, some ((.tm 1), true)⟩, []),
          (⟨.faddr 0 (.tm 0), .tm, some ((.tm 2), true)⟩, []),
          (⟨.load1 (.tm 0), .tm, some ((.tm 3), true)⟩, []),
          (⟨.mov (.fr 4), .tm, some ((.tm 4), true)⟩, []),
          (⟨.iaddr 70 (.tm 1) (.tm 0), .tm, some ((.tm 5), true)⟩, []),
          (⟨.faddr 1 (.tm 0), .tm, some ((.tm 6), true)⟩, []),
          (⟨.load1 (.tm 0), .tm, some ((.tm 7), true)⟩, []),
          (⟨.faddr 2 (.fr 2), .tm, some ((.tm 8), true)⟩, []),
          (⟨.load1 (.tm 0), .tm, some ((.tm 9), true)⟩, []),
          (⟨.bin .eql (.tm 2) (.tm 0), .tm, some ((.tm 10), true)⟩, []),
          (⟨.pick (.tm 11) (.tm 0) (.c (.bool false)), .fr 8, none⟩, [])]) <|
          .cond (.fr 8)
            (.reg [
            ⟨.mov (.fr 0), .tm, none⟩,
            ⟨.mov (.fr 4), .tm, none⟩,
            ⟨.nilck (.tm 1), .tm, none⟩,
            ⟨.faddr 1 (.tm 0), .tm, none⟩,
            ⟨.store1 (.tm 0) (.tm 2), .no, none⟩])
            (.skip))) <|
        .reg [
        ⟨.mov (.fr 4), .tm, none⟩,
        ⟨.bin .add (.tm 0) (.c (.int .i64 1)), .tm, none⟩,
        ⟨.mov (.tm 0), .fr 4, none⟩]))) <|
    .seq (.reg [
    ⟨.mov (.c (.int .i64 0)), .fr 3, none⟩]) <|
    .ret, [.t 3]⟩
/-- (*semaphore/semaphoreref25.Receiver).Hear ; args 2 ; slots [0, 1, 3, 4, 5, 6, 7, 8, 17, 38, 43, 68] -/
def f40 : AFunc := ⟨[0, 1, 3, 4, 5, 6, 7, 8, 17, 38, 43, 68],
  .seq (.reg [
    ⟨.box 38 78 (.fr 1), .fr 2, none⟩,
    ⟨.new 38 78 Z78, .fr 3, none⟩,
    ⟨.mov (.c (.bool false)), .fr 4, none⟩,
    ⟨.mov (.c (.int .i64 0)), .fr 5, none⟩]) <|
    .seq (.seq (.reg [
    ⟨.loadn 78 (.fr 2), .tm, none⟩,
    ⟨.callf 61 [(.tm 0)], .tm, none⟩,
    ⟨.un .not (.tm 0), .tm, none⟩,
    ⟨.mov (.tm 0), .tm, none⟩,
    ⟨.faddr 0 (.fr 2), .tm, some ((.tm 0), false)⟩,
    ⟨.load1 (.tm 0), .tm, some ((.tm 1), false)⟩,
    ⟨.bin .gtr (.tm 0) (.c (.int .u8 2)), .tm, some ((.tm 2), false)⟩,
    ⟨.pick (.tm 3) (.c (.bool true)) (.tm 0), .fr 8, none⟩]) <|
    .cond (.fr 8)
      (.seq (.reg [
      ⟨.build Z78 [], .tm, none⟩,
      ⟨.storen 78 (.fr 3) (.tm 0), .no, none⟩,
      ⟨.mov (.c (.bool false)), .fr 4, none⟩,
      ⟨.mov (.c (.int .i64 2)), .fr 5, none⟩]) <|
      .ret)
      (.skip)) <|
    .seq (.reg [
    ⟨.faddr 1 (.fr 2), .tm, none⟩,
    ⟨.load1 (.tm 0), .tm, none⟩,
    ⟨.faddr 2 (.fr 2), .tm, none⟩,
    ⟨.load1 (.tm 0), .tm, none⟩,
    ⟨.faddr 5 (.fr 2), .tm, none⟩,
    ⟨.loadn 68 (.tm 0), .tm, none⟩,
    ⟨.build Z70 [(0, 1, (.tm 4)), (1, 1, (.tm 2)), (2, 68, (.tm 0))], .tm, none⟩,
    ⟨.new 72 70 Z70, .fr 6, none⟩,
    ⟨.storen 70 (.fr 6) (.tm 0), .no, none⟩]) <|
    .seq (.seq (.dreg [
    (⟨.mov (.fr 0), .tm, none⟩, []),
    (⟨.nilck (.tm 0), .tm, none⟩, []),
    (⟨.faddr 70 (.tm 0), .tm, none⟩, []),
    (⟨.load1 (.tm 0), .tm, none⟩, []),
    (⟨.mov (.tm 0), .tm, none⟩, []),
    (⟨.loadn 70 (.fr 6), .tm, some ((.tm 0), true)⟩, []),
    (⟨.mov (.fr 0), .tm, some ((.tm 1), true)⟩, []),
    (⟨.nilck (.tm 0), .tm, some ((.tm 2), true)⟩, []),
    (⟨.faddr 0 (.tm 0), .tm, some ((.tm 3), true)⟩, []),
    (⟨.loadn 70 (.tm 0), .tm, some ((.tm 4), true)⟩, []),
    (⟨.callf 69 [(.tm 4), (.tm 0)], .tm, some ((.tm 5), true)⟩, []),
    (⟨.un .not (.tm 0), .tm, some ((.tm 6), true)⟩, []),
    (⟨.pick (.tm 7) (.tm 0) (.c (.bool false)), .fr 9, none⟩, [])]) <|
    .cond (.fr 9)
      (.seq (.reg [
      ⟨.mov (.fr 0), .tm, none⟩,
      ⟨.callf 70 [(.tm 0)], .tm, none⟩,
      ⟨.storen 78 (.fr 3) (.tm 0), .no, none⟩,
      ⟨.mov (.c (.bool false)), .fr 4, none⟩,
      ⟨.mov (.c (.int .i64 0)), .fr 5, none⟩]) <|
      .ret)
      (.skip)) <|
    .seq (.seq (.reg [
    ⟨.faddr 0 (.fr 2), .tm, none⟩,
    ⟨.load1 (.tm 0), .tm, none⟩,
    ⟨.bin .eql (.tm 0) (.c (.int .u8 2)), .fr 10, none⟩]) <|
    .cond (.fr 10)
      (.seq (.seq (.dreg [
      (⟨.mov (.fr 0), .tm, none⟩, []),
      (⟨.nilck (.tm 0), .tm, none⟩, []),
      (⟨.faddr 70 (.tm 0), .tm, none⟩, []),
      (⟨.load1 (.tm 0), .tm, none⟩, []),
      (⟨.un .not (.tm 0), .tm, none⟩, []),
      (⟨.mov (.tm 0), .tm, none⟩, []),
      (⟨.faddr 3 (.fr 2), .tm, some ((.tm 0), false)⟩, []),
      (⟨.load1 (.tm 0), .tm, some ((.tm 1), false)⟩, []),
      (⟨.mov (.fr 0), .tm, some ((.tm 2), false)⟩, []),
      (⟨.nilck (.tm 0), .tm, some ((.tm 3), false)⟩, []),
      (⟨.faddr 0 (.tm 0), .tm, some ((.tm 4), false)⟩, []),
      (⟨.faddr 0 (.tm 0), .tm, some ((.tm 5), false)⟩, []),
      (⟨.load1 (.tm 0), .tm, some ((.tm 6), false)⟩, []),
      (⟨.bin .neq (.tm 5) (.tm 0), .tm, some ((.tm 7), false)⟩, []),
      (⟨.pick (.tm 8) (.c (.bool true)) (.tm 0), .tm, none⟩, []),
      (⟨.mov (.tm 0), .tm, none⟩, []),
      (⟨.faddr 4 (.fr 2), .tm, some ((.tm 0), false)⟩, []),
      (⟨.load1 (.tm 0), .tm, some ((.tm 1), false)⟩, []),
      (⟨.mov (.fr 0), .tm, some ((.tm 2), false)⟩, []),
      (⟨.nilck (.tm 0), .tm, some ((.tm 3), false)⟩, []),
      (⟨.faddr 0 (.tm 0), .tm, some ((.tm 4), false)⟩, []),
      (⟨.faddr 1 (.tm 0), .tm, some ((.tm 5), false)⟩, []),
      (⟨.load1 (.tm 0), .tm, some ((.tm 6), false)⟩, []),
      (⟨.bin .neq (.tm 5) (.tm 0), .tm, some ((.tm 7), false)⟩, []),
      (⟨.pick (.tm 8) (.c (.bool true)) (.tm 0), .fr 11, none⟩, [])]) <|
      .cond (.fr 11)
        (.seq (.reg [
        ⟨.build Z78 [(0, 1, (.c (.int .u8 4)))], .tm, none⟩,
        ⟨.storen 78 (.fr 3) (.tm 0), .no, none⟩,
        ⟨.mov (.c (.bool false)), .fr 4, none⟩,
        ⟨.mov (.c (.int .i64 0)), .fr 5, none⟩]) <|
        .ret)
        (.skip)) <|
      .seq (.dreg [
      (⟨.mov (.fr 0), .tm, none⟩, []),
      (⟨.nilck (.tm 0), .tm, none⟩, []),
      (⟨.faddr 0 (.tm 0), .tm, none⟩, []),
      (⟨.faddr 2 (.tm 0), .tm, none⟩, []),
      (⟨.loadn 68 (.tm 0), .tm, none⟩, []),
      (⟨.loadn 78 (.fr 2), .tm, none⟩, []),
      (⟨.callf 11 [(.tm 1), (.tm 0)], .tm, none⟩, []),
      (⟨.mov (.tm 0), .tm, none⟩, []),
      (⟨.extract (.tm 0) 0, .tm, none⟩, []),
      (⟨.extract (.tm 1) 1, .tm, none⟩, []),
      (⟨.new 26 68 Z68, .fr 7, none⟩, []),
      (⟨.storen 68 (.fr 7) (.tm 1), .no, none⟩, []),
      (⟨.mov (.tm 0), .tm, none⟩, [])]) <|
      .reg [
      ⟨.loadn 68 (.fr 7), .tm, none⟩,
      ⟨.faddr 2 (.fr 6), .tm, none⟩,
      ⟨.storen 68 (.tm 0) (.tm 1), .no, none⟩])
      (.skip)) <|
    .seq (.reg [
    ⟨.mov (.fr 0), .tm, none⟩,
    ⟨.loadn 70 (.fr 6), .tm, none⟩,
    ⟨.nilck (.tm 1), .tm, none⟩,
    ⟨.faddr 0 (.tm 0), .tm, none⟩,
    ⟨.storen 70 (.tm 0) (.tm 2), .no, none⟩]) <|
    .seq (.reg [
    ⟨.mov (.fr 0), .tm, none⟩,
    ⟨.nilck (.tm 0), .tm, none⟩,
    ⟨.faddr 70 (.tm 0), .tm, none⟩,
    ⟨.store1 (.tm 0) (.c (.bool true)), .no, none⟩]) <|
    .seq (.reg [
    ⟨.mov (.fr 0), .tm, none⟩,
    ⟨.callf 70 [(.tm 0)], .tm, none⟩,
    ⟨.storen 78 (.fr 3) (.tm 0), .no, none⟩,
    ⟨.mov (.c (.bool true)), .fr 4, none⟩,
    ⟨.mov (.c (.int .i64 0)), .fr 5, none⟩]) <|
    .ret, [.cn 78 3, .t 4, .t 5]⟩
/-- (*semaphore/semaphoreref25.Receiver).Begin ; args 2 ; slots [0, 1, 3, 4, 14] -/
def f41 : AFunc := ⟨[0, 1, 3, 4, 14],
  .seq (.reg [
    ⟨.box 72 70 (.fr 1), .fr 2, none⟩,
    ⟨.mov (.c (.int .i64 0)), .fr 3, none⟩]) <|
    .seq (.seq (.reg [
    ⟨.faddr 0 (.fr 2), .tm, none⟩,
    ⟨.load1 (.tm 0), .tm, none⟩,
    ⟨.callf 68 [(.tm 0)], .tm, none⟩,
    ⟨.un .not (.tm 0), .tm, none⟩,
    ⟨.mov (.tm 0), .tm, none⟩,
    ⟨.faddr 1 (.fr 2), .tm, some ((.tm 0), false)⟩,
    ⟨.load1 (.tm 0), .tm, some ((.tm 1), false)⟩,
    ⟨.callf 68 [(.tm 0)], .tm, some ((.tm 2), false)⟩,
    ⟨.un .not (.tm 0), .tm, some ((.tm 3), false)⟩,
    ⟨.pick (.tm 4) (.c (.bool true)) (.tm 0), .fr 4, none⟩]) <|
    .cond (.fr 4)
      (.seq (.reg [
      ⟨.mov (.c (.int .i64 2)), .fr 3, none⟩]) <|
      .ret)
      (.skip)) <|
    .seq (.reg [
    ⟨.mov (.fr 0), .tm, none⟩,
    ⟨.loadn 70 (.fr 2), .tm, none⟩,
    ⟨.nilck (.tm 1), .tm, none⟩,
    ⟨.faddr 0 (.tm 0), .tm, none⟩,
    ⟨.storen 70 (.tm 0) (.tm 2), .no, none⟩]) <|
    .seq (.reg [
    ⟨.mov (.fr 0), .tm, none⟩,
    ⟨.nilck (.tm 0), .tm, none⟩,
    ⟨.faddr 70 (.tm 0), .tm, none⟩,
    ⟨.store1 (.tm 0) (.c (.bool true)), .no, none⟩]) <|
    .seq (.reg [
    ⟨.mov (.c (.int .i64 0)), .fr 3, none⟩]) <|
    .ret, [.t 3]⟩
/-- (*semaphore/semaphoreref25.Sender).Send ; args 1 ; slots [0, 2, 3, 4, 5, 6, 22, 36] -/
def f42 : AFunc := ⟨[0, 2, 3, 4, 5, 6, 22, 36],
  .seq (.reg [
    ⟨.new 38 78 Z78, .fr 1, none⟩,
    ⟨.mov (.c (.bool false)), .fr 2, none⟩]) <|
    .seq (.reg [
    ⟨.mov (.fr 0), .tm, none⟩,
    ⟨.nilck (.tm 0), .tm, none⟩,
    ⟨.faddr 0 (.tm 0), .tm, none⟩,
    ⟨.load1 (.tm 0), .tm, none⟩,
    ⟨.len false (.tm 0), .tm, none⟩,
    ⟨.mov (.tm 0), .fr 3, none⟩]) <|
    .seq (.seq (.reg [
    ⟨.mov (.fr 3), .tm, none⟩,
    ⟨.bin .eql (.tm 0) (.c (.int .i64 0)), .tm, none⟩,
    ⟨.mov (.tm 0), .tm, none⟩,
    ⟨.mov (.fr 0), .tm, some ((.tm 0), false)⟩,
    ⟨.nilck (.tm 0), .tm, some ((.tm 1), false)⟩,
    ⟨.faddr 1 (.tm 0), .tm, some ((.tm 2), false)⟩,
    ⟨.load1 (.tm 0), .tm, some ((.tm 3), false)⟩,
    ⟨.mov (.fr 3), .tm, some ((.tm 4), false)⟩,
    ⟨.bin .sub (.tm 0) (.c (.int .i64 1)), .tm, some ((.tm 5), false)⟩,
    ⟨.bin .eql (.tm 2) (.tm 0), .tm, some ((.tm 6), false)⟩,
    ⟨.pick (.tm 7) (.c (.bool true)) (.tm 0), .fr 6, none⟩]) <|
    .cond (.fr 6)
      (.seq (.reg [
      ⟨.build Z78 [], .tm, none⟩,
      ⟨.storen 78 (.fr 1) (.tm 0), .no, none⟩,
      ⟨.mov (.c (.bool false)), .fr 2, none⟩]) <|
      .ret)
      (.skip)) <|
    .seq (.reg [
    ⟨.mov (.fr 0), .tm, none⟩,
    ⟨.nilck (.tm 0), .tm, none⟩,
    ⟨.faddr 0 (.tm 0), .tm, none⟩,
    ⟨.load1 (.tm 0), .tm, none⟩,
    ⟨.mov (.fr 3), .tm, none⟩,
    ⟨.bin .sub (.tm 0) (.c (.int .i64 1)), .tm, none⟩,
    ⟨.iaddr 70 (.tm 2) (.tm 0), .tm, none⟩,
    ⟨.loadn 70 (.tm 0), .tm, none⟩,
    ⟨.new 72 70 Z70, .fr 4, none⟩,
    ⟨.storen 70 (.fr 4) (.tm 0), .no, none⟩]) <|
    .seq (.seq (.reg [
    ⟨.mov (.fr 0), .tm, none⟩,
    ⟨.nilck (.tm 0), .tm, none⟩,
    ⟨.faddr 1 (.tm 0), .tm, none⟩,
    ⟨.load1 (.tm 0), .tm, none⟩,
    ⟨.bin .lss (.tm 0) (.c (.int .i64 0)), .fr 7, none⟩]) <|
    .cond (.fr 7)
      (.seq (.reg [
      ⟨.faddr 0 (.fr 4), .tm, none⟩,
      ⟨.load1 (.tm 0), .tm, none⟩,
      ⟨.faddr 1 (.fr 4), .tm, none⟩,
      ⟨.load1 (.tm 0), .tm, none⟩,
      ⟨.faddr 2 (.fr 4), .tm, none⟩,
      ⟨.loadn 68 (.tm 0), .tm, none⟩,
      ⟨.build Z78 [(0, 1, (.c (.int .u8 1))), (1, 1, (.tm 4)), (2, 1, (.tm 2)), (5, 68, (.tm 0))], .tm, none⟩,
      ⟨.storen 78 (.fr 1) (.tm 0), .no, none⟩,
      ⟨.mov (.c (.bool true)), .fr 2, none⟩]) <|
      .ret)
      (.skip)) <|
    .seq (.dreg [
    (⟨.mov (.fr 0), .tm, none⟩, []),
    (⟨.nilck (.tm 0), .tm, none⟩, []),
    (⟨.faddr 0 (.tm 0), .tm, none⟩, []),
    (⟨.load1 (.tm 0), .tm, none⟩, []),
    (⟨.mov (.fr 0), .tm, none⟩, []),
    (⟨.nilck (.tm 0), .tm, none⟩, []),
    (⟨.faddr 1 (.tm 0), .tm, none⟩, []),
    (⟨.load1 (.tm 0), .tm, none⟩, []),
    (⟨.iaddr 70 (.tm 4) (.tm 0), .tm, none⟩, []),
    (⟨.loadn 70 (.tm 0), .tm, none⟩, []),
    (⟨.new 72 70 Z70, .fr 5, none⟩, []),
    (⟨.storen 70 (.fr 5) (.tm 0), .no, none⟩, [])]) <|
    .seq (.reg [
    ⟨.faddr 0 (.fr 4), .tm, none⟩,
    ⟨.load1 (.tm 0), .tm, none⟩,
    ⟨.faddr 1 (.fr 4), .tm, none⟩,
    ⟨.load1 (.tm 0), .tm, none⟩,
    ⟨.faddr 0 (.fr 5), .tm, none⟩,
    ⟨.load1 (.tm 0), .tm, none⟩,
    ⟨.faddr 1 (.fr 5), .tm, none⟩,
    ⟨.load1 (.tm 0), .tm, none⟩,
    ⟨.build Z78 [(0, 1, (.c (.int .u8 2))), (1, 1, (.tm 6)), (2, 1, (.tm 4)), (3, 1, (.tm 2)), (4, 1, (.tm 0))], .tm, none⟩,
    ⟨.faddr 2 (.fr 5), .tm, none⟩,
    ⟨.loadn 68 (.tm 0), .tm, none⟩,
    ⟨.faddr 2 (.fr 4), .tm, none⟩,
    ⟨.loadn 68 (.tm 0), .tm, none⟩,
    ⟨.callf 14 [(.tm 4), (.tm 2), (.tm 0)], .tm, none⟩,
    ⟨.storen 78 (.fr 1) (.tm 0), .no, none⟩,
    ⟨.mov (.c (.bool true)), .fr 2, none⟩]) <|
    .ret, [.cn 78 1, .t 2]⟩
/-- semaphore/semaphorelaw25.spoil ; args 1 ; slots [0, 1, 2, 3, 10] -/
def f43 : AFunc := ⟨[0, 1, 2, 3, 10],
  .seq (.reg [
    ⟨.box 41 78 (.fr 0), .fr 1, none⟩]) <|
    .seq (.reg [
    ⟨.faddr 73 (.fr 1), .tm, none⟩,
    ⟨.faddr 4 (.tm 0), .tm, none⟩,
    ⟨.load1 (.tm 0), .tm, none⟩,
    ⟨.mov (.tm 0), .fr 2, none⟩]) <|
    .seq (.reg [
    ⟨.mov (.c (.int .i64 0)), .fr 3, none⟩]) <|
    .block 0 (.loop (.seq (.seq (.reg [
        ⟨.mov (.fr 3), .tm, none⟩,
        ⟨.mov (.fr 2), .tm, none⟩,
        ⟨.len false (.tm 0), .tm, none⟩,
        ⟨.bin .lss (.tm 2) (.tm 0), .fr 4, none⟩]) <|
        .cond (.fr 4)
          (.skip)
          (.exit 0)) <|
        .seq (.block 1 (.reg [
          ⟨.mov (.fr 2), .tm, none⟩,
          ⟨.mov (.fr 3), .tm, none⟩,
          ⟨.build [(.int .i64 0), (.int .u8 0)] [(0, 1, (.c (.int .i64 99)))], .tm, none⟩,
          ⟨.iaddr 2 (.tm 2) (.tm 1), .tm, none⟩,
          ⟨.storen 2 (.tm 0) (.tm 1), .no, none⟩])) <|
        .reg [
        ⟨.mov (.fr 3), .tm, none⟩,
        ⟨.bin .add (.tm 0) (.c (.int .i64 1)), .tm, none⟩,
        ⟨.mov (.tm 0), .fr 3, none⟩])), []⟩
/-- semaphore/semaphoreref25.May ; args 1 ; slots [0, 1, 2] -/
def f61 : AFunc := ⟨[0, 1, 2],
  .seq (.reg [
    ⟨.box 38 78 (.fr 0), .fr 1, none⟩,
    ⟨.mov (.c (.bool false)), .fr 2, none⟩]) <|
    .seq (.reg [
    ⟨.faddr 0 (.fr 1), .tm, none⟩,
    ⟨.load1 (.tm 0), .tm, none⟩,
    ⟨.bin .geq (.tm 0) (.c (.int .u8 1)), .tm, none⟩,
    ⟨.mov (.tm 0), .tm, none⟩,
    ⟨.faddr 0 (.fr 1), .tm, some ((.tm 0), true)⟩,
    ⟨.load1 (.tm 0), .tm, some ((.tm 1), true)⟩,
    ⟨.bin .leq (.tm 0) (.c (.int .u8 4)), .tm, some ((.tm 2), true)⟩,
    ⟨.pick (.tm 3) (.tm 0) (.c (.bool false)), .tm, none⟩,
    ⟨.mov (.tm 0), .tm, none⟩,
    ⟨.faddr 1 (.fr 1), .tm, some ((.tm 0), true)⟩,
    ⟨.load1 (.tm 0), .tm, some ((.tm 1), true)⟩,
    ⟨.callf 68 [(.tm 0)], .tm, some ((.tm 2), true)⟩,
    ⟨.pick (.tm 3) (.tm 0) (.c (.bool false)), .tm, none⟩,
    ⟨.mov (.tm 0), .tm, none⟩,
    ⟨.faddr 2 (.fr 1), .tm, some ((.tm 0), true)⟩,
    ⟨.load1 (.tm 0), .tm, some ((.tm 1), true)⟩,
    ⟨.callf 68 [(.tm 0)], .tm, some ((.tm 2), true)⟩,
    ⟨.pick (.tm 3) (.tm 0) (.c (.bool false)), .tm, none⟩,
    ⟨.mov (.tm 0), .tm, none⟩,
    ⟨.faddr 3 (.fr 1), .tm, some ((.tm 0), true)⟩,
    ⟨.load1 (.tm 0), .tm, some ((.tm 1), true)⟩,
    ⟨.callf 68 [(.tm 0)], .tm, some ((.tm 2), true)⟩,
    ⟨.pick (.tm 3) (.tm 0) (.c (.bool false)), .tm, none⟩,
    ⟨.mov (.tm 0), .tm, none⟩,
    ⟨.faddr 4 (.fr 1), .tm, some ((.tm 0), true)⟩,
    ⟨.load1 (.tm 0), .tm, some ((.tm 1), true)⟩,
    ⟨.callf 68 [(.tm 0)], .tm, some ((.tm 2), true)⟩,
    ⟨.pick (.tm 3) (.tm 0) (.c (.bool false)), .tm, none⟩,
    ⟨.mov (.tm 0), .tm, none⟩,
    ⟨.faddr 77 (.fr 1), .tm, some ((.tm 0), true)⟩,
    ⟨.load1 (.tm 0), .tm, some ((.tm 1), true)⟩,
    ⟨.callf 32 [(.tm 0)], .tm, some ((.tm 2), true)⟩,
    ⟨.pick (.tm 3) (.tm 0) (.c (.bool false)), .tm, none⟩,
    ⟨.mov (.tm 0), .fr 2, none⟩]) <|
    .ret, [.t 2]⟩
/-- slices.Min[[]int64,int64] ; args 1 ; slots [0, 2, 3, 4, 7, 15] -/
def f64 : AFunc := ⟨[0, 2, 3, 4, 7, 15],
  .seq (.reg [
    ⟨.mov (.c (.int .i64 0)), .fr 1, none⟩]) <|
    .seq (.seq (.reg [
    ⟨.mov (.fr 0), .tm, none⟩,
    ⟨.len false (.tm 0), .tm, none⟩,
    ⟨.bin .lss (.tm 0) (.c (.int .i64 1)), .fr 4, none⟩]) <|
    .cond (.fr 4)
      (.reg [
      ⟨.iface 9 (.c (.string ⟨#[115, 108, 105, 99, 101, 115, 46, 77, 105, 110, 58, 32, 101, 109, 112, 116, 121, 32, 108, 105, 115, 116]⟩)), .tm, none⟩,
      ⟨.bad, .no, none⟩])
      (.skip)) <|
    .seq (.reg [
    ⟨.mov (.fr 0), .tm, none⟩,
    ⟨.iaddr 1 (.tm 0) (.c (.int .i64 0)), .tm, none⟩,
    ⟨.load1 (.tm 0), .tm, none⟩,
    ⟨.mov (.tm 0), .fr 2, none⟩]) <|
    .seq (.seq (.reg [
    ⟨.mov (.c (.int .i64 1)), .fr 3, none⟩]) <|
    .block 0 (.loop (.seq (.seq (.reg [
        ⟨.mov (.fr 3), .tm, none⟩,
        ⟨.mov (.fr 0), .tm, none⟩,
        ⟨.len false (.tm 0), .tm, none⟩,
        ⟨.bin .lss (.tm 2) (.tm 0), .fr 5, none⟩]) <|
        .cond (.fr 5)
          (.skip)
          (.exit 0)) <|
        .seq (.block 1 (.reg [
          ⟨.mov (.fr 2), .tm, none⟩,
          ⟨.mov (.fr 0), .tm, none⟩,
          ⟨.mov (.fr 3), .tm, none⟩,
          ⟨.iaddr 1 (.tm 1) (.tm 0), .tm, none⟩,
          ⟨.load1 (.tm 0), .tm, none⟩,
          ⟨.mm false (.tm 4) (.tm 0), .tm, none⟩,
          ⟨.mov (.tm 0), .fr 2, none⟩])) <|
        .reg [
        ⟨.mov (.fr 3), .tm, none⟩,
        ⟨.bin .add (.tm 0) (.c (.int .i64 1)), .tm, none⟩,
        ⟨.mov (.tm 0), .fr 3, none⟩]))) <|
    .seq (.reg [
    ⟨.mov (.fr 2), .tm, none⟩,
    ⟨.mov (.tm 0), .fr 1, none⟩]) <|
    .ret, [.t 1]⟩
/-- slices.Max[[]int64,int64] ; args 1 ; slots [0, 2, 3, 4, 7, 15] -/
def f65 : AFunc := ⟨[0, 2, 3, 4, 7, 15],
  .seq (.reg [
    ⟨.mov (.c (.int .i64 0)), .fr 1, none⟩]) <|
    .seq (.seq (.reg [
    ⟨.mov (.fr 0), .tm, none⟩,
    ⟨.len false (.tm 0), .tm, none⟩,
    ⟨.bin .lss (.tm 0) (.c (.int .i64 1)), .fr 4, none⟩]) <|
    .cond (.fr 4)
      (.reg [
      ⟨.iface 9 (.c (.string ⟨#[115, 108, 105, 99, 101, 115, 46, 77, 97, 120, 58, 32, 101, 109, 112, 116, 121, 32, 108, 105, 115, 116]⟩)), .tm, none⟩,
      ⟨.bad, .no, none⟩])
      (.skip)) <|
    .seq (.reg [
    ⟨.mov (.fr 0), .tm, none⟩,
    ⟨.iaddr 1 (.tm 0) (.c (.int .i64 0)), .tm, none⟩,
    ⟨.load1 (.tm 0), .tm, none⟩,
    ⟨.mov (.tm 0), .fr 2, none⟩]) <|
    .seq (.seq (.reg [
    ⟨.mov (.c (.int .i64 1)), .fr 3, none⟩]) <|
    .block 0 (.loop (.seq (.seq (.reg [
        ⟨.mov (.fr 3), .tm, none⟩,
        ⟨.mov (.fr 0), .tm, none⟩,
        ⟨.len false (.tm 0), .tm, none⟩,
        ⟨.bin .lss (.tm 2) (.tm 0), .fr 5, none⟩]) <|
        .cond (.fr 5)
          (.skip)
          (.exit 0)) <|
        .seq (.block 1 (.reg [
          ⟨.mov (.fr 2), .tm, none⟩,
          ⟨.mov (.fr 0), .tm, none⟩,
          ⟨.mov (.fr 3), .tm, none⟩,
          ⟨.iaddr 1 (.tm 1) (.tm 0), .tm, none⟩,
          ⟨.load1 (.tm 0), .tm, none⟩,
          ⟨.mm true (.tm 4) (.tm 0), .tm, none⟩,
          ⟨.mov (.tm 0), .fr 2, none⟩])) <|
        .reg [
        ⟨.mov (.fr 3), .tm, none⟩,
        ⟨.bin .add (.tm 0) (.c (.int .i64 1)), .tm, none⟩,
        ⟨.mov (.tm 0), .fr 3, none⟩]))) <|
    .seq (.reg [
    ⟨.mov (.fr 2), .tm, none⟩,
    ⟨.mov (.tm 0), .fr 1, none⟩]) <|
    .ret, [.t 1]⟩
/-- cmp.Or[int] ; args 1 ; slots [0, 2, 3, 5, 6, 7, 8, 9, 14] -/
def f66 : AFunc := ⟨[0, 2, 3, 5, 6, 7, 8, 9, 14],
  .seq (.reg [
    ⟨.mov (.c (.int .i64 0)), .fr 1, none⟩]) <|
    .seq (.reg [
    ⟨.mov (.c (.int .i64 0)), .fr 2, none⟩]) <|
    .seq (.seq (.reg [
    ⟨.mov (.fr 0), .fr 4, none⟩,
    ⟨.len false (.fr 4), .fr 5, none⟩,
    ⟨.mov (.c (.int .i64 0)), .fr 6, none⟩]) <|
    .block 0 (.loop (.seq (.reg [
        ⟨.bin .lss (.fr 6) (.fr 5), .fr 7, none⟩]) <|
        .seq (.cond (.fr 7)
          (.skip)
          (.exit 0)) <|
        .seq (.block 1 (.seq (.reg [
          ⟨.iaddr 1 (.fr 4) (.fr 6), .tm, none⟩,
          ⟨.load1 (.tm 0), .tm, none⟩,
          ⟨.mov (.tm 0), .fr 3, none⟩]) <|
          .seq (.reg [
          ⟨.mov (.fr 3), .tm, none⟩,
          ⟨.mov (.fr 2), .tm, none⟩,
          ⟨.bin .neq (.tm 1) (.tm 0), .fr 8, none⟩]) <|
          .cond (.fr 8)
            (.seq (.reg [
            ⟨.mov (.fr 3), .tm, none⟩,
            ⟨.mov (.tm 0), .fr 1, none⟩]) <|
            .ret)
            (.skip))) <|
        .reg [
        ⟨.bin .add (.fr 6) (.c (.int .i64 1)), .tm, none⟩,
        ⟨.mov (.tm 0), .fr 6, none⟩]))) <|
    .seq (.reg [
    ⟨.mov (.fr 2), .tm, none⟩,
    ⟨.mov (.tm 0), .fr 1, none⟩]) <|
    .ret, [.t 1]⟩
/-- cmp.Compare[int64] ; args 2 ; slots [0, 1, 4, 5, 6, 11, 12, 13, 16, 19] -/
def f67 : AFunc := ⟨[0, 1, 4, 5, 6, 11, 12, 13, 16, 19],
  .seq (.reg [
    ⟨.mov (.c (.int .i64 0)), .fr 2, none⟩]) <|
    .seq (.reg [
    ⟨.mov (.fr 0), .tm, none⟩,
    ⟨.callf 85 [(.tm 0)], .tm, none⟩,
    ⟨.mov (.tm 0), .fr 3, none⟩]) <|
    .seq (.reg [
    ⟨.mov (.fr 1), .tm, none⟩,
    ⟨.callf 85 [(.tm 0)], .tm, none⟩,
    ⟨.mov (.tm 0), .fr 4, none⟩]) <|
    .seq (.seq (.reg [
    ⟨.mov (.fr 3), .fr 5, none⟩]) <|
    .cond (.fr 5)
      (.seq (.seq (.reg [
      ⟨.mov (.fr 4), .fr 6, none⟩]) <|
      .cond (.fr 6)
        (.seq (.reg [
        ⟨.mov (.c (.int .i64 0)), .fr 2, none⟩]) <|
        .ret)
        (.skip)) <|
      .seq (.reg [
      ⟨.mov (.c (.int .i64 (-1))), .fr 2, none⟩]) <|
      .ret)
      (.skip)) <|
    .seq (.seq (.reg [
    ⟨.mov (.fr 4), .fr 7, none⟩]) <|
    .cond (.fr 7)
      (.seq (.reg [
      ⟨.mov (.c (.int .i64 1)), .fr 2, none⟩]) <|
      .ret)
      (.skip)) <|
    .seq (.seq (.reg [
    ⟨.mov (.fr 0), .tm, none⟩,
    ⟨.mov (.fr 1), .tm, none⟩,
    ⟨.bin .lss (.tm 1) (.tm 0), .fr 8, none⟩]) <|
    .cond (.fr 8)
      (.seq (.reg [
      ⟨.mov (.c (.int .i64 (-1))), .fr 2, none⟩]) <|
      .ret)
      (.skip)) <|
    .seq (.seq (.reg [
    ⟨.mov (.fr 0), .tm, none⟩,
    ⟨.mov (.fr 1), .tm, none⟩,
    ⟨.bin .gtr (.tm 1) (.tm 0), .fr 9, none⟩]) <|
    .cond (.fr 9)
      (.seq (.reg [
      ⟨.mov (.c (.int .i64 1)), .fr 2, none⟩]) <|
      .ret)
      (.skip)) <|
    .seq (.reg [
    ⟨.mov (.c (.int .i64 0)), .fr 2, none⟩]) <|
    .ret, [.t 2]⟩
/-- semaphore/semaphoreref25.in ; args 1 ; slots [0, 2] -/
def f68 : AFunc := ⟨[0, 2],
  .seq (.reg [
    ⟨.mov (.c (.bool false)), .fr 1, none⟩]) <|
    .seq (.reg [
    ⟨.mov (.fr 0), .tm, none⟩,
    ⟨.bin .geq (.tm 0) (.c (.int .i64 0)), .tm, none⟩,
    ⟨.mov (.tm 0), .tm, none⟩,
    ⟨.mov (.fr 0), .tm, some ((.tm 0), true)⟩,
    ⟨.bin .leq (.tm 0) (.c (.int .i64 1099511627776)), .tm, some ((.tm 1), true)⟩,
    ⟨.pick (.tm 2) (.tm 0) (.c (.bool false)), .tm, none⟩,
    ⟨.mov (.tm 0), .fr 1, none⟩]) <|
    .ret, [.t 1]⟩
/-- semaphore/semaphoreref25.later ; args 2 ; slots [0, 1, 2, 3, 4] -/
def f69 : AFunc := ⟨[0, 1, 2, 3, 4],
  .seq (.reg [
    ⟨.box 72 70 (.fr 0), .fr 2, none⟩,
    ⟨.box 72 70 (.fr 1), .fr 3, none⟩,
    ⟨.mov (.c (.bool false)), .fr 4, none⟩]) <|
    .seq (.reg [
    ⟨.faddr 0 (.fr 2), .tm, none⟩,
    ⟨.load1 (.tm 0), .tm, none⟩,
    ⟨.faddr 0 (.fr 3), .tm, none⟩,
    ⟨.load1 (.tm 0), .tm, none⟩,
    ⟨.bin .gtr (.tm 2) (.tm 0), .tm, none⟩,
    ⟨.mov (.tm 0), .tm, none⟩,
    ⟨.faddr 0 (.fr 2), .tm, some ((.tm 0), false)⟩,
    ⟨.load1 (.tm 0), .tm, some ((.tm 1), false)⟩,
    ⟨.faddr 0 (.fr 3), .tm, some ((.tm 2), false)⟩,
    ⟨.load1 (.tm 0), .tm, some ((.tm 3), false)⟩,
    ⟨.bin .eql (.tm 2) (.tm 0), .tm, some ((.tm 4), false)⟩,
    ⟨.mov (.tm 0), .tm, some ((.tm 5), false)⟩,
    ⟨.faddr 1 (.fr 2), .tm, some ((.tm 0), true)⟩,
    ⟨.load1 (.tm 0), .tm, some ((.tm 1), true)⟩,
    ⟨.faddr 1 (.fr 3), .tm, some ((.tm 2), true)⟩,
    ⟨.load1 (.tm 0), .tm, some ((.tm 3), true)⟩,
    ⟨.bin .gtr (.tm 2) (.tm 0), .tm, some ((.tm 4), true)⟩,
    ⟨.pick (.tm 5) (.tm 0) (.c (.bool false)), .tm, some ((.tm 11), false)⟩,
    ⟨.pick (.tm 12) (.c (.bool true)) (.tm 0), .tm, none⟩,
    ⟨.mov (.tm 0), .fr 4, none⟩]) <|
    .ret, [.t 4]⟩
/-- (*semaphore/semaphoreref25.Receiver).ack ; args 1 ; slots [0, 2] -/
def f70 : AFunc := ⟨[0, 2],
  .seq (.reg [
    ⟨.new 38 78 Z78, .fr 1, none⟩]) <|
    .seq (.dreg [
    (⟨.mov (.fr 0), .tm, none⟩, []),
    (⟨.nilck (.tm 0), .tm, none⟩, []),
    (⟨.faddr 0 (.tm 0), .tm, none⟩, []),
    (⟨.faddr 0 (.tm 0), .tm, none⟩, []),
    (⟨.load1 (.tm 0), .tm, none⟩, []),
    (⟨.mov (.fr 0), .tm, none⟩, []),
    (⟨.nilck (.tm 0), .tm, none⟩, []),
    (⟨.faddr 0 (.tm 0), .tm, none⟩, []),
    (⟨.faddr 1 (.tm 0), .tm, none⟩, []),
    (⟨.load1 (.tm 0), .tm, none⟩, []),
    (⟨.build Z78 [(0, 1, (.c (.int .u8 3))), (1, 1, (.tm 5)), (2, 1, (.tm 0))], .tm, none⟩, []),
    (⟨.storen 78 (.fr 1) (.tm 0), .no, none⟩, [])]) <|
    .ret, [.cn 78 1]⟩
/-- cmp.isNaN[int64] ; args 1 ; slots [0, 2] -/
def f85 : AFunc := ⟨[0, 2],
  .seq (.reg [
    ⟨.mov (.c (.bool false)), .fr 1, none⟩]) <|
    .seq (.reg [
    ⟨.mov (.fr 0), .tm, none⟩,
    ⟨.mov (.fr 0), .tm, none⟩,
    ⟨.bin .neq (.tm 1) (.tm 0), .tm, none⟩,
    ⟨.mov (.tm 0), .fr 1, none⟩]) <|
    .ret, [.t 1]⟩
theorem f4_ok : compF Go.Proofs.Try.prog 0 [0, 2, 3, 4, 5, 6, 7, 8, 9, 10, 11, 12, 13, 14, 16, 17, 18, 19, 20, 21, 22, 23, 25, 26, 27, 30, 36, 50, 53, 60, 68, 82, 87, 98, 103, 108, 123, 130, 136, 141, 146, 156, 163, 172, 186, 192, 195, 203, 216] 4 = some f4 := by kernel_rfl
theorem f4_n : argsOK Go.Proofs.Try.prog 4 1 = true := by kernel_rfl
theorem f5_ok : compF Go.Proofs.Try.prog 0 [0, 2, 3, 4, 5, 6, 7, 10, 18, 34] 5 = some f5 := by kernel_rfl
theorem f5_n : argsOK Go.Proofs.Try.prog 5 1 = true := by kernel_rfl
theorem f15_ok : compF Go.Proofs.Try.prog 0 [0, 1, 3, 4, 5, 8, 56] 15 = some f15 := by kernel_rfl
theorem f15_n : argsOK Go.Proofs.Try.prog 15 2 = true := by kernel_rfl
theorem f16_ok : compF Go.Proofs.Try.prog 0 [0, 2, 3, 4, 5, 6, 20, 39] 16 = some f16 := by kernel_rfl
theorem f16_n : argsOK Go.Proofs.Try.prog 16 1 = true := by kernel_rfl
theorem f17_ok : compF Go.Proofs.Try.prog 0 [0, 1, 3, 4, 5, 6, 7, 8, 9, 13, 49, 81, 85] 17 = some f17 := by kernel_rfl
theorem f17_n : argsOK Go.Proofs.Try.prog 17 2 = true := by kernel_rfl
theorem f18_ok : compF Go.Proofs.Try.prog 0 [0, 1, 4, 5] 18 = some f18 := by kernel_rfl
theorem f18_n : argsOK Go.Proofs.Try.prog 18 2 = true := by kernel_rfl
theorem f19_ok : compF Go.Proofs.Try.prog 0 [0, 1, 3, 4, 5, 6, 7, 10, 19, 39] 19 = some f19 := by kernel_rfl
theorem f19_n : argsOK Go.Proofs.Try.prog 19 2 = true := by kernel_rfl
theorem f20_ok : compF Go.Proofs.Try.prog 0 [0, 2, 3, 12] 20 = some f20 := by kernel_rfl
theorem f20_n : argsOK Go.Proofs.Try.prog 20 1 = true := by kernel_rfl
theorem f21_ok : compF Go.Proofs.Try.prog 0 [0, 2, 3, 4, 7, 11, 24] 21 = some f21 := by kernel_rfl
theorem f21_n : argsOK Go.Proofs.Try.prog 21 1 = true := by kernel_rfl
theorem f22_ok : compF Go.Proofs.Try.prog 0 [0] 22 = some f22 := by kernel_rfl
theorem f22_n : argsOK Go.Proofs.Try.prog 22 0 = true := by kernel_rfl
theorem f23_ok : compF Go.Proofs.Try.prog 0 [0, 1, 2, 3, 4, 9, 10, 11, 12, 13, 14, 15, 16, 17, 18, 19, 20, 21, 22, 23, 24, 25, 26, 29, 30, 43, 55, 89, 120, 127, 165] 23 = some f23 := by kernel_rfl
theorem f23_n : argsOK Go.Proofs.Try.prog 23 5 = true := by kernel_rfl
theorem f24_ok : compF Go.Proofs.Try.prog 0 [0, 1, 2, 3, 8, 9, 10, 11, 12, 13, 28] 24 = some f24 := by kernel_rfl
theorem f24_n : argsOK Go.Proofs.Try.prog 24 4 = true := by kernel_rfl
theorem f29_ok : compF Go.Proofs.Try.prog 0 [0, 2, 3, 12] 29 = some f29 := by kernel_rfl
theorem f29_n : argsOK Go.Proofs.Try.prog 29 1 = true := by kernel_rfl
theorem f30_ok : compF Go.Proofs.Try.prog 0 [0, 1, 3, 4, 5, 8] 30 = some f30 := by kernel_rfl
theorem f30_n : argsOK Go.Proofs.Try.prog 30 2 = true := by kernel_rfl
theorem f33_ok : compF Go.Proofs.Try.prog 0 [0, 2] 33 = some f33 := by kernel_rfl
theorem f33_n : argsOK Go.Proofs.Try.prog 33 1 = true := by kernel_rfl
theorem f34_ok : compF Go.Proofs.Try.prog 0 [0, 1, 2, 3, 4] 34 = some f34 := by kernel_rfl
theorem f34_n : argsOK Go.Proofs.Try.prog 34 2 = true := by kernel_rfl
theorem f35_ok : compF Go.Proofs.Try.prog 0 [0, 1, 2] 35 = some f35 := by kernel_rfl
theorem f35_n : argsOK Go.Proofs.Try.prog 35 1 = true := by kernel_rfl
theorem f36_ok : compF Go.Proofs.Try.prog 0 [0, 1, 2, 4, 6, 7, 8, 9, 10, 11, 17, 31] 36 = some f36 := by kernel_rfl
theorem f36_n : argsOK Go.Proofs.Try.prog 36 3 = true := by kernel_rfl
theorem f37_ok : compF Go.Proofs.Try.prog 0 [0, 1, 3, 4, 39, 55] 37 = some f37 := by kernel_rfl
theorem f37_n : argsOK Go.Proofs.Try.prog 37 2 = true := by kernel_rfl
theorem f38_ok : compF Go.Proofs.Try.prog 0 [0, 1, 2] 38 = some f38 := by kernel_rfl
theorem f38_n : argsOK Go.Proofs.Try.prog 38 1 = true := by kernel_rfl
theorem f39_ok : compF Go.Proofs.Try.prog 0 [0, 1, 3, 4, 5, 13, 16, 26, 60] 39 = some f39 := by kernel_rfl
theorem f39_n : argsOK Go.Proofs.Try.prog 39 2 = true := by kernel_rfl
theorem f40_ok : compF Go.Proofs.Try.prog 0 [0, 1, 3, 4, 5, 6, 7, 8, 17, 38, 43, 68] 40 = some f40 := by kernel_rfl
theorem f40_n : argsOK Go.Proofs.Try.prog 40 2 = true := by kernel_rfl
theorem f41_ok : compF Go.Proofs.Try.prog 0 [0, 1, 3, 4, 14] 41 = some f41 := by kernel_rfl
theorem f41_n : argsOK Go.Proofs.Try.prog 41 2 = true := by kernel_rfl
theorem f42_ok : compF Go.Proofs.Try.prog 0 [0, 2, 3, 4, 5, 6, 22, 36] 42 = some f42 := by kernel_rfl
theorem f42_n : argsOK Go.Proofs.Try.prog 42 1 = true := by kernel_rfl
theorem f43_ok : compF Go.Proofs.Try.prog 0 [0, 1, 2, 3, 10] 43 = some f43 := by kernel_rfl
theorem f43_n : argsOK Go.Proofs.Try.prog 43 1 = true := by kernel_rfl
theorem f61_ok : compF Go.Proofs.Try.prog 0 [0, 1, 2] 61 = some f61 := by kernel_rfl
theorem f61_n : argsOK Go.Proofs.Try.prog 61 1 = true := by kernel_rfl
theorem f64_ok : compF Go.Proofs.Try.prog 0 [0, 2, 3, 4, 7, 15] 64 = some f64 := by kernel_rfl
theorem f64_n : argsOK Go.Proofs.Try.prog 64 1 = true := by kernel_rfl
theorem f65_ok : compF Go.Proofs.Try.prog 0 [0, 2, 3, 4, 7, 15] 65 = some f65 := by kernel_rfl
theorem f65_n : argsOK Go.Proofs.Try.prog 65 1 = true := by kernel_rfl
theorem f66_ok : compF Go.Proofs.Try.prog 0 [0, 2, 3, 5, 6, 7, 8, 9, 14] 66 = some f66 := by kernel_rfl
theorem f66_n : argsOK Go.Proofs.Try.prog 66 1 = true := by kernel_rfl
theorem f67_ok : compF Go.Proofs.Try.prog 0 [0, 1, 4, 5, 6, 11, 12, 13, 16, 19] 67 = some f67 := by kernel_rfl
theorem f67_n : argsOK Go.Proofs.Try.prog 67 2 = true := by kernel_rfl
theorem f68_ok : compF Go.Proofs.Try.prog 0 [0, 2] 68 = some f68 := by kernel_rfl
theorem f68_n : argsOK Go.Proofs.Try.prog 68 1 = true := by kernel_rfl
theorem f69_ok : compF Go.Proofs.Try.prog 0 [0, 1, 2, 3, 4] 69 = some f69 := by kernel_rfl
theorem f69_n : argsOK Go.Proofs.Try.prog 69 2 = true := by kernel_rfl
theorem f70_ok : compF Go.Proofs.Try.prog 0 [0, 2] 70 = some f70 := by kernel_rfl
theorem f70_n : argsOK Go.Proofs.Try.prog 70 1 = true := by kernel_rfl
theorem f85_ok : compF Go.Proofs.Try.prog 0 [0, 2] 85 = some f85 := by kernel_rfl
theorem f85_n : argsOK Go.Proofs.Try.prog 85 1 = true := by kernel_rfl
end Go.AM.Rp
