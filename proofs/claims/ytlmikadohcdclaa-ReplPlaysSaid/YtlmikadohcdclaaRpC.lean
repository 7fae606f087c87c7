/- The functions' abstract code (printed by wip/am/Comp.lean.txt), and that it is what they compile to. -/
import Derived.Test.YtlmikadohcdclaaAmX
import Derived.Test.YtlmikadohcdclaaProg
import Derived.KernelRfl
set_option linter.unusedSimpArgs false
set_option linter.unusedVariables false
set_option maxRecDepth 100000
namespace Go.AM.Rp
def O68 : List Nat := [1, 1, 1, 1, 1, 1, 1, 1, 1, 1, 1, 1, 1, 1, 1, 1, 1, 1, 1, 1, 1, 1, 1, 1, 1, 1, 1, 1, 1, 1, 1, 1, 1, 1, 1, 1, 1, 1, 1, 1, 1, 1, 1, 1, 1, 1, 1, 1, 1, 1, 1, 1, 1, 1, 1, 1, 1, 1, 1, 1, 1, 1, 1, 1, 1, 1, 1, 1]
def Z68 : List Value := [(.int .u64 0), (.int .u64 0), (.int .u64 0), (.int .u8 0), (.int .u8 0), (.int .u8 0), (.int .u8 0), (.int .u8 0), (.int .u8 0), (.int .u8 0), (.int .u8 0), (.int .u8 0), (.int .u8 0), (.int .u8 0), (.int .u8 0), (.int .u8 0), (.int .u8 0), (.int .u8 0), (.int .u8 0), (.int .u8 0), (.int .u8 0), (.int .u8 0), (.int .u8 0), (.int .u8 0), (.int .u8 0), (.int .u8 0), (.int .u8 0), (.int .u8 0), (.int .u8 0), (.int .u8 0), (.int .u8 0), (.int .u8 0), (.int .u8 0), (.int .u8 0), (.int .u8 0), (.int .u8 0), (.int .u8 0), (.int .u8 0), (.int .u8 0), (.int .u8 0), (.int .u8 0), (.int .u8 0), (.int .u8 0), (.int .u8 0), (.int .u8 0), (.int .u8 0), (.int .u8 0), (.int .u8 0), (.int .u8 0), (.int .u8 0), (.int .u8 0), (.int .u8 0), (.int .u8 0), (.int .u8 0), (.int .u8 0), (.int .u8 0), (.int .u8 0), (.int .u8 0), (.int .u8 0), (.int .u8 0), (.int .u8 0), (.int .u8 0), (.int .u8 0), (.int .u8 0), (.int .u8 0), (.int .u8 0), (.int .u8 0), (.int .u32 0)]
def Z78 : List Value := [(.int .u8 0), (.int .i64 0), (.int .i64 0), (.int .i64 0), (.int .i64 0), (.int .u64 0), (.int .u64 0), (.int .u64 0), (.int .u8 0), (.int .u8 0), (.int .u8 0), (.int .u8 0), (.int .u8 0), (.int .u8 0), (.int .u8 0), (.int .u8 0), (.int .u8 0), (.int .u8 0), (.int .u8 0), (.int .u8 0), (.int .u8 0), (.int .u8 0), (.int .u8 0), (.int .u8 0), (.int .u8 0), (.int .u8 0), (.int .u8 0), (.int .u8 0), (.int .u8 0), (.int .u8 0), (.int .u8 0), (.int .u8 0), (.int .u8 0), (.int .u8 0), (.int .u8 0), (.int .u8 0), (.int .u8 0), (.int .u8 0), (.int .u8 0), (.int .u8 0), (.int .u8 0), (.int .u8 0), (.int .u8 0), (.int .u8 0), (.int .u8 0), (.int .u8 0), (.int .u8 0), (.int .u8 0), (.int .u8 0), (.int .u8 0), (.int .u8 0), (.int .u8 0), (.int .u8 0), (.int .u8 0), (.int .u8 0), (.int .u8 0), (.int .u8 0), (.int .u8 0), (.int .u8 0), (.int .u8 0), (.int .u8 0), (.int .u8 0), (.int .u8 0), (.int .u8 0), (.int .u8 0), (.int .u8 0), (.int .u8 0), (.int .u8 0), (.int .u8 0), (.int .u8 0), (.int .u8 0), (.int .u8 0), (.int .u32 0), (.int .u64 0), (.int .u64 0), (.int .u64 0), (.int .u32 0), (.slice none 0 0)]
/-- semaphore/semaphorelaw25.ReplDiffs ; args 3 ; slots [0, 1, 2, 3, 4, 5, 6, 7, 8, 9, 10, 11, 12, 13, 17] -/
def f3 : AFunc := ⟨[0, 1, 2, 3, 4, 5, 6, 7, 8, 9, 10, 11, 12, 13, 17],
  .seq (.reg [
    ⟨.box 26 68 (.fr 0), .fr 3, none⟩,
    ⟨.box 26 68 (.fr 1), .fr 4, none⟩,
    ⟨.box 29 5 (.fr 2), .fr 5, none⟩,
    ⟨.mov (.c (.bool false)), .fr 6, none⟩]) <|
    .seq (.seq (.reg [
    ⟨.faddr 4 (.fr 5), .tm, none⟩,
    ⟨.load1 (.tm 0), .tm, none⟩,
    ⟨.len false (.tm 0), .tm, none⟩,
    ⟨.bin .gtr (.tm 0) (.c (.int .i64 200)), .fr 14, none⟩]) <|
    .cond (.fr 14)
      (.seq (.reg [
      ⟨.callf 8 [], .tm, none⟩,
      ⟨.mov (.tm 0), .fr 6, none⟩]) <|
      .ret)
      (.skip)) <|
    .seq (.reg [
    ⟨.loadn 68 (.fr 3), .tm, none⟩,
    ⟨.loadn 68 (.fr 4), .tm, none⟩,
    ⟨.callf 9 [(.tm 1), (.tm 0)], .tm, none⟩,
    ⟨.new 29 5 [(.int .u64 0), (.int .u64 0), (.int .u64 0), (.int .u32 0), (.slice none 0 0)], .fr 7, none⟩,
    ⟨.storen 5 (.fr 7) (.tm 0), .no, none⟩]) <|
    .seq (.reg [
    ⟨.loadn 68 (.fr 3), .tm, none⟩,
    ⟨.loadn 5 (.fr 7), .tm, none⟩,
    ⟨.callf 10 [(.tm 1), (.tm 0)], .tm, none⟩,
    ⟨.mov (.tm 0), .tm, none⟩,
    ⟨.extract (.tm 0) 0, .tm, none⟩,
    ⟨.extract (.tm 1) 1, .tm, none⟩,
    ⟨.new 26 68 Z68, .fr 8, none⟩,
    ⟨.storen 68 (.fr 8) (.tm 1), .no, none⟩,
    ⟨.mov (.tm 0), .fr 9, none⟩]) <|
    .seq (.reg [
    ⟨.loadn 68 (.fr 3), .tm, none⟩,
    ⟨.loadn 5 (.fr 5), .tm, none⟩,
    ⟨.callf 10 [(.tm 1), (.tm 0)], .tm, none⟩,
    ⟨.mov (.tm 0), .tm, none⟩,
    ⟨.extract (.tm 0) 0, .tm, none⟩,
    ⟨.extract (.tm 1) 1, .tm, none⟩,
    ⟨.new 26 68 Z68, .fr 10, none⟩,
    ⟨.storen 68 (.fr 10) (.tm 1), .no, none⟩,
    ⟨.mov (.tm 0), .fr 11, none⟩]) <|
    .seq (.dreg [
    (⟨.loadn 68 (.fr 3), .tm, none⟩, []),
    (⟨.loadn 5 (.fr 5), .tm, none⟩, []),
    (⟨.build Z78 [(73, 5, (.tm 0))], .tm, none⟩, []),
    (⟨.callf 12 [(.tm 0)], .tm, none⟩, [0]),
    (⟨.callf 11 [(.tm 3), (.tm 0)], .tm, none⟩, []),
    (⟨.mov (.tm 0), .tm, none⟩, []),
    (⟨.extract (.tm 0) 0, .tm, none⟩, []),
    (⟨.extract (.tm 1) 1, .tm, none⟩, []),
    (⟨.new 26 68 Z68, .fr 12, none⟩, []),
    (⟨.storen 68 (.fr 12) (.tm 1), .no, none⟩, []),
    (⟨.mov (.tm 0), .fr 13, none⟩, [])]) <|
    .seq (.dreg [
    (⟨.loadn 5 (.fr 7), .tm, none⟩, []),
    (⟨.build Z78 [(73, 5, (.tm 0))], .tm, none⟩, []),
    (⟨.callf 12 [(.tm 0)], .tm, none⟩, []),
    (⟨.build Z78 [], .tm, none⟩, []),
    (⟨.loadn 68 (.fr 3), .tm, none⟩, [2]),
    (⟨.loadn 68 (.fr 4), .tm, none⟩, [2]),
    (⟨.callf 14 [(.tm 2), (.tm 1), (.tm 0)], .tm, none⟩, []),
    (⟨.callf 13 [(.tm 4), (.tm 0)], .tm, none⟩, []),
    (⟨.mov (.tm 0), .tm, none⟩, []),
    (⟨.loadn 68 (.fr 8), .tm, some ((.tm 0), true)⟩, []),
    (⟨.loadn 68 (.fr 4), .tm, some ((.tm 1), true)⟩, []),
    (⟨.eqs O68 false (.tm 1) (.tm 0), .tm, some ((.tm 2), true)⟩, []),
    (⟨.pick (.tm 3) (.tm 0) (.c (.bool false)), .tm, none⟩, []),
    (⟨.mov (.tm 0), .tm, none⟩, []),
    (⟨.mov (.fr 9), .tm, some ((.tm 0), true)⟩, []),
    (⟨.bin .eql (.tm 0) (.c (.int .i64 0)), .tm, some ((.tm 1), true)⟩, []),
    (⟨.pick (.tm 2) (.tm 0) (.c (.bool false)), .tm, none⟩, []),
    (⟨.mov (.tm 0), .tm, none⟩, []),
    (⟨.loadn 68 (.fr 10), .tm, some ((.tm 0), true)⟩, []),
    (⟨.loadn 68 (.fr 12), .tm, some ((.tm 1), true)⟩, []),
    (⟨.eqs O68 false (.tm 1) (.tm 0), .tm, some ((.tm 2), true)⟩, []),
    (⟨.pick (.tm 3) (.tm 0) (.c (.bool false)), .tm, none⟩, []),
    (⟨.mov (.tm 0), .tm, none⟩, []),
    (⟨.mov (.fr 11), .tm, some ((.tm 0), true)⟩, []),
    (⟨.mov (.fr 13), .tm, some ((.tm 1), true)⟩, []),
    (⟨.bin .eql (.tm 1) (.tm 0), .tm, some ((.tm 2), true)⟩, []),
    (⟨.pick (.tm 3) (.tm 0) (.c (.bool false)), .tm, none⟩, []),
    (⟨.mov (.tm 0), .tm, none⟩, []),
    (⟨.callf 8 [], .tm, some ((.tm 0), true)⟩, []),
    (⟨.pick (.tm 1) (.tm 0) (.c (.bool false)), .tm, none⟩, []),
    (⟨.mov (.tm 0), .fr 6, none⟩, [])]) <|
    .ret, [.t 6]⟩
/-- semaphore/repl.Diff ; args 2 ; slots [0, 1, 2, 3, 4, 5, 6, 7, 30, 31, 32, 40] -/
def f9 : AFunc := ⟨[0, 1, 2, 3, 4, 5, 6, 7, 30, 31, 32, 40],
  .seq (.reg [
    ⟨.box 26 68 (.fr 0), .fr 2, none⟩,
    ⟨.box 26 68 (.fr 1), .fr 3, none⟩,
    ⟨.new 29 5 [(.int .u64 0), (.int .u64 0), (.int .u64 0), (.int .u32 0), (.slice none 0 0)], .fr 4, none⟩]) <|
    .seq (.reg [
    ⟨.faddr 0 (.fr 2), .tm, none⟩,
    ⟨.load1 (.tm 0), .tm, none⟩,
    ⟨.faddr 0 (.fr 3), .tm, none⟩,
    ⟨.load1 (.tm 0), .tm, none⟩,
    ⟨.bin .xor (.tm 2) (.tm 0), .tm, none⟩,
    ⟨.faddr 1 (.fr 2), .tm, none⟩,
    ⟨.load1 (.tm 0), .tm, none⟩,
    ⟨.faddr 1 (.fr 3), .tm, none⟩,
    ⟨.load1 (.tm 0), .tm, none⟩,
    ⟨.bin .xor (.tm 2) (.tm 0), .tm, none⟩,
    ⟨.faddr 2 (.fr 2), .tm, none⟩,
    ⟨.load1 (.tm 0), .tm, none⟩,
    ⟨.faddr 2 (.fr 3), .tm, none⟩,
    ⟨.load1 (.tm 0), .tm, none⟩,
    ⟨.bin .xor (.tm 2) (.tm 0), .tm, none⟩,
    ⟨.faddr 67 (.fr 2), .tm, none⟩,
    ⟨.load1 (.tm 0), .tm, none⟩,
    ⟨.faddr 67 (.fr 3), .tm, none⟩,
    ⟨.load1 (.tm 0), .tm, none⟩,
    ⟨.bin .xor (.tm 2) (.tm 0), .tm, none⟩,
    ⟨.build [(.int .u64 0), (.int .u64 0), (.int .u64 0), (.int .u32 0), (.slice none 0 0)] [(0, 1, (.tm 15)), (1, 1, (.tm 10)), (2, 1, (.tm 5)), (3, 1, (.tm 0))], .tm, none⟩,
    ⟨.new 29 5 [(.int .u64 0), (.int .u64 0), (.int .u64 0), (.int .u32 0), (.slice none 0 0)], .fr 5, none⟩,
    ⟨.storen 5 (.fr 5) (.tm 0), .no, none⟩]) <|
    .seq (.seq (.reg [
    ⟨.faddr 3 (.fr 3), .tm, none⟩,
    ⟨.loadn 64 (.tm 0), .fr 8, none⟩,
    ⟨.mov (.c (.int .i64 0)), .fr 9, none⟩]) <|
    .block 0 (.loop (.seq (.reg [
        ⟨.bin .lss (.fr 9) (.c (.int .i64 64)), .fr 10, none⟩]) <|
        .seq (.cond (.fr 10)
          (.skip)
          (.exit 0)) <|
        .seq (.block 1 (.seq (.reg [
          ⟨.mov (.fr 9), .tm, none⟩,
          ⟨.idxa false 1 64 (.fr 8) (.fr 9), .tm, none⟩,
          ⟨.mov (.tm 1), .fr 6, none⟩,
          ⟨.mov (.tm 0), .fr 7, none⟩]) <|
          .seq (.reg [
          ⟨.mov (.fr 7), .tm, none⟩,
          ⟨.mov (.fr 6), .tm, none⟩,
          ⟨.faddr 3 (.fr 2), .tm, none⟩,
          ⟨.iaddrp 1 64 (.tm 0) (.tm 1), .tm, none⟩,
          ⟨.load1 (.tm 0), .tm, none⟩,
          ⟨.bin .neq (.tm 4) (.tm 0), .fr 11, none⟩]) <|
          .cond (.fr 11)
            (.reg [
            ⟨.faddr 4 (.fr 5), .tm, none⟩,
            ⟨.load1 (.tm 0), .tm, none⟩,
            ⟨.mov (.fr 6), .tm, none⟩,
            ⟨.mov (.fr 7), .tm, none⟩,
            ⟨.build [(.int .i64 0), (.int .u8 0)] [(0, 1, (.tm 1)), (1, 1, (.tm 0))], .tm, none⟩,
            ⟨.bslice 90 2 1 [(.int .i64 0), (.int .u8 0)] [(0, 2, (.tm 0))], .tm, none⟩,
            ⟨.app 90 2 16 (.tm 4) (.tm 0), .tm, none⟩,
            ⟨.faddr 4 (.fr 5), .tm, none⟩,
            ⟨.store1 (.tm 0) (.tm 1), .no, none⟩])
            (.skip))) <|
        .reg [
        ⟨.bin .add (.fr 9) (.c (.int .i64 1)), .tm, none⟩,
        ⟨.mov (.tm 0), .fr 9, none⟩]))) <|
    .seq (.reg [
    ⟨.loadn 5 (.fr 5), .tm, none⟩,
    ⟨.storen 5 (.fr 4) (.tm 0), .no, none⟩]) <|
    .ret, [.cn 5 4]⟩
/-- semaphore/repl.Patch ; args 2 ; slots [0, 1, 2, 3, 4, 5, 7, 10, 37, 38, 39, 40] -/
def f10 : AFunc := ⟨[0, 1, 2, 3, 4, 5, 7, 10, 37, 38, 39, 40],
  .seq (.reg [
    ⟨.box 26 68 (.fr 0), .fr 2, none⟩,
    ⟨.box 29 5 (.fr 1), .fr 3, none⟩,
    ⟨.new 26 68 Z68, .fr 4, none⟩,
    ⟨.mov (.c (.int .i64 0)), .fr 5, none⟩]) <|
    .seq (.seq (.reg [
    ⟨.loadn 5 (.fr 3), .tm, none⟩,
    ⟨.callf 31 [(.tm 0)], .tm, none⟩,
    ⟨.un .not (.tm 0), .fr 7, none⟩]) <|
    .cond (.fr 7)
      (.seq (.reg [
      ⟨.build Z68 [], .tm, none⟩,
      ⟨.storen 68 (.fr 4) (.tm 0), .no, none⟩,
      ⟨.mov (.c (.int .i64 2)), .fr 5, none⟩]) <|
      .ret)
      (.skip)) <|
    .seq (.reg [
    ⟨.faddr 0 (.fr 2), .tm, none⟩,
    ⟨.load1 (.tm 0), .tm, none⟩,
    ⟨.faddr 0 (.fr 3), .tm, none⟩,
    ⟨.load1 (.tm 0), .tm, none⟩,
    ⟨.bin .xor (.tm 2) (.tm 0), .tm, none⟩,
    ⟨.faddr 0 (.fr 2), .tm, none⟩,
    ⟨.store1 (.tm 0) (.tm 1), .no, none⟩]) <|
    .seq (.reg [
    ⟨.faddr 1 (.fr 2), .tm, none⟩,
    ⟨.load1 (.tm 0), .tm, none⟩,
    ⟨.faddr 1 (.fr 3), .tm, none⟩,
    ⟨.load1 (.tm 0), .tm, none⟩,
    ⟨.bin .xor (.tm 2) (.tm 0), .tm, none⟩,
    ⟨.faddr 1 (.fr 2), .tm, none⟩,
    ⟨.store1 (.tm 0) (.tm 1), .no, none⟩]) <|
    .seq (.reg [
    ⟨.faddr 2 (.fr 2), .tm, none⟩,
    ⟨.load1 (.tm 0), .tm, none⟩,
    ⟨.faddr 2 (.fr 3), .tm, none⟩,
    ⟨.load1 (.tm 0), .tm, none⟩,
    ⟨.bin .xor (.tm 2) (.tm 0), .tm, none⟩,
    ⟨.faddr 2 (.fr 2), .tm, none⟩,
    ⟨.store1 (.tm 0) (.tm 1), .no, none⟩]) <|
    .seq (.reg [
    ⟨.faddr 67 (.fr 2), .tm, none⟩,
    ⟨.load1 (.tm 0), .tm, none⟩,
    ⟨.faddr 3 (.fr 3), .tm, none⟩,
    ⟨.load1 (.tm 0), .tm, none⟩,
    ⟨.bin .xor (.tm 2) (.tm 0), .tm, none⟩,
    ⟨.faddr 67 (.fr 2), .tm, none⟩,
    ⟨.store1 (.tm 0) (.tm 1), .no, none⟩]) <|
    .seq (.seq (.reg [
    ⟨.faddr 4 (.fr 3), .tm, none⟩,
    ⟨.load1 (.tm 0), .fr 8, none⟩,
    ⟨.len false (.fr 8), .fr 9, none⟩,
    ⟨.mov (.c (.int .i64 0)), .fr 10, none⟩]) <|
    .block 0 (.loop (.seq (.reg [
        ⟨.bin .lss (.fr 10) (.fr 9), .fr 11, none⟩]) <|
        .seq (.cond (.fr 11)
          (.skip)
          (.exit 0)) <|
        .seq (.block 1 (.seq (.reg [
          ⟨.iaddr 2 (.fr 8) (.fr 10), .tm, none⟩,
          ⟨.loadn 2 (.tm 0), .tm, none⟩,
          ⟨.new 90 2 [(.int .i64 0), (.int .u8 0)], .fr 6, none⟩,
          ⟨.storen 2 (.fr 6) (.tm 0), .no, none⟩]) <|
          .reg [
          ⟨.faddr 0 (.fr 6), .tm, none⟩,
          ⟨.load1 (.tm 0), .tm, none⟩,
          ⟨.faddr 1 (.fr 6), .tm, none⟩,
          ⟨.load1 (.tm 0), .tm, none⟩,
          ⟨.faddr 3 (.fr 2), .tm, none⟩,
          ⟨.iaddrp 1 64 (.tm 0) (.tm 3), .tm, none⟩,
          ⟨.store1 (.tm 0) (.tm 2), .no, none⟩])) <|
        .reg [
        ⟨.bin .add (.fr 10) (.c (.int .i64 1)), .tm, none⟩,
        ⟨.mov (.tm 0), .fr 10, none⟩]))) <|
    .seq (.reg [
    ⟨.loadn 68 (.fr 2), .tm, none⟩,
    ⟨.storen 68 (.fr 4) (.tm 0), .no, none⟩,
    ⟨.mov (.c (.int .i64 0)), .fr 5, none⟩]) <|
    .ret, [.cn 68 4, .t 5]⟩
/-- semaphore/semaphoreref25.Patch ; args 2 ; slots [0, 1, 2, 3, 4, 5, 6, 10, 40] -/
def f11 : AFunc := ⟨[0, 1, 2, 3, 4, 5, 6, 10, 40],
  .seq (.reg [
    ⟨.box 26 68 (.fr 0), .fr 2, none⟩,
    ⟨.box 38 78 (.fr 1), .fr 3, none⟩,
    ⟨.new 26 68 Z68, .fr 4, none⟩,
    ⟨.mov (.c (.int .i64 0)), .fr 5, none⟩]) <|
    .seq (.seq (.reg [
    ⟨.faddr 77 (.fr 3), .tm, none⟩,
    ⟨.load1 (.tm 0), .tm, none⟩,
    ⟨.callf 32 [(.tm 0)], .tm, none⟩,
    ⟨.un .not (.tm 0), .fr 7, none⟩]) <|
    .cond (.fr 7)
      (.seq (.reg [
      ⟨.build Z68 [], .tm, none⟩,
      ⟨.storen 68 (.fr 4) (.tm 0), .no, none⟩,
      ⟨.mov (.c (.int .i64 2)), .fr 5, none⟩]) <|
      .ret)
      (.skip)) <|
    .seq (.reg [
    ⟨.faddr 0 (.fr 2), .tm, none⟩,
    ⟨.load1 (.tm 0), .tm, none⟩,
    ⟨.faddr 73 (.fr 3), .tm, none⟩,
    ⟨.load1 (.tm 0), .tm, none⟩,
    ⟨.bin .xor (.tm 2) (.tm 0), .tm, none⟩,
    ⟨.faddr 0 (.fr 2), .tm, none⟩,
    ⟨.store1 (.tm 0) (.tm 1), .no, none⟩]) <|
    .seq (.reg [
    ⟨.faddr 1 (.fr 2), .tm, none⟩,
    ⟨.load1 (.tm 0), .tm, none⟩,
    ⟨.faddr 74 (.fr 3), .tm, none⟩,
    ⟨.load1 (.tm 0), .tm, none⟩,
    ⟨.bin .xor (.tm 2) (.tm 0), .tm, none⟩,
    ⟨.faddr 1 (.fr 2), .tm, none⟩,
    ⟨.store1 (.tm 0) (.tm 1), .no, none⟩]) <|
    .seq (.reg [
    ⟨.faddr 2 (.fr 2), .tm, none⟩,
    ⟨.load1 (.tm 0), .tm, none⟩,
    ⟨.faddr 75 (.fr 3), .tm, none⟩,
    ⟨.load1 (.tm 0), .tm, none⟩,
    ⟨.bin .xor (.tm 2) (.tm 0), .tm, none⟩,
    ⟨.faddr 2 (.fr 2), .tm, none⟩,
    ⟨.store1 (.tm 0) (.tm 1), .no, none⟩]) <|
    .seq (.reg [
    ⟨.faddr 67 (.fr 2), .tm, none⟩,
    ⟨.load1 (.tm 0), .tm, none⟩,
    ⟨.faddr 76 (.fr 3), .tm, none⟩,
    ⟨.load1 (.tm 0), .tm, none⟩,
    ⟨.bin .xor (.tm 2) (.tm 0), .tm, none⟩,
    ⟨.faddr 67 (.fr 2), .tm, none⟩,
    ⟨.store1 (.tm 0) (.tm 1), .no, none⟩]) <|
    .seq (.seq (.reg [
    ⟨.mov (.c (.int .i64 0)), .fr 6, none⟩]) <|
    .block 0 (.loop (.seq (.seq (.reg [
        ⟨.mov (.fr 6), .tm, none⟩,
        ⟨.faddr 77 (.fr 3), .tm, none⟩,
        ⟨.load1 (.tm 0), .tm, none⟩,
        ⟨.len false (.tm 0), .tm, none⟩,
        ⟨.bin .lss (.tm 3) (.tm 0), .fr 8, none⟩]) <|
        .cond (.fr 8)
          (.skip)
          (.exit 0)) <|
        .seq (.block 1 (.dreg [
          (⟨.faddr 77 (.fr 3), .tm, none⟩, []),
          (⟨.load1 (.tm 0), .tm, none⟩, []),
          (⟨.mov (.fr 6), .tm, none⟩, []),
          (⟨.iaddr 2 (.tm 1) (.tm 0), .tm, none⟩, []),
          (⟨.faddr 0 (.tm 0), .tm, none⟩, []),
          (⟨.load1 (.tm 0), .tm, none⟩, []),
          (⟨.faddr 77 (.fr 3), .tm, none⟩, []),
          (⟨.load1 (.tm 0), .tm, none⟩, []),
          (⟨.mov (.fr 6), .tm, none⟩, []),
          (⟨.iaddr 2 (.tm 1) (.tm 0), .tm, none⟩, []),
          (⟨.faddr 1 (.tm 0), .tm, none⟩, []),
          (⟨.load1 (.tm 0), .tm, none⟩, []),
          (⟨.faddr 3 (.fr 2), .tm, none⟩, []),
          (⟨.iaddrp 1 64 (.tm 0) (.tm 7), .tm, none⟩, []),
          (⟨.store1 (.tm 0) (.tm 2), .no, none⟩, [])])) <|
        .reg [
        ⟨.mov (.fr 6), .tm, none⟩,
        ⟨.bin .add (.tm 0) (.c (.int .i64 1)), .tm, none⟩,
        ⟨.mov (.tm 0), .fr 6, none⟩]))) <|
    .seq (.reg [
    ⟨.loadn 68 (.fr 2), .tm, none⟩,
    ⟨.storen 68 (.fr 4) (.tm 0), .no, none⟩,
    ⟨.mov (.c (.int .i64 0)), .fr 5, none⟩]) <|
    .ret, [.cn 68 4, .t 5]⟩
/-- semaphore/semaphorelaw25.plain ; args 1 ; slots [0, 1, 2, 3, 4, 35] -/
def f12 : AFunc := ⟨[0, 1, 2, 3, 4, 35],
  .seq (.reg [
    ⟨.box 41 78 (.fr 0), .fr 1, none⟩,
    ⟨.new 38 78 Z78, .fr 2, none⟩]) <|
    .seq (.reg [
    ⟨.faddr 0 (.fr 1), .tm, none⟩,
    ⟨.load1 (.tm 0), .tm, none⟩,
    ⟨.faddr 1 (.fr 1), .tm, none⟩,
    ⟨.load1 (.tm 0), .tm, none⟩,
    ⟨.faddr 2 (.fr 1), .tm, none⟩,
    ⟨.load1 (.tm 0), .tm, none⟩,
    ⟨.faddr 3 (.fr 1), .tm, none⟩,
    ⟨.load1 (.tm 0), .tm, none⟩,
    ⟨.faddr 4 (.fr 1), .tm, none⟩,
    ⟨.load1 (.tm 0), .tm, none⟩,
    ⟨.faddr 5 (.fr 1), .tm, none⟩,
    ⟨.loadn 68 (.tm 0), .tm, none⟩,
    ⟨.faddr 73 (.fr 1), .tm, none⟩,
    ⟨.faddr 0 (.tm 0), .tm, none⟩,
    ⟨.load1 (.tm 0), .tm, none⟩,
    ⟨.faddr 73 (.fr 1), .tm, none⟩,
    ⟨.faddr 1 (.tm 0), .tm, none⟩,
    ⟨.load1 (.tm 0), .tm, none⟩,
    ⟨.faddr 73 (.fr 1), .tm, none⟩,
    ⟨.faddr 2 (.tm 0), .tm, none⟩,
    ⟨.load1 (.tm 0), .tm, none⟩,
    ⟨.faddr 73 (.fr 1), .tm, none⟩,
    ⟨.faddr 3 (.tm 0), .tm, none⟩,
    ⟨.load1 (.tm 0), .tm, none⟩,
    ⟨.build Z78 [(0, 1, (.tm 22)), (1, 1, (.tm 20)), (2, 1, (.tm 18)), (3, 1, (.tm 16)), (4, 1, (.tm 14)), (5, 68, (.tm 12)), (73, 1, (.tm 9)), (74, 1, (.tm 6)), (75, 1, (.tm 3)), (76, 1, (.tm 0))], .tm, none⟩,
    ⟨.new 38 78 Z78, .fr 3, none⟩,
    ⟨.storen 78 (.fr 3) (.tm 0), .no, none⟩]) <|
    .seq (.seq (.reg [
    ⟨.mov (.c (.int .i64 0)), .fr 4, none⟩]) <|
    .block 0 (.loop (.seq (.seq (.reg [
        ⟨.mov (.fr 4), .tm, none⟩,
        ⟨.faddr 73 (.fr 1), .tm, none⟩,
        ⟨.faddr 4 (.tm 0), .tm, none⟩,
        ⟨.load1 (.tm 0), .tm, none⟩,
        ⟨.len false (.tm 0), .tm, none⟩,
        ⟨.bin .lss (.tm 4) (.tm 0), .fr 5, none⟩]) <|
        .cond (.fr 5)
          (.skip)
          (.exit 0)) <|
        .seq (.block 1 (.dreg [
          (⟨.faddr 77 (.fr 3), .tm, none⟩, []),
          (⟨.load1 (.tm 0), .tm, none⟩, []),
          (⟨.faddr 73 (.fr 1), .tm, none⟩, []),
          (⟨.faddr 4 (.tm 0), .tm, none⟩, []),
          (⟨.load1 (.tm 0), .tm, none⟩, []),
          (⟨.mov (.fr 4), .tm, none⟩, []),
          (⟨.iaddr 2 (.tm 1) (.tm 0), .tm, none⟩, []),
          (⟨.faddr 0 (.tm 0), .tm, none⟩, []),
          (⟨.load1 (.tm 0), .tm, none⟩, []),
          (⟨.faddr 73 (.fr 1), .tm, none⟩, []),
          (⟨.faddr 4 (.tm 0), .tm, none⟩, []),
          (⟨.load1 (.tm 0), .tm, none⟩, []),
          (⟨.mov (.fr 4), .tm, none⟩, []),
          (⟨.iaddr 2 (.tm 1) (.tm 0), .tm, none⟩, []),
          (⟨.faddr 1 (.tm 0), .tm, none⟩, []),
          (⟨.load1 (.tm 0), .tm, none⟩, []),
          (⟨.build [(.int .i64 0), (.int .u8 0)] [(0, 1, (.tm 7)), (1, 1, (.tm 0))], .tm, none⟩, []),
          (⟨.bslice 92 2 1 [(.int .i64 0), (.int .u8 0)] [(0, 2, (.tm 0))], .tm, none⟩, []),
          (⟨.app 92 2 16 (.tm 16) (.tm 0), .tm, none⟩, []),
          (⟨.faddr 77 (.fr 3), .tm, none⟩, []),
          (⟨.store1 (.tm 0) (.tm 1), .no, none⟩, [])])) <|
        .reg [
        ⟨.mov (.fr 4), .tm, none⟩,
        ⟨.bin .add (.tm 0) (.c (.int .i64 1)), .tm, none⟩,
        ⟨.mov (.tm 0), .fr 4, none⟩]))) <|
    .seq (.reg [
    ⟨.loadn 78 (.fr 3), .tm, none⟩,
    ⟨.storen 78 (.fr 2) (.tm 0), .no, none⟩]) <|
    .ret, [.cn 78 2]⟩
/-- semaphore/semaphorelaw25.same ; args 2 ; slots [0, 1, 2, 3, 4, 5, 82, 87, 100] -/
def f13 : AFunc := ⟨[0, 1, 2, 3, 4, 5, 82, 87, 100],
  .seq (.reg [
    ⟨.box 38 78 (.fr 0), .fr 2, none⟩,
    ⟨.box 38 78 (.fr 1), .fr 3, none⟩,
    ⟨.mov (.c (.bool false)), .fr 4, none⟩]) <|
    .seq (.seq (.reg [
    ⟨.faddr 0 (.fr 2), .tm, none⟩,
    ⟨.load1 (.tm 0), .tm, none⟩,
    ⟨.faddr 0 (.fr 3), .tm, none⟩,
    ⟨.load1 (.tm 0), .tm, none⟩,
    ⟨.bin .neq (.tm 2) (.tm 0), .tm, none⟩,
    ⟨.mov (.tm 0), .tm, none⟩,
    ⟨.faddr 1 (.fr 2), .tm, some ((.tm 0), false)⟩,
    ⟨.load1 (.tm 0), .tm, some ((.tm 1), false)⟩,
    ⟨.faddr 1 (.fr 3), .tm, some ((.tm 2), false)⟩,
    ⟨.load1 (.tm 0), .tm, some ((.tm 3), false)⟩,
    ⟨.bin .neq (.tm 2) (.tm 0), .tm, some ((.tm 4), false)⟩,
    ⟨.pick (.tm 5) (.c (.bool true)) (.tm 0), .tm, none⟩,
    ⟨.mov (.tm 0), .tm, none⟩,
    ⟨.faddr 2 (.fr 2), .tm, some ((.tm 0), false)⟩,
    ⟨.load1 (.tm 0), .tm, some ((.tm 1), false)⟩,
    ⟨.faddr 2 (.fr 3), .tm, some ((.tm 2), false)⟩,
    ⟨.load1 (.tm 0), .tm, some ((.tm 3), false)⟩,
    ⟨.bin .neq (.tm 2) (.tm 0), .tm, some ((.tm 4), false)⟩,
    ⟨.pick (.tm 5) (.c (.bool true)) (.tm 0), .tm, none⟩,
    ⟨.mov (.tm 0), .tm, none⟩,
    ⟨.faddr 3 (.fr 2), .tm, some ((.tm 0), false)⟩,
    ⟨.load1 (.tm 0), .tm, some ((.tm 1), false)⟩,
    ⟨.faddr 3 (.fr 3), .tm, some ((.tm 2), false)⟩,
    ⟨.load1 (.tm 0), .tm, some ((.tm 3), false)⟩,
    ⟨.bin .neq (.tm 2) (.tm 0), .tm, some ((.tm 4), false)⟩,
    ⟨.pick (.tm 5) (.c (.bool true)) (.tm 0), .tm, none⟩,
    ⟨.mov (.tm 0), .tm, none⟩,
    ⟨.faddr 4 (.fr 2), .tm, some ((.tm 0), false)⟩,
    ⟨.load1 (.tm 0), .tm, some ((.tm 1), false)⟩,
    ⟨.faddr 4 (.fr 3), .tm, some ((.tm 2), false)⟩,
    ⟨.load1 (.tm 0), .tm, some ((.tm 3), false)⟩,
    ⟨.bin .neq (.tm 2) (.tm 0), .tm, some ((.tm 4), false)⟩,
    ⟨.pick (.tm 5) (.c (.bool true)) (.tm 0), .tm, none⟩,
    ⟨.mov (.tm 0), .tm, none⟩,
    ⟨.faddr 5 (.fr 2), .tm, some ((.tm 0), false)⟩,
    ⟨.loadn 68 (.tm 0), .tm, some ((.tm 1), false)⟩,
    ⟨.faddr 5 (.fr 3), .tm, some ((.tm 2), false)⟩,
    ⟨.loadn 68 (.tm 0), .tm, some ((.tm 3), false)⟩,
    ⟨.eqs O68 true (.tm 2) (.tm 0), .tm, some ((.tm 4), false)⟩,
    ⟨.pick (.tm 5) (.c (.bool true)) (.tm 0), .tm, none⟩,
    ⟨.mov (.tm 0), .tm, none⟩,
    ⟨.faddr 73 (.fr 2), .tm, some ((.tm 0), false)⟩,
    ⟨.load1 (.tm 0), .tm, some ((.tm 1), false)⟩,
    ⟨.faddr 73 (.fr 3), .tm, some ((.tm 2), false)⟩,
    ⟨.load1 (.tm 0), .tm, some ((.tm 3), false)⟩,
    ⟨.bin .neq (.tm 2) (.tm 0), .tm, some ((.tm 4), false)⟩,
    ⟨.pick (.tm 5) (.c (.bool true)) (.tm 0), .tm, none⟩,
    ⟨.mov (.tm 0), .tm, none⟩,
    ⟨.faddr 74 (.fr 2), .tm, some ((.tm 0), false)⟩,
    ⟨.load1 (.tm 0), .tm, some ((.tm 1), false)⟩,
    ⟨.faddr 74 (.fr 3), .tm, some ((.tm 2), false)⟩,
    ⟨.load1 (.tm 0), .tm, some ((.tm 3), false)⟩,
    ⟨.bin .neq (.tm 2) (.tm 0), .tm, some ((.tm 4), false)⟩,
    ⟨.pick (.tm 5) (.c (.bool true)) (.tm 0), .tm, none⟩,
    ⟨.mov (.tm 0), .tm, none⟩,
    ⟨.faddr 75 (.fr 2), .tm, some ((.tm 0), false)⟩,
    ⟨.load1 (.tm 0), .tm, some ((.tm 1), false)⟩,
    ⟨.faddr 75 (.fr 3), .tm, some ((.tm 2), false)⟩,
    ⟨.load1 (.tm 0), .tm, some ((.tm 3), false)⟩,
    ⟨.bin .neq (.tm 2) (.tm 0), .tm, some ((.tm 4), false)⟩,
    ⟨.pick (.tm 5) (.c (.bool true)) (.tm 0), .tm, none⟩,
    ⟨.mov (.tm 0), .tm, none⟩,
    ⟨.faddr 76 (.fr 2), .tm, some ((.tm 0), false)⟩,
    ⟨.load1 (.tm 0), .tm, some ((.tm 1), false)⟩,
    ⟨.faddr 76 (.fr 3), .tm, some ((.tm 2), false)⟩,
    ⟨.load1 (.tm 0), .tm, some ((.tm 3), false)⟩,
    ⟨.bin .neq (.tm 2) (.tm 0), .tm, some ((.tm 4), false)⟩,
    ⟨.pick (.tm 5) (.c (.bool true)) (.tm 0), .tm, none⟩,
    ⟨.mov (.tm 0), .tm, none⟩,
    ⟨.faddr 77 (.fr 2), .tm, some ((.tm 0), false)⟩,
    ⟨.load1 (.tm 0), .tm, some ((.tm 1), false)⟩,
    ⟨.len false (.tm 0), .tm, some ((.tm 2), false)⟩,
    ⟨.faddr 77 (.fr 3), .tm, some ((.tm 3), false)⟩,
    ⟨.load1 (.tm 0), .tm, some ((.tm 4), false)⟩,
    ⟨.len false (.tm 0), .tm, some ((.tm 5), false)⟩,
    ⟨.bin .neq (.tm 3) (.tm 0), .tm, some ((.tm 6), false)⟩,
    ⟨.pick (.tm 7) (.c (.bool true)) (.tm 0), .fr 6, none⟩]) <|
    .cond (.fr 6)
      (.seq (.reg [
      ⟨.mov (.c (.bool false)), .fr 4, none⟩]) <|
      .ret)
      (.skip)) <|
    .seq (.seq (.reg [
    ⟨.mov (.c (.int .i64 0)), .fr 5, none⟩]) <|
    .block 0 (.loop (.seq (.seq (.reg [
        ⟨.mov (.fr 5), .tm, none⟩,
        ⟨.faddr 77 (.fr 2), .tm, none⟩,
        ⟨.load1 (.tm 0), .tm, none⟩,
        ⟨.len false (.tm 0), .tm, none⟩,
        ⟨.bin .lss (.tm 3) (.tm 0), .fr 7, none⟩]) <|
        .cond (.fr 7)
          (.skip)
          (.exit 0)) <|
        .seq (.block 1 (.seq (.dreg [
          (⟨.faddr 77 (.fr 2), .tm, none⟩, []),
          (⟨.load1 (.tm 0), .tm, none⟩, []),
          (⟨.mov (.fr 5), .tm, none⟩, []),
          (⟨.iaddr 2 (.tm 1) (.tm 0), .tm, none⟩, []),
          (⟨.loadn 2 (.tm 0), .tm, none⟩, []),
          (⟨.faddr 77 (.fr 3), .tm, none⟩, []),
          (⟨.load1 (.tm 0), .tm, none⟩, []),
          (⟨.mov (.fr 5), .tm, none⟩, []),
          (⟨.iaddr 2 (.tm 1) (.tm 0), .tm, none⟩, []),
          (⟨.loadn 2 (.tm 0), .tm, none⟩, []),
          (⟨.eqs [1, 1] true (.tm 5) (.tm 0), .fr 8, none⟩, [])]) <|
          .cond (.fr 8)
            (.seq (.reg [
            ⟨.mov (.c (.bool false)), .fr 4, none⟩]) <|
            .ret)
            (.skip))) <|
        .reg [
        ⟨.mov (.fr 5), .tm, none⟩,
        ⟨.bin .add (.tm 0) (.c (.int .i64 1)), .tm, none⟩,
        ⟨.mov (.tm 0), .fr 5, none⟩]))) <|
    .seq (.reg [
    ⟨.mov (.c (.bool true)), .fr 4, none⟩]) <|
    .ret, [.t 4]⟩
/-- semaphore/semaphoreref25.Diff ; args 3 ; slots [0, 1, 2, 3, 4, 5, 6, 7, 33, 44] -/
def f14 : AFunc := ⟨[0, 1, 2, 3, 4, 5, 6, 7, 33, 44],
  .seq (.reg [
    ⟨.box 38 78 (.fr 0), .fr 3, none⟩,
    ⟨.box 26 68 (.fr 1), .fr 4, none⟩,
    ⟨.box 26 68 (.fr 2), .fr 5, none⟩,
    ⟨.new 38 78 Z78, .fr 6, none⟩]) <|
    .seq (.reg [
    ⟨.faddr 0 (.fr 4), .tm, none⟩,
    ⟨.load1 (.tm 0), .tm, none⟩,
    ⟨.faddr 0 (.fr 5), .tm, none⟩,
    ⟨.load1 (.tm 0), .tm, none⟩,
    ⟨.bin .xor (.tm 2) (.tm 0), .tm, none⟩,
    ⟨.faddr 73 (.fr 3), .tm, none⟩,
    ⟨.store1 (.tm 0) (.tm 1), .no, none⟩]) <|
    .seq (.reg [
    ⟨.faddr 1 (.fr 4), .tm, none⟩,
    ⟨.load1 (.tm 0), .tm, none⟩,
    ⟨.faddr 1 (.fr 5), .tm, none⟩,
    ⟨.load1 (.tm 0), .tm, none⟩,
    ⟨.bin .xor (.tm 2) (.tm 0), .tm, none⟩,
    ⟨.faddr 74 (.fr 3), .tm, none⟩,
    ⟨.store1 (.tm 0) (.tm 1), .no, none⟩]) <|
    .seq (.reg [
    ⟨.faddr 2 (.fr 4), .tm, none⟩,
    ⟨.load1 (.tm 0), .tm, none⟩,
    ⟨.faddr 2 (.fr 5), .tm, none⟩,
    ⟨.load1 (.tm 0), .tm, none⟩,
    ⟨.bin .xor (.tm 2) (.tm 0), .tm, none⟩,
    ⟨.faddr 75 (.fr 3), .tm, none⟩,
    ⟨.store1 (.tm 0) (.tm 1), .no, none⟩]) <|
    .seq (.reg [
    ⟨.faddr 67 (.fr 4), .tm, none⟩,
    ⟨.load1 (.tm 0), .tm, none⟩,
    ⟨.faddr 67 (.fr 5), .tm, none⟩,
    ⟨.load1 (.tm 0), .tm, none⟩,
    ⟨.bin .xor (.tm 2) (.tm 0), .tm, none⟩,
    ⟨.faddr 76 (.fr 3), .tm, none⟩,
    ⟨.store1 (.tm 0) (.tm 1), .no, none⟩]) <|
    .seq (.seq (.reg [
    ⟨.mov (.c (.int .i64 0)), .fr 7, none⟩]) <|
    .block 0 (.loop (.seq (.seq (.reg [
        ⟨.mov (.fr 7), .tm, none⟩,
        ⟨.bin .lss (.tm 0) (.c (.int .i64 64)), .fr 8, none⟩]) <|
        .cond (.fr 8)
          (.skip)
          (.exit 0)) <|
        .seq (.block 1 (.seq (.dreg [
          (⟨.mov (.fr 7), .tm, none⟩, []),
          (⟨.faddr 3 (.fr 4), .tm, none⟩, []),
          (⟨.iaddrp 1 64 (.tm 0) (.tm 1), .tm, none⟩, []),
          (⟨.load1 (.tm 0), .tm, none⟩, []),
          (⟨.mov (.fr 7), .tm, none⟩, []),
          (⟨.faddr 3 (.fr 5), .tm, none⟩, []),
          (⟨.iaddrp 1 64 (.tm 0) (.tm 1), .tm, none⟩, []),
          (⟨.load1 (.tm 0), .tm, none⟩, []),
          (⟨.bin .neq (.tm 4) (.tm 0), .fr 9, none⟩, [])]) <|
          .cond (.fr 9)
            (.dreg [
            (⟨.faddr 77 (.fr 3), .tm, none⟩, []),
            (⟨.load1 (.tm 0), .tm, none⟩, []),
            (⟨.mov (.fr 7), .tm, none⟩, []),
            (⟨.mov (.fr 7), .tm, none⟩, []),
            (⟨.faddr 3 (.fr 5), .tm, none⟩, []),
            (⟨.iaddrp 1 64 (.tm 0) (.tm 1), .tm, none⟩, []),
            (⟨.load1 (.tm 0), .tm, none⟩, []),
            (⟨.build [(.int .i64 0), (.int .u8 0)] [(0, 1, (.tm 4)), (1, 1, (.tm 0))], .tm, none⟩, []),
            (⟨.bslice 92 2 1 [(.int .i64 0), (.int .u8 0)] [(0, 2, (.tm 0))], .tm, none⟩, []),
            (⟨.app 92 2 16 (.tm 7) (.tm 0), .tm, none⟩, []),
            (⟨.faddr 77 (.fr 3), .tm, none⟩, []),
            (⟨.store1 (.tm 0) (.tm 1), .no, none⟩, [])])
            (.skip))) <|
        .reg [
        ⟨.mov (.fr 7), .tm, none⟩,
        ⟨.bin .add (.tm 0) (.c (.int .i64 1)), .tm, none⟩,
        ⟨.mov (.tm 0), .fr 7, none⟩]))) <|
    .seq (.reg [
    ⟨.loadn 78 (.fr 3), .tm, none⟩,
    ⟨.storen 78 (.fr 6) (.tm 0), .no, none⟩]) <|
    .ret, [.cn 78 6]⟩
/-- (semaphore/repl.Delta).right ; args 1 ; slots [0, 1, 2, 3, 5, 7, 8, 9, 10, 21] -/
def f31 : AFunc := ⟨[0, 1, 2, 3, 5, 7, 8, 9, 10, 21],
  .seq (.reg [
    ⟨.box 29 5 (.fr 0), .fr 1, none⟩,
    ⟨.mov (.c (.bool false)), .fr 2, none⟩]) <|
    .seq (.reg [
    ⟨.mov (.c (.int .i64 (-1))), .fr 3, none⟩]) <|
    .seq (.seq (.reg [
    ⟨.faddr 4 (.fr 1), .tm, none⟩,
    ⟨.load1 (.tm 0), .fr 5, none⟩,
    ⟨.len false (.fr 5), .fr 6, none⟩,
    ⟨.mov (.c (.int .i64 0)), .fr 7, none⟩]) <|
    .block 0 (.loop (.seq (.reg [
        ⟨.bin .lss (.fr 7) (.fr 6), .fr 8, none⟩]) <|
        .seq (.cond (.fr 8)
          (.skip)
          (.exit 0)) <|
        .seq (.block 1 (.seq (.reg [
          ⟨.iaddr 2 (.fr 5) (.fr 7), .tm, none⟩,
          ⟨.loadn 2 (.tm 0), .tm, none⟩,
          ⟨.new 90 2 [(.int .i64 0), (.int .u8 0)], .fr 4, none⟩,
          ⟨.storen 2 (.fr 4) (.tm 0), .no, none⟩]) <|
          .seq (.seq (.reg [
          ⟨.faddr 0 (.fr 4), .tm, none⟩,
          ⟨.load1 (.tm 0), .tm, none⟩,
          ⟨.mov (.fr 3), .tm, none⟩,
          ⟨.bin .leq (.tm 1) (.tm 0), .tm, none⟩,
          ⟨.mov (.tm 0), .tm, none⟩,
          ⟨.faddr 0 (.fr 4), .tm, some ((.tm 0), false)⟩,
          ⟨.load1 (.tm 0), .tm, some ((.tm 1), false)⟩,
          ⟨.bin .geq (.tm 0) (.c (.int .i64 64)), .tm, some ((.tm 2), false)⟩,
          ⟨.pick (.tm 3) (.c (.bool true)) (.tm 0), .fr 9, none⟩]) <|
          .cond (.fr 9)
            (.seq (.reg [
            ⟨.mov (.c (.bool false)), .fr 2, none⟩]) <|
            .ret)
            (.skip)) <|
          .reg [
          ⟨.faddr 0 (.fr 4), .tm, none⟩,
          ⟨.load1 (.tm 0), .tm, none⟩,
          ⟨.mov (.tm 0), .fr 3, none⟩])) <|
        .reg [
        ⟨.bin .add (.fr 7) (.c (.int .i64 1)), .tm, none⟩,
        ⟨.mov (.tm 0), .fr 7, none⟩]))) <|
    .seq (.reg [
    ⟨.mov (.c (.bool true)), .fr 2, none⟩]) <|
    .ret, [.t 2]⟩
/-- semaphore/semaphoreref25.rise ; args 1 ; slots [0, 2, 3, 7, 41] -/
def f32 : AFunc := ⟨[0, 2, 3, 7, 41],
  .seq (.reg [
    ⟨.mov (.c (.bool false)), .fr 1, none⟩]) <|
    .seq (.seq (.reg [
    ⟨.mov (.c (.int .i64 0)), .fr 2, none⟩]) <|
    .block 0 (.loop (.seq (.seq (.reg [
        ⟨.mov (.fr 2), .tm, none⟩,
        ⟨.mov (.fr 0), .tm, none⟩,
        ⟨.len false (.tm 0), .tm, none⟩,
        ⟨.bin .lss (.tm 2) (.tm 0), .fr 3, none⟩]) <|
        .cond (.fr 3)
          (.skip)
          (.exit 0)) <|
        .seq (.block 1 (.seq (.dreg [
          (⟨.mov (.fr 0), .tm, none⟩, []),
          (⟨.mov (.fr 2), .tm, none⟩, []),
          (⟨.iaddr 2 (.tm 1) (.tm 0), .tm, none⟩, []),
          (⟨.faddr 0 (.tm 0), .tm, none⟩, []),
          (⟨.load1 (.tm 0), .tm, none⟩, []),
          (⟨.bin .lss (.tm 0) (.c (.int .i64 0)), .tm, none⟩, []),
          (⟨.mov (.tm 0), .tm, none⟩, []),
          (⟨.mov (.fr 0), .tm, some ((.tm 0), false)⟩, []),
          (⟨.mov (.fr 2), .tm, some ((.tm 1), false)⟩, []),
          (⟨.iaddr 2 (.tm 1) (.tm 0), .tm, some ((.tm 2), false)⟩, []),
          (⟨.faddr 0 (.tm 0), .tm, some ((.tm 3), false)⟩, []),
          (⟨.load1 (.tm 0), .tm, some ((.tm 4), false)⟩, []),
          (⟨.bin .geq (.tm 0) (.c (.int .i64 64)), .tm, some ((.tm 5), false)⟩, []),
          (⟨.pick (.tm 6) (.c (.bool true)) (.tm 0), .tm, none⟩, []),
          (⟨.mov (.tm 0), .tm, none⟩, []),
          (⟨.mov (.fr 2), .tm, some ((.tm 0), false)⟩, []),
          (⟨.bin .gtr (.tm 0) (.c (.int .i64 0)), .tm, some ((.tm 1), false)⟩, []),
          (⟨.mov (.tm 0), .tm, some ((.tm 2), false)⟩, []),
          (⟨.mov (.fr 0), .tm, some ((.tm 0), true)⟩, []),
          (⟨.mov (.fr 2), .tm, some ((.tm 1), true)⟩, []),
          (⟨.iaddr 2 (.tm 1) (.tm 0), .tm, some ((.tm 2), true)⟩, []),
          (⟨.faddr 0 (.tm 0), .tm, some ((.tm 3), true)⟩, []),
          (⟨.load1 (.tm 0), .tm, some ((.tm 4), true)⟩, []),
          (⟨.mov (.fr 0), .tm, some ((.tm 5), true)⟩, []),
          (⟨.mov (.fr 2), .tm, some ((.tm 6), true)⟩, []),
          (⟨.bin .sub (.tm 0) (.c (.int .i64 1)), .tm, some ((.tm 7), true)⟩, []),
          (⟨.iaddr 2 (.tm 2) (.tm 0), .tm, some ((.tm 8), true)⟩, []),
          (⟨.faddr 0 (.tm 0), .tm, some ((.tm 9), true)⟩, []),
          (⟨.load1 (.tm 0), .tm, some ((.tm 10), true)⟩, []),
          (⟨.bin .leq (.tm 6) (.tm 0), .tm, some ((.tm 11), true)⟩, []),
          (⟨.pick (.tm 12) (.tm 0) (.c (.bool false)), .tm, some ((.tm 15), false)⟩, []),
          (⟨.pick (.tm 16) (.c (.bool true)) (.tm 0), .fr 4, none⟩, [])]) <|
          .cond (.fr 4)
            (.seq (.reg [
            ⟨.mov (.c (.bool false)), .fr 1, none⟩]) <|
            .ret)
            (.skip))) <|
        .reg [
        ⟨.mov (.fr 2), .tm, none⟩,
        ⟨.bin .add (.tm 0) (.c (.int .i64 1)), .tm, none⟩,
        ⟨.mov (.tm 0), .fr 2, none⟩]))) <|
    .seq (.reg [
    ⟨.mov (.c (.bool true)), .fr 1, none⟩]) <|
    .ret, [.t 1]⟩
theorem f3_ok : compF Go.Proofs.Try.prog 0 [0, 1, 2, 3, 4, 5, 6, 7, 8, 9, 10, 11, 12, 13, 17] 3 = some f3 := by kernel_rfl
theorem f3_n : argsOK Go.Proofs.Try.prog 3 3 = true := by kernel_rfl
theorem f9_ok : compF Go.Proofs.Try.prog 0 [0, 1, 2, 3, 4, 5, 6, 7, 30, 31, 32, 40] 9 = some f9 := by kernel_rfl
theorem f9_n : argsOK Go.Proofs.Try.prog 9 2 = true := by kernel_rfl
theorem f10_ok : compF Go.Proofs.Try.prog 0 [0, 1, 2, 3, 4, 5, 7, 10, 37, 38, 39, 40] 10 = some f10 := by kernel_rfl
theorem f10_n : argsOK Go.Proofs.Try.prog 10 2 = true := by kernel_rfl
theorem f11_ok : compF Go.Proofs.Try.prog 0 [0, 1, 2, 3, 4, 5, 6, 10, 40] 11 = some f11 := by kernel_rfl
theorem f11_n : argsOK Go.Proofs.Try.prog 11 2 = true := by kernel_rfl
theorem f12_ok : compF Go.Proofs.Try.prog 0 [0, 1, 2, 3, 4, 35] 12 = some f12 := by kernel_rfl
theorem f12_n : argsOK Go.Proofs.Try.prog 12 1 = true := by kernel_rfl
theorem f13_ok : compF Go.Proofs.Try.prog 0 [0, 1, 2, 3, 4, 5, 82, 87, 100] 13 = some f13 := by kernel_rfl
theorem f13_n : argsOK Go.Proofs.Try.prog 13 2 = true := by kernel_rfl
theorem f14_ok : compF Go.Proofs.Try.prog 0 [0, 1, 2, 3, 4, 5, 6, 7, 33, 44] 14 = some f14 := by kernel_rfl
theorem f14_n : argsOK Go.Proofs.Try.prog 14 3 = true := by kernel_rfl
theorem f31_ok : compF Go.Proofs.Try.prog 0 [0, 1, 2, 3, 5, 7, 8, 9, 10, 21] 31 = some f31 := by kernel_rfl
theorem f31_n : argsOK Go.Proofs.Try.prog 31 1 = true := by kernel_rfl
theorem f32_ok : compF Go.Proofs.Try.prog 0 [0, 2, 3, 7, 41] 32 = some f32 := by kernel_rfl
theorem f32_n : argsOK Go.Proofs.Try.prog 32 1 = true := by kernel_rfl
end Go.AM.Rp
