/- The functions' code for the evaluator (printed by program), and that it is what they compile to. -/
import Derived.Test.YtfkboffbaikhoaaAmZ2
import Derived.Test.YtfkboffbaikhoaaProg
import Derived.KernelRfl
set_option maxRecDepth 100000
namespace Go.AM.FdT
open Go.Proofs
def EFok (P : Program) (ng k : Nat) (f : EF) : Prop := ((compF P ng f.sl k).map fun af => (af.sl, af.res, simpC af.body)) = some (f.sl, f.res, f.body)
theorem ok_of {P : Program} {ng k : Nat} {f : EF} (h : EFok P ng k f) (ha : argsOK P k f.na = true) : f.ok P ng k := by
  unfold EFok at h
  simp only [Option.map_eq_some_iff, Prod.mk.injEq] at h
  obtain ⟨af, h1, h2, h3, h4⟩ := h
  exact ⟨af, h1, h2, h3, h4, ha⟩
/-- semaphore/semaphorelaw02.FieldsPuts -/
def e3 : EF := ⟨1, [0, 2, 3, 4, 5, 6, 7, 8, 9, 11, 16, 41, 59, 63], [1],
    .seq (.reg [
    ⟨.mov (.c (.bool false)), .fr 1, none⟩]) <|
    .seq (.seq (.reg [
    ⟨.mov (.fr 0), .tm, none⟩,
    ⟨.callf 8 [(.tm 0)], .fr 9, none⟩]) <|
    .cond (.fr 9)
      (.seq (.reg [
      ⟨.callf 9 [], .tm, none⟩,
      ⟨.mov (.tm 0), .fr 1, none⟩]) <|
      .ret)
      (.skip)) <|
    .seq (.reg [
    ⟨.new 27 1 [(.slice none 0 0)], .fr 2, none⟩]) <|
    .seq (.reg [
    ⟨.mov (.c (.slice none 0 0)), .fr 3, none⟩]) <|
    .seq (.seq (.reg [
    ⟨.mov (.c (.int .i64 0)), .fr 4, none⟩]) <|
    .block 0 (.loop (.seq (.seq (.reg [
        ⟨.mov (.fr 4), .tm, none⟩,
        ⟨.mov (.fr 0), .tm, none⟩,
        ⟨.len false (.tm 0), .tm, none⟩,
        ⟨.bin .lss (.tm 2) (.tm 0), .fr 10, none⟩]) <|
        .cond (.fr 10)
          (.skip)
          (.exit 0)) <|
        .seq (.block 1 (.seq (.reg [
          ⟨.mov (.fr 0), .tm, none⟩,
          ⟨.mov (.fr 4), .tm, none⟩,
          ⟨.iaddr 3 (.tm 1) (.tm 0), .tm, none⟩,
          ⟨.loadn 3 (.tm 0), .tm, none⟩,
          ⟨.new 30 3 [(.int .u8 0), (.int .u64 0), (.slice none 0 0)], .fr 5, none⟩,
          ⟨.storen 3 (.fr 5) (.tm 0), .no, none⟩]) <|
          .seq (.reg [
          ⟨.faddr 2 (.fr 5), .tm, none⟩,
          ⟨.load1 (.tm 0), .tm, none⟩,
          ⟨.b2s (.tm 0), .tm, none⟩,
          ⟨.s2b 5 (.tm 0), .tm, none⟩,
          ⟨.faddr 2 (.fr 5), .tm, none⟩,
          ⟨.store1 (.tm 0) (.tm 1), .no, none⟩]) <|
          .seq (.reg [
          ⟨.loadn 3 (.fr 5), .tm, none⟩,
          ⟨.callf 10 [(.fr 2), (.tm 0)], .tm, none⟩]) <|
          .seq (.reg [
          ⟨.mov (.fr 3), .tm, none⟩,
          ⟨.mov (.fr 0), .tm, none⟩,
          ⟨.mov (.fr 4), .tm, none⟩,
          ⟨.iaddr 3 (.tm 1) (.tm 0), .tm, none⟩,
          ⟨.loadn 3 (.tm 0), .tm, none⟩,
          ⟨.callf 11 [(.tm 0)], .tm, none⟩,
          ⟨.app 5 1 1 (.tm 5) (.tm 0), .tm, none⟩,
          ⟨.mov (.tm 0), .fr 3, none⟩]) <|
          .seq (.seq (.reg [
          ⟨.mov (.c (.int .i64 0)), .fr 6, none⟩]) <|
          .block 2 (.loop (.seq (.seq (.reg [
              ⟨.mov (.fr 6), .tm, none⟩,
              ⟨.faddr 2 (.fr 5), .tm, none⟩,
              ⟨.load1 (.tm 0), .tm, none⟩,
              ⟨.len false (.tm 0), .tm, none⟩,
              ⟨.bin .lss (.tm 3) (.tm 0), .fr 11, none⟩]) <|
              .cond (.fr 11)
                (.skip)
                (.exit 2)) <|
              .seq (.block 3 (.reg [
                ⟨.faddr 2 (.fr 5), .tm, none⟩,
                ⟨.load1 (.tm 0), .tm, none⟩,
                ⟨.mov (.fr 6), .tm, none⟩,
                ⟨.faddr 2 (.fr 5), .tm, none⟩,
                ⟨.load1 (.tm 0), .tm, none⟩,
                ⟨.mov (.fr 6), .tm, none⟩,
                ⟨.iaddr 1 (.tm 1) (.tm 0), .tm, none⟩,
                ⟨.load1 (.tm 0), .tm, none⟩,
                ⟨.bin .add (.tm 0) (.c (.int .u8 1)), .tm, none⟩,
                ⟨.iaddr 1 (.tm 7) (.tm 6), .tm, none⟩,
                ⟨.store1 (.tm 0) (.tm 1), .no, none⟩])) <|
              .reg [
              ⟨.mov (.fr 6), .tm, none⟩,
              ⟨.bin .add (.tm 0) (.c (.int .i64 1)), .tm, none⟩,
              ⟨.mov (.tm 0), .fr 6, none⟩]))) <|
          .seq (.reg [
          ⟨.callf 12 [(.fr 2)], .tm, none⟩,
          ⟨.mov (.tm 0), .fr 7, none⟩]) <|
          .seq (.seq (.reg [
          ⟨.mov (.fr 7), .tm, none⟩,
          ⟨.b2s (.tm 0), .tm, none⟩,
          ⟨.mov (.fr 3), .tm, none⟩,
          ⟨.b2s (.tm 0), .tm, none⟩,
          ⟨.bin .neq (.tm 2) (.tm 0), .fr 12, none⟩]) <|
          .cond (.fr 12)
            (.seq (.reg [
            ⟨.mov (.c (.bool false)), .fr 1, none⟩]) <|
            .ret)
            (.skip)) <|
          .seq (.reg [
          ⟨.mov (.c (.int .i64 0)), .fr 8, none⟩]) <|
          .block 4 (.loop (.seq (.seq (.reg [
              ⟨.mov (.fr 8), .tm, none⟩,
              ⟨.mov (.fr 7), .tm, none⟩,
              ⟨.len false (.tm 0), .tm, none⟩,
              ⟨.bin .lss (.tm 2) (.tm 0), .fr 13, none⟩]) <|
              .cond (.fr 13)
                (.skip)
                (.exit 4)) <|
              .seq (.block 5 (.reg [
                ⟨.mov (.fr 7), .tm, none⟩,
                ⟨.mov (.fr 8), .tm, none⟩,
                ⟨.mov (.fr 7), .tm, none⟩,
                ⟨.mov (.fr 8), .tm, none⟩,
                ⟨.iaddr 1 (.tm 1) (.tm 0), .tm, none⟩,
                ⟨.load1 (.tm 0), .tm, none⟩,
                ⟨.bin .add (.tm 0) (.c (.int .u8 1)), .tm, none⟩,
                ⟨.iaddr 1 (.tm 6) (.tm 5), .tm, none⟩,
                ⟨.store1 (.tm 0) (.tm 1), .no, none⟩])) <|
              .reg [
              ⟨.mov (.fr 8), .tm, none⟩,
              ⟨.bin .add (.tm 0) (.c (.int .i64 1)), .tm, none⟩,
              ⟨.mov (.tm 0), .fr 8, none⟩])))) <|
        .reg [
        ⟨.mov (.fr 4), .tm, none⟩,
        ⟨.bin .add (.tm 0) (.c (.int .i64 1)), .tm, none⟩,
        ⟨.mov (.tm 0), .fr 4, none⟩]))) <|
    .seq (.dreg [
    (⟨.callf 12 [(.fr 2)], .tm, none⟩, []),
    (⟨.b2s (.tm 0), .tm, none⟩, []),
    (⟨.mov (.fr 3), .tm, none⟩, []),
    (⟨.b2s (.tm 0), .tm, none⟩, [0]),
    (⟨.bin .eql (.tm 2) (.tm 0), .tm, none⟩, []),
    (⟨.mov (.tm 0), .tm, none⟩, []),
    (⟨.callf 9 [], .tm, some ((.tm 0), true)⟩, []),
    (⟨.pick (.tm 1) (.tm 0) (.c (.bool false)), .tm, none⟩, []),
    (⟨.mov (.tm 0), .fr 1, none⟩, [])]) <|
    .ret⟩
/-- semaphore/semaphorelaw02.FieldsSides -/
def e4 : EF := ⟨3, [0, 1, 2, 6, 7, 8, 9, 10, 11, 12, 13, 14], [3],
    .seq (.reg [
    ⟨.mov (.c (.bool false)), .fr 3, none⟩]) <|
    .seq (.reg [
    ⟨.mov (.fr 2), .tm, none⟩,
    ⟨.bin .rem (.tm 0) (.c (.int .u8 4)), .tm, none⟩,
    ⟨.mov (.tm 0), .fr 4, none⟩]) <|
    .seq (.reg [
    ⟨.new 27 1 [(.slice none 0 0)], .fr 5, none⟩,
    ⟨.new 27 1 [(.slice none 0 0)], .fr 6, none⟩,
    ⟨.new 27 1 [(.slice none 0 0)], .fr 7, none⟩]) <|
    .seq (.reg [
    ⟨.mov (.fr 4), .tm, none⟩,
    ⟨.mov (.fr 0), .tm, none⟩,
    ⟨.build [(.int .u8 0), (.int .u64 0), (.slice none 0 0)] [(0, 1, (.tm 1)), (1, 1, (.tm 0))], .tm, none⟩,
    ⟨.callf 10 [(.fr 5), (.tm 0)], .tm, none⟩]) <|
    .seq (.reg [
    ⟨.mov (.fr 4), .tm, none⟩,
    ⟨.mov (.fr 1), .tm, none⟩,
    ⟨.build [(.int .u8 0), (.int .u64 0), (.slice none 0 0)] [(0, 1, (.tm 1)), (1, 1, (.tm 0))], .tm, none⟩,
    ⟨.callf 10 [(.fr 6), (.tm 0)], .tm, none⟩]) <|
    .seq (.reg [
    ⟨.mov (.fr 4), .tm, none⟩,
    ⟨.mov (.fr 0), .tm, none⟩,
    ⟨.build [(.int .u8 0), (.int .u64 0), (.slice none 0 0)] [(0, 1, (.tm 1)), (1, 1, (.tm 0))], .tm, none⟩,
    ⟨.callf 10 [(.fr 7), (.tm 0)], .tm, none⟩]) <|
    .seq (.reg [
    ⟨.mov (.fr 4), .tm, none⟩,
    ⟨.mov (.fr 1), .tm, none⟩,
    ⟨.build [(.int .u8 0), (.int .u64 0), (.slice none 0 0)] [(0, 1, (.tm 1)), (1, 1, (.tm 0))], .tm, none⟩,
    ⟨.callf 10 [(.fr 7), (.tm 0)], .tm, none⟩]) <|
    .seq (.dreg [
    (⟨.callf 12 [(.fr 5)], .tm, none⟩, []),
    (⟨.b2s (.tm 0), .tm, none⟩, []),
    (⟨.callf 12 [(.fr 6)], .tm, none⟩, [1]),
    (⟨.b2s (.tm 0), .tm, none⟩, []),
    (⟨.mov (.tm 2), .fr 8, none⟩, []),
    (⟨.mov (.tm 0), .fr 9, none⟩, [])]) <|
    .seq (.reg [
    ⟨.mov (.fr 8), .tm, none⟩,
    ⟨.s2b 5 (.tm 0), .tm, none⟩,
    ⟨.callf 13 [(.tm 0)], .tm, none⟩,
    ⟨.mov (.fr 9), .tm, none⟩,
    ⟨.s2b 5 (.tm 0), .tm, none⟩,
    ⟨.callf 13 [(.tm 0)], .tm, none⟩,
    ⟨.mov (.tm 3), .fr 10, none⟩,
    ⟨.mov (.tm 0), .fr 11, none⟩]) <|
    .seq (.reg [
    ⟨.callf 12 [(.fr 7)], .tm, none⟩,
    ⟨.b2s (.tm 0), .tm, none⟩,
    ⟨.mov (.fr 8), .tm, none⟩,
    ⟨.mov (.fr 9), .tm, none⟩,
    ⟨.bin .add (.tm 1) (.tm 0), .tm, none⟩,
    ⟨.bin .eql (.tm 3) (.tm 0), .tm, none⟩,
    ⟨.mov (.tm 0), .tm, none⟩,
    ⟨.mov (.fr 10), .tm, some ((.tm 0), true)⟩,
    ⟨.mov (.fr 11), .tm, some ((.tm 1), true)⟩,
    ⟨.bin .lss (.tm 1) (.tm 0), .tm, some ((.tm 2), true)⟩,
    ⟨.mov (.fr 8), .tm, some ((.tm 3), true)⟩,
    ⟨.mov (.fr 9), .tm, some ((.tm 4), true)⟩,
    ⟨.bin .lss (.tm 1) (.tm 0), .tm, some ((.tm 5), true)⟩,
    ⟨.eqv 0 false (.tm 3) (.tm 0), .tm, some ((.tm 6), true)⟩,
    ⟨.pick (.tm 7) (.tm 0) (.c (.bool false)), .tm, none⟩,
    ⟨.mov (.tm 0), .tm, none⟩,
    ⟨.mov (.fr 8), .tm, some ((.tm 0), true)⟩,
    ⟨.len true (.tm 0), .tm, some ((.tm 1), true)⟩,
    ⟨.mov (.fr 4), .tm, some ((.tm 2), true)⟩,
    ⟨.callf 14 [(.tm 0)], .tm, some ((.tm 3), true)⟩,
    ⟨.bin .eql (.tm 2) (.tm 0), .tm, some ((.tm 4), true)⟩,
    ⟨.pick (.tm 5) (.tm 0) (.c (.bool false)), .tm, none⟩,
    ⟨.mov (.tm 0), .tm, none⟩,
    ⟨.callf 9 [], .tm, some ((.tm 0), true)⟩,
    ⟨.pick (.tm 1) (.tm 0) (.c (.bool false)), .tm, none⟩,
    ⟨.mov (.tm 0), .fr 3, none⟩]) <|
    .ret⟩
/-- semaphore/semaphorelaw02.FieldsReads -/
def e5 : EF := ⟨2, [0, 1, 4, 5, 6, 7, 8, 9, 10, 11, 12, 13, 14, 15, 23, 36, 51, 82, 85, 114], [2],
    .seq (.reg [
    ⟨.mov (.c (.bool false)), .fr 2, none⟩]) <|
    .seq (.seq (.reg [
    ⟨.mov (.fr 0), .tm, none⟩,
    ⟨.len false (.tm 0), .tm, none⟩,
    ⟨.bin .gtr (.tm 0) (.c (.int .i64 3000)), .tm, none⟩,
    ⟨.mov (.tm 0), .tm, none⟩,
    ⟨.mov (.fr 1), .tm, some ((.tm 0), false)⟩,
    ⟨.len false (.tm 0), .tm, some ((.tm 1), false)⟩,
    ⟨.bin .gtr (.tm 0) (.c (.int .i64 100)), .tm, some ((.tm 2), false)⟩,
    ⟨.pick (.tm 3) (.c (.bool true)) (.tm 0), .fr 14, none⟩]) <|
    .cond (.fr 14)
      (.seq (.reg [
      ⟨.callf 9 [], .tm, none⟩,
      ⟨.mov (.tm 0), .fr 2, none⟩]) <|
      .ret)
      (.skip)) <|
    .seq (.reg [
    ⟨.mov (.fr 0), .tm, none⟩,
    ⟨.b2s (.tm 0), .tm, none⟩,
    ⟨.s2b 5 (.tm 0), .tm, none⟩,
    ⟨.mov (.tm 0), .fr 3, none⟩]) <|
    .seq (.reg [
    ⟨.mov (.fr 3), .tm, none⟩,
    ⟨.callf 15 [(.tm 0)], .tm, none⟩,
    ⟨.mov (.tm 0), .fr 4, none⟩]) <|
    .seq (.reg [
    ⟨.mov (.fr 0), .tm, none⟩,
    ⟨.build [(.slice none 0 0), (.bool false)] [(0, 1, (.tm 0))], .tm, none⟩,
    ⟨.box 42 2 (.tm 0), .tm, none⟩,
    ⟨.mov (.tm 0), .fr 5, none⟩]) <|
    .seq (.seq (.reg [
    ⟨.mov (.c (.int .i64 0)), .fr 6, none⟩]) <|
    .block 0 (.loop (.seq (.seq (.reg [
        ⟨.mov (.fr 6), .tm, none⟩,
        ⟨.mov (.fr 1), .tm, none⟩,
        ⟨.len false (.tm 0), .tm, none⟩,
        ⟨.bin .lss (.tm 2) (.tm 0), .fr 15, none⟩]) <|
        .cond (.fr 15)
          (.skip)
          (.exit 0)) <|
        .seq (.block 1 (.seq (.reg [
          ⟨.mov (.fr 1), .tm, none⟩,
          ⟨.mov (.fr 6), .tm, none⟩,
          ⟨.iaddr 3 (.tm 1) (.tm 0), .tm, none⟩,
          ⟨.faddr 1 (.tm 0), .tm, none⟩,
          ⟨.load1 (.tm 0), .tm, none⟩,
          ⟨.i2i .i64 (.tm 0), .tm, none⟩,
          ⟨.mov (.tm 0), .fr 7, none⟩]) <|
          .seq (.seq (.reg [
          ⟨.mov (.fr 1), .tm, none⟩,
          ⟨.mov (.fr 6), .tm, none⟩,
          ⟨.iaddr 3 (.tm 1) (.tm 0), .tm, none⟩,
          ⟨.faddr 0 (.tm 0), .tm, none⟩,
          ⟨.load1 (.tm 0), .tm, none⟩,
          ⟨.bin .rem (.tm 0) (.c (.int .u8 5)), .tm, none⟩,
          ⟨.bin .neq (.tm 0) (.c (.int .u8 4)), .fr 16, none⟩]) <|
          .cond (.fr 16)
            (.reg [
            ⟨.mov (.fr 1), .tm, none⟩,
            ⟨.mov (.fr 6), .tm, none⟩,
            ⟨.iaddr 3 (.tm 1) (.tm 0), .tm, none⟩,
            ⟨.faddr 0 (.tm 0), .tm, none⟩,
            ⟨.load1 (.tm 0), .tm, none⟩,
            ⟨.callf 14 [(.tm 0)], .tm, none⟩,
            ⟨.mov (.tm 0), .fr 7, none⟩])
            (.skip)) <|
          .seq (.reg [
          ⟨.mov (.fr 5), .tm, none⟩,
          ⟨.mov (.fr 7), .tm, none⟩,
          ⟨.callf 16 [(.tm 1), (.tm 0)], .tm, none⟩,
          ⟨.mov (.tm 0), .tm, none⟩,
          ⟨.extract (.tm 0) 0, .tm, none⟩,
          ⟨.extract (.tm 1) 1, .tm, none⟩,
          ⟨.mov (.tm 1), .fr 8, none⟩,
          ⟨.mov (.tm 0), .fr 9, none⟩]) <|
          .seq (.reg [
          ⟨.mov (.fr 4), .tm, none⟩,
          ⟨.mov (.fr 1), .tm, none⟩,
          ⟨.mov (.fr 6), .tm, none⟩,
          ⟨.iaddr 3 (.tm 1) (.tm 0), .tm, none⟩,
          ⟨.loadn 3 (.tm 0), .tm, none⟩,
          ⟨.callf 17 [(.tm 4), (.tm 0)], .tm, none⟩,
          ⟨.mov (.tm 0), .tm, none⟩,
          ⟨.extract (.tm 0) 0, .tm, none⟩,
          ⟨.extract (.tm 1) 1, .tm, none⟩,
          ⟨.mov (.tm 1), .fr 10, none⟩,
          ⟨.mov (.tm 0), .fr 11, none⟩]) <|
          .seq (.reg [
          ⟨.mov (.c (.int .u64 0)), .fr 12, none⟩,
          ⟨.mov (.c (.string ByteArray.empty)), .fr 13, none⟩]) <|
          .seq (.seq (.reg [
          ⟨.mov (.fr 9), .tm, none⟩,
          ⟨.mov (.tm 0), .tm, none⟩,
          ⟨.mov (.fr 1), .tm, some ((.tm 0), true)⟩,
          ⟨.mov (.fr 6), .tm, some ((.tm 1), true)⟩,
          ⟨.iaddr 3 (.tm 1) (.tm 0), .tm, some ((.tm 2), true)⟩,
          ⟨.faddr 0 (.tm 0), .tm, some ((.tm 3), true)⟩,
          ⟨.load1 (.tm 0), .tm, some ((.tm 4), true)⟩,
          ⟨.bin .rem (.tm 0) (.c (.int .u8 5)), .tm, some ((.tm 5), true)⟩,
          ⟨.bin .eql (.tm 0) (.c (.int .u8 4)), .tm, some ((.tm 6), true)⟩,
          ⟨.pick (.tm 7) (.tm 0) (.c (.bool false)), .fr 17, none⟩]) <|
          .cond (.fr 17)
            (.reg [
            ⟨.mov (.fr 8), .tm, none⟩,
            ⟨.b2s (.tm 0), .tm, none⟩,
            ⟨.mov (.tm 0), .fr 13, none⟩])
            (.seq (.reg [
            ⟨.mov (.fr 9), .fr 18, none⟩]) <|
            .cond (.fr 18)
              (.reg [
              ⟨.mov (.fr 8), .tm, none⟩,
              ⟨.callf 13 [(.tm 0)], .tm, none⟩,
              ⟨.mov (.tm 0), .fr 12, none⟩])
              (.skip))) <|
          .seq (.dreg [
          (⟨.mov (.fr 10), .tm, none⟩, []),
          (⟨.mov (.fr 12), .tm, none⟩, []),
          (⟨.bin .neq (.tm 1) (.tm 0), .tm, none⟩, []),
          (⟨.mov (.tm 0), .tm, none⟩, []),
          (⟨.mov (.fr 11), .tm, some ((.tm 0), false)⟩, []),
          (⟨.mov (.fr 13), .tm, some ((.tm 1), false)⟩, []),
          (⟨.bin .neq (.tm 1) (.tm 0), .tm, some ((.tm 2), false)⟩, []),
          (⟨.pick (.tm 3) (.c (.bool true)) (.tm 0), .tm, none⟩, []),
          (⟨.mov (.tm 0), .tm, none⟩, []),
          (⟨.mov (.fr 4), .tm, some ((.tm 0), false)⟩, []),
          (⟨.callf 18 [(.tm 0)], .tm, some ((.tm 1), false)⟩, []),
          (⟨.mov (.fr 5), .tm, some ((.tm 2), false)⟩, []),
          (⟨.nilck (.tm 0), .tm, some ((.tm 3), false)⟩, []),
          (⟨.faddr 1 (.tm 0), .tm, some ((.tm 4), false)⟩, []),
          (⟨.load1 (.tm 0), .tm, some ((.tm 5), false)⟩, [10]),
          (⟨.eqv 0 true (.tm 4) (.tm 0), .tm, some ((.tm 6), false)⟩, []),
          (⟨.pick (.tm 7) (.c (.bool true)) (.tm 0), .tm, none⟩, []),
          (⟨.mov (.tm 0), .tm, none⟩, []),
          (⟨.mov (.fr 4), .tm, some ((.tm 0), false)⟩, []),
          (⟨.callf 19 [(.tm 0)], .tm, some ((.tm 1), false)⟩, []),
          (⟨.mov (.fr 5), .tm, some ((.tm 2), false)⟩, []),
          (⟨.nilck (.tm 0), .tm, some ((.tm 3), false)⟩, []),
          (⟨.faddr 0 (.tm 0), .tm, some ((.tm 4), false)⟩, []),
          (⟨.load1 (.tm 0), .tm, some ((.tm 5), false)⟩, [19]),
          (⟨.len false (.tm 0), .tm, some ((.tm 6), false)⟩, []),
          (⟨.bin .neq (.tm 5) (.tm 0), .tm, some ((.tm 7), false)⟩, []),
          (⟨.pick (.tm 8) (.c (.bool true)) (.tm 0), .fr 19, none⟩, [])]) <|
          .cond (.fr 19)
            (.seq (.reg [
            ⟨.mov (.c (.bool false)), .fr 2, none⟩]) <|
            .ret)
            (.skip))) <|
        .reg [
        ⟨.mov (.fr 6), .tm, none⟩,
        ⟨.bin .add (.tm 0) (.c (.int .i64 1)), .tm, none⟩,
        ⟨.mov (.tm 0), .fr 6, none⟩]))) <|
    .seq (.reg [
    ⟨.mov (.fr 3), .tm, none⟩,
    ⟨.b2s (.tm 0), .tm, none⟩,
    ⟨.mov (.fr 0), .tm, none⟩,
    ⟨.b2s (.tm 0), .tm, none⟩,
    ⟨.bin .eql (.tm 2) (.tm 0), .tm, none⟩,
    ⟨.mov (.tm 0), .tm, none⟩,
    ⟨.callf 9 [], .tm, some ((.tm 0), true)⟩,
    ⟨.pick (.tm 1) (.tm 0) (.c (.bool false)), .tm, none⟩,
    ⟨.mov (.tm 0), .fr 2, none⟩]) <|
    .ret⟩
/-- semaphore/semaphorelaw02.FieldsBack -/
def e6 : EF := ⟨2, [0, 1, 4, 5, 6, 7, 8, 9, 10, 11, 18, 23, 38, 48, 63, 68, 73], [2],
    .seq (.reg [
    ⟨.mov (.c (.bool false)), .fr 2, none⟩]) <|
    .seq (.seq (.reg [
    ⟨.mov (.fr 0), .tm, none⟩,
    ⟨.callf 8 [(.tm 0)], .tm, none⟩,
    ⟨.mov (.tm 0), .tm, none⟩,
    ⟨.mov (.fr 1), .tm, some ((.tm 0), false)⟩,
    ⟨.len false (.tm 0), .tm, some ((.tm 1), false)⟩,
    ⟨.bin .gtr (.tm 0) (.c (.int .i64 3000)), .tm, some ((.tm 2), false)⟩,
    ⟨.pick (.tm 3) (.c (.bool true)) (.tm 0), .fr 10, none⟩]) <|
    .cond (.fr 10)
      (.seq (.reg [
      ⟨.callf 9 [], .tm, none⟩,
      ⟨.mov (.tm 0), .fr 2, none⟩]) <|
      .ret)
      (.skip)) <|
    .seq (.reg [
    ⟨.new 27 1 [(.slice none 0 0)], .fr 3, none⟩]) <|
    .seq (.seq (.reg [
    ⟨.mov (.c (.int .i64 0)), .fr 4, none⟩]) <|
    .block 0 (.loop (.seq (.seq (.reg [
        ⟨.mov (.fr 4), .tm, none⟩,
        ⟨.mov (.fr 0), .tm, none⟩,
        ⟨.len false (.tm 0), .tm, none⟩,
        ⟨.bin .lss (.tm 2) (.tm 0), .fr 11, none⟩]) <|
        .cond (.fr 11)
          (.skip)
          (.exit 0)) <|
        .seq (.block 1 (.reg [
          ⟨.mov (.fr 0), .tm, none⟩,
          ⟨.mov (.fr 4), .tm, none⟩,
          ⟨.iaddr 3 (.tm 1) (.tm 0), .tm, none⟩,
          ⟨.loadn 3 (.tm 0), .tm, none⟩,
          ⟨.callf 10 [(.fr 3), (.tm 0)], .tm, none⟩])) <|
        .reg [
        ⟨.mov (.fr 4), .tm, none⟩,
        ⟨.bin .add (.tm 0) (.c (.int .i64 1)), .tm, none⟩,
        ⟨.mov (.tm 0), .fr 4, none⟩]))) <|
    .seq (.reg [
    ⟨.mov (.fr 1), .tm, none⟩,
    ⟨.callf 20 [(.fr 3), (.tm 0)], .tm, none⟩]) <|
    .seq (.reg [
    ⟨.callf 12 [(.fr 3)], .tm, none⟩,
    ⟨.callf 15 [(.tm 0)], .tm, none⟩,
    ⟨.mov (.tm 0), .fr 5, none⟩]) <|
    .seq (.seq (.reg [
    ⟨.mov (.c (.int .i64 0)), .fr 6, none⟩]) <|
    .block 2 (.loop (.seq (.seq (.reg [
        ⟨.mov (.fr 6), .tm, none⟩,
        ⟨.mov (.fr 0), .tm, none⟩,
        ⟨.len false (.tm 0), .tm, none⟩,
        ⟨.bin .lss (.tm 2) (.tm 0), .fr 12, none⟩]) <|
        .cond (.fr 12)
          (.skip)
          (.exit 2)) <|
        .seq (.block 3 (.seq (.reg [
          ⟨.mov (.fr 0), .tm, none⟩,
          ⟨.mov (.fr 6), .tm, none⟩,
          ⟨.iaddr 3 (.tm 1) (.tm 0), .tm, none⟩,
          ⟨.loadn 3 (.tm 0), .tm, none⟩,
          ⟨.new 30 3 [(.int .u8 0), (.int .u64 0), (.slice none 0 0)], .fr 7, none⟩,
          ⟨.storen 3 (.fr 7) (.tm 0), .no, none⟩]) <|
          .seq (.seq (.reg [
          ⟨.faddr 0 (.fr 7), .tm, none⟩,
          ⟨.load1 (.tm 0), .tm, none⟩,
          ⟨.bin .rem (.tm 0) (.c (.int .u8 5)), .tm, none⟩,
          ⟨.bin .eql (.tm 0) (.c (.int .u8 4)), .fr 13, none⟩]) <|
          .cond (.fr 13)
            (.reg [
            ⟨.faddr 2 (.fr 7), .tm, none⟩,
            ⟨.load1 (.tm 0), .tm, none⟩,
            ⟨.len false (.tm 0), .tm, none⟩,
            ⟨.i2i .u64 (.tm 0), .tm, none⟩,
            ⟨.faddr 1 (.fr 7), .tm, none⟩,
            ⟨.store1 (.tm 0) (.tm 1), .no, none⟩])
            (.skip)) <|
          .seq (.reg [
          ⟨.mov (.fr 5), .tm, none⟩,
          ⟨.loadn 3 (.fr 7), .tm, none⟩,
          ⟨.callf 17 [(.tm 1), (.tm 0)], .tm, none⟩,
          ⟨.mov (.tm 0), .tm, none⟩,
          ⟨.extract (.tm 0) 0, .tm, none⟩,
          ⟨.extract (.tm 1) 1, .tm, none⟩,
          ⟨.mov (.tm 1), .fr 8, none⟩,
          ⟨.mov (.tm 0), .fr 9, none⟩]) <|
          .seq (.reg [
          ⟨.faddr 0 (.fr 7), .tm, none⟩,
          ⟨.load1 (.tm 0), .tm, none⟩,
          ⟨.bin .rem (.tm 0) (.c (.int .u8 5)), .tm, none⟩,
          ⟨.bin .eql (.tm 0) (.c (.int .u8 4)), .fr 14, none⟩]) <|
          .cond (.fr 14)
            (.seq (.reg [
            ⟨.mov (.fr 9), .tm, none⟩,
            ⟨.faddr 2 (.fr 7), .tm, none⟩,
            ⟨.load1 (.tm 0), .tm, none⟩,
            ⟨.b2s (.tm 0), .tm, none⟩,
            ⟨.bin .neq (.tm 3) (.tm 0), .fr 15, none⟩]) <|
            .cond (.fr 15)
              (.seq (.reg [
              ⟨.mov (.c (.bool false)), .fr 2, none⟩]) <|
              .ret)
              (.skip))
            (.seq (.reg [
            ⟨.mov (.fr 8), .tm, none⟩,
            ⟨.loadn 3 (.fr 7), .tm, none⟩,
            ⟨.callf 11 [(.tm 0)], .tm, none⟩,
            ⟨.callf 13 [(.tm 0)], .tm, none⟩,
            ⟨.bin .neq (.tm 3) (.tm 0), .fr 16, none⟩]) <|
            .cond (.fr 16)
              (.seq (.reg [
              ⟨.mov (.c (.bool false)), .fr 2, none⟩]) <|
              .ret)
              (.skip)))) <|
        .reg [
        ⟨.mov (.fr 6), .tm, none⟩,
        ⟨.bin .add (.tm 0) (.c (.int .i64 1)), .tm, none⟩,
        ⟨.mov (.tm 0), .fr 6, none⟩]))) <|
    .seq (.dreg [
    (⟨.mov (.fr 5), .tm, none⟩, []),
    (⟨.callf 19 [(.tm 0)], .tm, none⟩, []),
    (⟨.mov (.fr 1), .tm, none⟩, []),
    (⟨.len false (.tm 0), .tm, none⟩, []),
    (⟨.bin .eql (.tm 2) (.tm 0), .tm, none⟩, []),
    (⟨.mov (.tm 0), .tm, none⟩, []),
    (⟨.mov (.fr 5), .tm, some ((.tm 0), true)⟩, []),
    (⟨.mov (.fr 1), .tm, some ((.tm 1), true)⟩, []),
    (⟨.len false (.tm 0), .tm, some ((.tm 2), true)⟩, []),
    (⟨.callf 21 [(.tm 2), (.tm 0)], .tm, some ((.tm 3), true)⟩, []),
    (⟨.b2s (.tm 0), .tm, some ((.tm 4), true)⟩, []),
    (⟨.mov (.fr 1), .tm, some ((.tm 5), true)⟩, []),
    (⟨.b2s (.tm 0), .tm, some ((.tm 6), true)⟩, [9]),
    (⟨.bin .eql (.tm 2) (.tm 0), .tm, some ((.tm 7), true)⟩, []),
    (⟨.pick (.tm 8) (.tm 0) (.c (.bool false)), .tm, none⟩, []),
    (⟨.mov (.tm 0), .tm, none⟩, []),
    (⟨.mov (.fr 5), .tm, some ((.tm 0), true)⟩, []),
    (⟨.callf 18 [(.tm 0)], .tm, some ((.tm 1), true)⟩, []),
    (⟨.un .not (.tm 0), .tm, some ((.tm 2), true)⟩, []),
    (⟨.pick (.tm 3) (.tm 0) (.c (.bool false)), .tm, none⟩, []),
    (⟨.mov (.tm 0), .tm, none⟩, []),
    (⟨.callf 9 [], .tm, some ((.tm 0), true)⟩, []),
    (⟨.pick (.tm 1) (.tm 0) (.c (.bool false)), .tm, none⟩, []),
    (⟨.mov (.tm 0), .fr 2, none⟩, [])]) <|
    .ret⟩
/-- semaphore/semaphorelaw02.FieldsKnown -/
def e7 : EF := ⟨0, [0, 1, 2, 3, 4, 5, 6, 58, 65, 98], [0],
    .seq (.reg [
    ⟨.mov (.c (.bool false)), .fr 0, none⟩]) <|
    .seq (.reg [
    ⟨.mov (.c (.pointer none)), .fr 1, none⟩]) <|
    .seq (.reg [
    ⟨.mov (.fr 1), .tm, none⟩,
    ⟨.callf 22 [(.tm 0), (.c (.int .u8 1))], .tm, none⟩]) <|
    .seq (.reg [
    ⟨.mov (.fr 1), .tm, none⟩,
    ⟨.callf 23 [(.tm 0), (.c (.int .u16 1))], .tm, none⟩]) <|
    .seq (.reg [
    ⟨.mov (.fr 1), .tm, none⟩,
    ⟨.callf 24 [(.tm 0), (.c (.int .u32 1))], .tm, none⟩]) <|
    .seq (.reg [
    ⟨.mov (.fr 1), .tm, none⟩,
    ⟨.callf 25 [(.tm 0), (.c (.int .u64 1))], .tm, none⟩]) <|
    .seq (.reg [
    ⟨.mov (.fr 1), .tm, none⟩,
    ⟨.bslice 5 1 1 [(.int .u8 0)] [(0, 1, (.c (.int .u8 1)))], .tm, none⟩,
    ⟨.callf 20 [(.tm 1), (.tm 0)], .tm, none⟩]) <|
    .seq (.reg [
    ⟨.mov (.c (.pointer none)), .fr 2, none⟩]) <|
    .seq (.reg [
    ⟨.mov (.fr 1), .tm, none⟩,
    ⟨.callf 12 [(.tm 0)], .tm, none⟩,
    ⟨.len false (.tm 0), .tm, none⟩,
    ⟨.bin .eql (.tm 0) (.c (.int .i64 0)), .tm, none⟩,
    ⟨.mov (.tm 0), .tm, none⟩,
    ⟨.mov (.fr 2), .tm, some ((.tm 0), true)⟩,
    ⟨.callf 18 [(.tm 0)], .tm, some ((.tm 1), true)⟩,
    ⟨.pick (.tm 2) (.tm 0) (.c (.bool false)), .tm, none⟩,
    ⟨.mov (.tm 0), .tm, none⟩,
    ⟨.mov (.fr 2), .tm, some ((.tm 0), true)⟩,
    ⟨.callf 26 [(.tm 0)], .tm, some ((.tm 1), true)⟩,
    ⟨.bin .eql (.tm 0) (.c (.int .u8 0)), .tm, some ((.tm 2), true)⟩,
    ⟨.pick (.tm 3) (.tm 0) (.c (.bool false)), .tm, none⟩,
    ⟨.mov (.tm 0), .tm, none⟩,
    ⟨.mov (.fr 2), .tm, some ((.tm 0), true)⟩,
    ⟨.callf 27 [(.tm 0)], .tm, some ((.tm 1), true)⟩,
    ⟨.bin .eql (.tm 0) (.c (.int .u16 0)), .tm, some ((.tm 2), true)⟩,
    ⟨.pick (.tm 3) (.tm 0) (.c (.bool false)), .tm, none⟩,
    ⟨.mov (.tm 0), .tm, none⟩,
    ⟨.mov (.fr 2), .tm, some ((.tm 0), true)⟩,
    ⟨.callf 28 [(.tm 0)], .tm, some ((.tm 1), true)⟩,
    ⟨.bin .eql (.tm 0) (.c (.int .u32 0)), .tm, some ((.tm 2), true)⟩,
    ⟨.pick (.tm 3) (.tm 0) (.c (.bool false)), .tm, none⟩,
    ⟨.mov (.tm 0), .tm, none⟩,
    ⟨.mov (.fr 2), .tm, some ((.tm 0), true)⟩,
    ⟨.callf 29 [(.tm 0)], .tm, some ((.tm 1), true)⟩,
    ⟨.bin .eql (.tm 0) (.c (.int .u64 0)), .tm, some ((.tm 2), true)⟩,
    ⟨.pick (.tm 3) (.tm 0) (.c (.bool false)), .tm, none⟩,
    ⟨.mov (.tm 0), .tm, none⟩,
    ⟨.mov (.fr 2), .tm, some ((.tm 0), true)⟩,
    ⟨.callf 21 [(.tm 0), (.c (.int .i64 0))], .tm, some ((.tm 1), true)⟩,
    ⟨.len false (.tm 0), .tm, some ((.tm 2), true)⟩,
    ⟨.bin .eql (.tm 0) (.c (.int .i64 0)), .tm, some ((.tm 3), true)⟩,
    ⟨.pick (.tm 4) (.tm 0) (.c (.bool false)), .tm, none⟩,
    ⟨.mov (.tm 0), .tm, none⟩,
    ⟨.mov (.fr 2), .tm, some ((.tm 0), true)⟩,
    ⟨.callf 19 [(.tm 0)], .tm, some ((.tm 1), true)⟩,
    ⟨.bin .eql (.tm 0) (.c (.int .i64 0)), .tm, some ((.tm 2), true)⟩,
    ⟨.pick (.tm 3) (.tm 0) (.c (.bool false)), .tm, none⟩,
    ⟨.mov (.tm 0), .fr 3, none⟩]) <|
    .seq (.seq (.reg [
    ⟨.mov (.c (.int .i64 0)), .fr 4, none⟩]) <|
    .block 0 (.loop (.seq (.seq (.reg [
        ⟨.mov (.fr 4), .tm, none⟩,
        ⟨.bin .lss (.tm 0) (.c (.int .i64 10)), .fr 7, none⟩]) <|
        .cond (.fr 7)
          (.skip)
          (.exit 0)) <|
        .seq (.block 1 (.seq (.reg [
          ⟨.bslice 5 1 9 [(.int .u8 0), (.int .u8 0), (.int .u8 0), (.int .u8 0), (.int .u8 0), (.int .u8 0), (.int .u8 0), (.int .u8 0), (.int .u8 0)] [(0, 1, (.c (.int .u8 1))), (1, 1, (.c (.int .u8 2))), (2, 1, (.c (.int .u8 3))), (3, 1, (.c (.int .u8 4))), (4, 1, (.c (.int .u8 5))), (5, 1, (.c (.int .u8 6))), (6, 1, (.c (.int .u8 7))), (7, 1, (.c (.int .u8 8))), (8, 1, (.c (.int .u8 9)))], .tm, none⟩,
          ⟨.mov (.fr 4), .tm, none⟩,
          ⟨.slsl 1 (.tm 1) none (some (.tm 0)) none, .tm, none⟩,
          ⟨.mov (.tm 0), .fr 5, none⟩]) <|
          .seq (.reg [
          ⟨.mov (.c (.int .u8 0)), .fr 6, none⟩]) <|
          .block 2 (.loop (.seq (.seq (.reg [
              ⟨.mov (.fr 6), .tm, none⟩,
              ⟨.bin .lss (.tm 0) (.c (.int .u8 5)), .fr 8, none⟩]) <|
              .cond (.fr 8)
                (.skip)
                (.exit 2)) <|
              .seq (.block 3 (.seq (.reg [
                ⟨.mov (.fr 5), .tm, none⟩,
                ⟨.mov (.fr 6), .tm, none⟩,
                ⟨.build [(.int .u8 0), (.int .u64 0), (.slice none 0 0)] [(0, 1, (.tm 0)), (1, 1, (.c (.int .u64 3))), (2, 1, (.c (.slice none 0 0)))], .tm, none⟩,
                ⟨.build [(.int .u8 0), (.int .u64 0), (.slice none 0 0)] [(0, 1, (.c (.int .u8 0))), (1, 1, (.c (.int .u64 0))), (2, 1, (.c (.slice none 0 0)))], .tm, none⟩,
                ⟨.mov (.fr 6), .tm, none⟩,
                ⟨.build [(.int .u8 0), (.int .u64 0), (.slice none 0 0)] [(0, 1, (.tm 0)), (1, 1, (.c (.int .u64 0))), (2, 1, (.c (.slice none 0 0)))], .tm, none⟩,
                ⟨.bslice 30 3 3 [(.int .u8 0), (.int .u64 0), (.slice none 0 0), (.int .u8 0), (.int .u64 0), (.slice none 0 0), (.int .u8 0), (.int .u64 0), (.slice none 0 0)] [(0, 3, (.tm 3)), (3, 3, (.tm 2)), (6, 3, (.tm 0))], .tm, none⟩,
                ⟨.callf 5 [(.tm 6), (.tm 0)], .tm, none⟩,
                ⟨.un .not (.tm 0), .tm, none⟩,
                ⟨.mov (.tm 0), .tm, none⟩,
                ⟨.mov (.fr 5), .tm, some ((.tm 0), false)⟩,
                ⟨.build [(.int .u8 0), (.int .u64 0), (.slice none 0 0)] [(0, 1, (.c (.int .u8 0))), (1, 1, (.c (.int .u64 0))), (2, 1, (.c (.slice none 0 0)))], .tm, some ((.tm 1), false)⟩,
                ⟨.mov (.fr 6), .tm, some ((.tm 2), false)⟩,
                ⟨.mov (.fr 4), .tm, some ((.tm 3), false)⟩,
                ⟨.i2i .u64 (.tm 0), .tm, some ((.tm 4), false)⟩,
                ⟨.build [(.int .u8 0), (.int .u64 0), (.slice none 0 0)] [(0, 1, (.tm 2)), (1, 1, (.tm 0)), (2, 1, (.c (.slice none 0 0)))], .tm, some ((.tm 5), false)⟩,
                ⟨.mov (.fr 6), .tm, some ((.tm 6), false)⟩,
                ⟨.build [(.int .u8 0), (.int .u64 0), (.slice none 0 0)] [(0, 1, (.tm 0)), (1, 1, (.c (.int .u64 18446744073709551615))), (2, 1, (.c (.slice none 0 0)))], .tm, some ((.tm 7), false)⟩,
                ⟨.build [(.int .u8 0), (.int .u64 0), (.slice none 0 0)] [(0, 1, (.c (.int .u8 0))), (1, 1, (.c (.int .u64 0))), (2, 1, (.c (.slice none 0 0)))], .tm, some ((.tm 8), false)⟩,
                ⟨.bslice 30 3 4 [(.int .u8 0), (.int .u64 0), (.slice none 0 0), (.int .u8 0), (.int .u64 0), (.slice none 0 0), (.int .u8 0), (.int .u64 0), (.slice none 0 0), (.int .u8 0), (.int .u64 0), (.slice none 0 0)] [(0, 3, (.tm 7)), (3, 3, (.tm 3)), (6, 3, (.tm 1)), (9, 3, (.tm 0))], .tm, some ((.tm 9), false)⟩,
                ⟨.callf 5 [(.tm 9), (.tm 0)], .tm, some ((.tm 10), false)⟩,
                ⟨.un .not (.tm 0), .tm, some ((.tm 11), false)⟩,
                ⟨.pick (.tm 12) (.c (.bool true)) (.tm 0), .tm, none⟩,
                ⟨.mov (.tm 0), .tm, none⟩,
                ⟨.mov (.fr 5), .tm, some ((.tm 0), false)⟩,
                ⟨.build [(.int .u8 0), (.int .u64 0), (.slice none 0 0)] [(0, 1, (.c (.int .u8 4))), (1, 1, (.c (.int .u64 9223372036854775807))), (2, 1, (.c (.slice none 0 0)))], .tm, some ((.tm 1), false)⟩,
                ⟨.build [(.int .u8 0), (.int .u64 0), (.slice none 0 0)] [(0, 1, (.c (.int .u8 4))), (1, 1, (.c (.int .u64 0))), (2, 1, (.c (.slice none 0 0)))], .tm, some ((.tm 2), false)⟩,
                ⟨.bslice 30 3 2 [(.int .u8 0), (.int .u64 0), (.slice none 0 0), (.int .u8 0), (.int .u64 0), (.slice none 0 0)] [(0, 3, (.tm 1)), (3, 3, (.tm 0))], .tm, some ((.tm 3), false)⟩,
                ⟨.callf 5 [(.tm 3), (.tm 0)], .tm, some ((.tm 4), false)⟩,
                ⟨.un .not (.tm 0), .tm, some ((.tm 5), false)⟩,
                ⟨.pick (.tm 6) (.c (.bool true)) (.tm 0), .fr 9, none⟩]) <|
                .cond (.fr 9)
                  (.seq (.reg [
                  ⟨.mov (.c (.bool false)), .fr 0, none⟩]) <|
                  .ret)
                  (.skip))) <|
              .reg [
              ⟨.mov (.fr 6), .tm, none⟩,
              ⟨.bin .add (.tm 0) (.c (.int .u8 1)), .tm, none⟩,
              ⟨.mov (.tm 0), .fr 6, none⟩])))) <|
        .reg [
        ⟨.mov (.fr 4), .tm, none⟩,
        ⟨.bin .add (.tm 0) (.c (.int .i64 1)), .tm, none⟩,
        ⟨.mov (.tm 0), .fr 4, none⟩]))) <|
    .seq (.reg [
    ⟨.mov (.fr 3), .tm, none⟩,
    ⟨.mov (.tm 0), .tm, none⟩,
    ⟨.build [(.int .u8 0), (.int .u64 0), (.slice none 0 0)] [(0, 1, (.c (.int .u8 0))), (1, 1, (.c (.int .u64 256))), (2, 1, (.c (.slice none 0 0)))], .tm, some ((.tm 0), true)⟩,
    ⟨.build [(.int .u8 0), (.int .u64 0), (.slice none 0 0)] [(0, 1, (.c (.int .u8 1))), (1, 1, (.c (.int .u64 65537))), (2, 1, (.c (.slice none 0 0)))], .tm, some ((.tm 1), true)⟩,
    ⟨.build [(.int .u8 0), (.int .u64 0), (.slice none 0 0)] [(0, 1, (.c (.int .u8 2))), (1, 1, (.c (.int .u64 4294967301))), (2, 1, (.c (.slice none 0 0)))], .tm, some ((.tm 2), true)⟩,
    ⟨.build [(.int .u8 0), (.int .u64 0), (.slice none 0 0)] [(0, 1, (.c (.int .u8 3))), (1, 1, (.c (.int .u64 18446744073709551615))), (2, 1, (.c (.slice none 0 0)))], .tm, some ((.tm 3), true)⟩,
    ⟨.build [(.int .u8 0), (.int .u64 0), (.slice none 0 0)] [(0, 1, (.c (.int .u8 4))), (1, 1, (.c (.int .u64 0))), (2, 1, (.c (.slice none 0 0)))], .tm, some ((.tm 4), true)⟩,
    ⟨.bslice 5 1 2 [(.int .u8 0), (.int .u8 0)] [(0, 1, (.c (.int .u8 97))), (1, 1, (.c (.int .u8 98)))], .tm, some ((.tm 5), true)⟩,
    ⟨.mark (.tm 0), .tm, some ((.tm 6), true)⟩,
    ⟨.build [(.int .u8 0), (.int .u64 0), (.slice none 0 0)] [(0, 1, (.c (.int .u8 4))), (1, 1, (.c (.int .u64 0))), (2, 1, (.tm 0))], .tm, some ((.tm 7), true)⟩,
    ⟨.bslice 30 3 6 [(.int .u8 0), (.int .u64 0), (.slice none 0 0), (.int .u8 0), (.int .u64 0), (.slice none 0 0), (.int .u8 0), (.int .u64 0), (.slice none 0 0), (.int .u8 0), (.int .u64 0), (.slice none 0 0), (.int .u8 0), (.int .u64 0), (.slice none 0 0), (.int .u8 0), (.int .u64 0), (.slice none 0 0)] [(0, 3, (.tm 7)), (3, 3, (.tm 6)), (6, 3, (.tm 5)), (9, 3, (.tm 4)), (12, 3, (.tm 3)), (15, 3, (.tm 0))], .tm, some ((.tm 8), true)⟩,
    ⟨.callf 3 [(.tm 0)], .tm, some ((.tm 9), true)⟩,
    ⟨.pick (.tm 10) (.tm 0) (.c (.bool false)), .tm, none⟩,
    ⟨.mov (.tm 0), .tm, none⟩,
    ⟨.callf 6 [(.c (.slice none 0 0)), (.c (.slice none 0 0))], .tm, some ((.tm 0), true)⟩,
    ⟨.pick (.tm 1) (.tm 0) (.c (.bool false)), .tm, none⟩,
    ⟨.mov (.tm 0), .tm, none⟩,
    ⟨.callf 4 [(.c (.int .u64 255)), (.c (.int .u64 256)), (.c (.int .u8 1))], .tm, some ((.tm 0), true)⟩,
    ⟨.pick (.tm 1) (.tm 0) (.c (.bool false)), .tm, none⟩,
    ⟨.mov (.tm 0), .tm, none⟩,
    ⟨.callf 9 [], .tm, some ((.tm 0), true)⟩,
    ⟨.pick (.tm 1) (.tm 0) (.c (.bool false)), .tm, none⟩,
    ⟨.mov (.tm 0), .fr 0, none⟩]) <|
    .ret⟩
/-- semaphore/semaphorelaw02.large -/
def e8 : EF := ⟨1, [0, 2, 3, 4, 7, 11, 22], [1],
    .seq (.reg [
    ⟨.mov (.c (.bool false)), .fr 1, none⟩]) <|
    .seq (.seq (.reg [
    ⟨.mov (.fr 0), .tm, none⟩,
    ⟨.len false (.tm 0), .tm, none⟩,
    ⟨.bin .gtr (.tm 0) (.c (.int .i64 100)), .fr 4, none⟩]) <|
    .cond (.fr 4)
      (.seq (.reg [
      ⟨.mov (.c (.bool true)), .fr 1, none⟩]) <|
      .ret)
      (.skip)) <|
    .seq (.reg [
    ⟨.mov (.c (.int .i64 0)), .fr 2, none⟩]) <|
    .seq (.seq (.reg [
    ⟨.mov (.c (.int .i64 0)), .fr 3, none⟩]) <|
    .block 0 (.loop (.seq (.seq (.reg [
        ⟨.mov (.fr 3), .tm, none⟩,
        ⟨.mov (.fr 0), .tm, none⟩,
        ⟨.len false (.tm 0), .tm, none⟩,
        ⟨.bin .lss (.tm 2) (.tm 0), .fr 5, none⟩]) <|
        .cond (.fr 5)
          (.skip)
          (.exit 0)) <|
        .seq (.block 1 (.seq (.seq (.reg [
          ⟨.mov (.fr 0), .tm, none⟩,
          ⟨.mov (.fr 3), .tm, none⟩,
          ⟨.iaddr 3 (.tm 1) (.tm 0), .tm, none⟩,
          ⟨.faddr 2 (.tm 0), .tm, none⟩,
          ⟨.load1 (.tm 0), .tm, none⟩,
          ⟨.len false (.tm 0), .tm, none⟩,
          ⟨.mov (.fr 2), .tm, none⟩,
          ⟨.bin .sub (.c (.int .i64 3000)) (.tm 0), .tm, none⟩,
          ⟨.bin .gtr (.tm 2) (.tm 0), .fr 6, none⟩]) <|
          .cond (.fr 6)
            (.seq (.reg [
            ⟨.mov (.c (.bool true)), .fr 1, none⟩]) <|
            .ret)
            (.skip)) <|
          .reg [
          ⟨.mov (.fr 2), .tm, none⟩,
          ⟨.mov (.fr 0), .tm, none⟩,
          ⟨.mov (.fr 3), .tm, none⟩,
          ⟨.iaddr 3 (.tm 1) (.tm 0), .tm, none⟩,
          ⟨.faddr 2 (.tm 0), .tm, none⟩,
          ⟨.load1 (.tm 0), .tm, none⟩,
          ⟨.len false (.tm 0), .tm, none⟩,
          ⟨.bin .add (.tm 6) (.tm 0), .tm, none⟩,
          ⟨.mov (.tm 0), .fr 2, none⟩])) <|
        .reg [
        ⟨.mov (.fr 3), .tm, none⟩,
        ⟨.bin .add (.tm 0) (.c (.int .i64 1)), .tm, none⟩,
        ⟨.mov (.tm 0), .fr 3, none⟩]))) <|
    .seq (.reg [
    ⟨.mov (.c (.bool false)), .fr 1, none⟩]) <|
    .ret⟩
/-- semaphore/semaphorelaw02.works -/
def e9 : EF := ⟨0, [0, 1, 2], [0],
    .seq (.reg [
    ⟨.mov (.c (.bool false)), .fr 0, none⟩]) <|
    .seq (.reg [
    ⟨.new 27 1 [(.slice none 0 0)], .fr 1, none⟩]) <|
    .seq (.reg [
    ⟨.callf 22 [(.fr 1), (.c (.int .u8 1))], .tm, none⟩]) <|
    .seq (.reg [
    ⟨.callf 23 [(.fr 1), (.c (.int .u16 2))], .tm, none⟩]) <|
    .seq (.reg [
    ⟨.callf 24 [(.fr 1), (.c (.int .u32 255))], .tm, none⟩]) <|
    .seq (.reg [
    ⟨.bslice 5 1 1 [(.int .u8 0)] [(0, 1, (.c (.int .u8 7)))], .tm, none⟩,
    ⟨.callf 20 [(.fr 1), (.tm 0)], .tm, none⟩]) <|
    .seq (.reg [
    ⟨.bslice 5 1 3 [(.int .u8 0), (.int .u8 0), (.int .u8 0)] [(0, 1, (.c (.int .u8 1))), (1, 1, (.c (.int .u8 2))), (2, 1, (.c (.int .u8 3)))], .tm, none⟩,
    ⟨.callf 15 [(.tm 0)], .tm, none⟩,
    ⟨.mov (.tm 0), .fr 2, none⟩]) <|
    .seq (.reg [
    ⟨.callf 12 [(.fr 1)], .tm, none⟩,
    ⟨.b2s (.tm 0), .tm, none⟩,
    ⟨.bin .eql (.tm 0) (.c (.string ⟨#[1, 0, 2, 0, 0, 0, 255, 7]⟩)), .tm, none⟩,
    ⟨.mov (.tm 0), .tm, none⟩,
    ⟨.mov (.fr 2), .tm, some ((.tm 0), true)⟩,
    ⟨.callf 27 [(.tm 0)], .tm, some ((.tm 1), true)⟩,
    ⟨.bin .eql (.tm 0) (.c (.int .u16 258)), .tm, some ((.tm 2), true)⟩,
    ⟨.pick (.tm 3) (.tm 0) (.c (.bool false)), .tm, none⟩,
    ⟨.mov (.tm 0), .tm, none⟩,
    ⟨.mov (.fr 2), .tm, some ((.tm 0), true)⟩,
    ⟨.callf 27 [(.tm 0)], .tm, some ((.tm 1), true)⟩,
    ⟨.bin .eql (.tm 0) (.c (.int .u16 0)), .tm, some ((.tm 2), true)⟩,
    ⟨.pick (.tm 3) (.tm 0) (.c (.bool false)), .tm, none⟩,
    ⟨.mov (.tm 0), .tm, none⟩,
    ⟨.mov (.fr 2), .tm, some ((.tm 0), true)⟩,
    ⟨.callf 26 [(.tm 0)], .tm, some ((.tm 1), true)⟩,
    ⟨.bin .eql (.tm 0) (.c (.int .u8 0)), .tm, some ((.tm 2), true)⟩,
    ⟨.pick (.tm 3) (.tm 0) (.c (.bool false)), .tm, none⟩,
    ⟨.mov (.tm 0), .tm, none⟩,
    ⟨.mov (.fr 2), .tm, some ((.tm 0), true)⟩,
    ⟨.callf 18 [(.tm 0)], .tm, some ((.tm 1), true)⟩,
    ⟨.pick (.tm 2) (.tm 0) (.c (.bool false)), .tm, none⟩,
    ⟨.mov (.tm 0), .fr 0, none⟩]) <|
    .ret⟩
/-- semaphore/semaphorelaw02.put -/
def e10 : EF := ⟨2, [0, 1, 3, 6, 11, 18, 25, 32], [],
    .seq (.reg [
    ⟨.box 30 3 (.fr 1), .fr 2, none⟩]) <|
    .seq (.reg [
    ⟨.faddr 0 (.fr 2), .tm, none⟩,
    ⟨.load1 (.tm 0), .tm, none⟩,
    ⟨.bin .rem (.tm 0) (.c (.int .u8 5)), .fr 3, none⟩]) <|
    .block 0 (.seq (.reg [
      ⟨.bin .eql (.fr 3) (.c (.int .u8 0)), .tm, none⟩,
      ⟨.mov (.tm 0), .fr 4, none⟩]) <|
      .cond (.fr 4)
        (.reg [
        ⟨.mov (.fr 0), .tm, none⟩,
        ⟨.faddr 1 (.fr 2), .tm, none⟩,
        ⟨.load1 (.tm 0), .tm, none⟩,
        ⟨.i2i .u8 (.tm 0), .tm, none⟩,
        ⟨.callf 22 [(.tm 3), (.tm 0)], .tm, none⟩])
        (.seq (.reg [
        ⟨.bin .eql (.fr 3) (.c (.int .u8 1)), .tm, none⟩,
        ⟨.mov (.tm 0), .fr 5, none⟩]) <|
        .cond (.fr 5)
          (.reg [
          ⟨.mov (.fr 0), .tm, none⟩,
          ⟨.faddr 1 (.fr 2), .tm, none⟩,
          ⟨.load1 (.tm 0), .tm, none⟩,
          ⟨.i2i .u16 (.tm 0), .tm, none⟩,
          ⟨.callf 23 [(.tm 3), (.tm 0)], .tm, none⟩])
          (.seq (.reg [
          ⟨.bin .eql (.fr 3) (.c (.int .u8 2)), .tm, none⟩,
          ⟨.mov (.tm 0), .fr 6, none⟩]) <|
          .cond (.fr 6)
            (.reg [
            ⟨.mov (.fr 0), .tm, none⟩,
            ⟨.faddr 1 (.fr 2), .tm, none⟩,
            ⟨.load1 (.tm 0), .tm, none⟩,
            ⟨.i2i .u32 (.tm 0), .tm, none⟩,
            ⟨.callf 24 [(.tm 3), (.tm 0)], .tm, none⟩])
            (.seq (.reg [
            ⟨.bin .eql (.fr 3) (.c (.int .u8 3)), .tm, none⟩,
            ⟨.mov (.tm 0), .fr 7, none⟩]) <|
            .cond (.fr 7)
              (.reg [
              ⟨.mov (.fr 0), .tm, none⟩,
              ⟨.faddr 1 (.fr 2), .tm, none⟩,
              ⟨.load1 (.tm 0), .tm, none⟩,
              ⟨.callf 25 [(.tm 2), (.tm 0)], .tm, none⟩])
              (.reg [
              ⟨.mov (.fr 0), .tm, none⟩,
              ⟨.faddr 2 (.fr 2), .tm, none⟩,
              ⟨.load1 (.tm 0), .tm, none⟩,
              ⟨.callf 20 [(.tm 2), (.tm 0)], .tm, none⟩])))))⟩
/-- semaphore/semaphorelaw02.bytes -/
def e11 : EF := ⟨1, [0, 1, 2, 6], [2],
    .seq (.reg [
    ⟨.box 30 3 (.fr 0), .fr 1, none⟩,
    ⟨.mov (.c (.slice none 0 0)), .fr 2, none⟩]) <|
    .seq (.seq (.reg [
    ⟨.faddr 0 (.fr 1), .tm, none⟩,
    ⟨.load1 (.tm 0), .tm, none⟩,
    ⟨.bin .rem (.tm 0) (.c (.int .u8 5)), .tm, none⟩,
    ⟨.bin .eql (.tm 0) (.c (.int .u8 4)), .fr 3, none⟩]) <|
    .cond (.fr 3)
      (.seq (.reg [
      ⟨.faddr 2 (.fr 1), .tm, none⟩,
      ⟨.load1 (.tm 0), .tm, none⟩,
      ⟨.mov (.tm 0), .fr 2, none⟩]) <|
      .ret)
      (.skip)) <|
    .seq (.dreg [
    (⟨.faddr 1 (.fr 1), .tm, none⟩, []),
    (⟨.load1 (.tm 0), .tm, none⟩, []),
    (⟨.faddr 0 (.fr 1), .tm, none⟩, []),
    (⟨.load1 (.tm 0), .tm, none⟩, []),
    (⟨.callf 14 [(.tm 0)], .tm, none⟩, [1]),
    (⟨.callf 30 [(.tm 3), (.tm 0)], .tm, none⟩, []),
    (⟨.mov (.tm 0), .fr 2, none⟩, [])]) <|
    .ret⟩
/-- (*semaphore/fields.Writer).Out -/
def e12 : EF := ⟨1, [0, 2, 4], [1],
    .seq (.reg [
    ⟨.mov (.c (.slice none 0 0)), .fr 1, none⟩]) <|
    .seq (.seq (.reg [
    ⟨.mov (.fr 0), .tm, none⟩,
    ⟨.eqv 1 false (.tm 0) (.c (.pointer none)), .fr 2, none⟩]) <|
    .cond (.fr 2)
      (.seq (.reg [
      ⟨.mov (.c (.slice none 0 0)), .fr 1, none⟩]) <|
      .ret)
      (.skip)) <|
    .seq (.reg [
    ⟨.mov (.fr 0), .tm, none⟩,
    ⟨.nilck (.tm 0), .tm, none⟩,
    ⟨.faddr 0 (.tm 0), .tm, none⟩,
    ⟨.load1 (.tm 0), .tm, none⟩,
    ⟨.callf 31 [(.tm 0)], .tm, none⟩,
    ⟨.mov (.tm 0), .fr 1, none⟩]) <|
    .ret⟩
/-- semaphore/semaphoreref02.Number -/
def e13 : EF := ⟨1, [0, 2, 3, 4, 8], [1],
    .seq (.reg [
    ⟨.mov (.c (.int .u64 0)), .fr 1, none⟩]) <|
    .seq (.reg [
    ⟨.mov (.c (.int .u64 0)), .fr 2, none⟩]) <|
    .seq (.seq (.reg [
    ⟨.mov (.c (.int .i64 0)), .fr 3, none⟩]) <|
    .block 0 (.loop (.seq (.seq (.reg [
        ⟨.mov (.fr 3), .tm, none⟩,
        ⟨.mov (.fr 0), .tm, none⟩,
        ⟨.len false (.tm 0), .tm, none⟩,
        ⟨.bin .lss (.tm 2) (.tm 0), .fr 4, none⟩]) <|
        .cond (.fr 4)
          (.skip)
          (.exit 0)) <|
        .seq (.block 1 (.reg [
          ⟨.mov (.fr 2), .tm, none⟩,
          ⟨.bin .shl (.tm 0) (.c (.int .u64 8)), .tm, none⟩,
          ⟨.mov (.fr 0), .tm, none⟩,
          ⟨.mov (.fr 3), .tm, none⟩,
          ⟨.iaddr 1 (.tm 1) (.tm 0), .tm, none⟩,
          ⟨.load1 (.tm 0), .tm, none⟩,
          ⟨.i2i .u64 (.tm 0), .tm, none⟩,
          ⟨.bin .or (.tm 5) (.tm 0), .tm, none⟩,
          ⟨.mov (.tm 0), .fr 2, none⟩])) <|
        .reg [
        ⟨.mov (.fr 3), .tm, none⟩,
        ⟨.bin .add (.tm 0) (.c (.int .i64 1)), .tm, none⟩,
        ⟨.mov (.tm 0), .fr 3, none⟩]))) <|
    .seq (.reg [
    ⟨.mov (.fr 2), .tm, none⟩,
    ⟨.mov (.tm 0), .fr 1, none⟩]) <|
    .ret⟩
/-- semaphore/semaphorelaw02.width -/
def e14 : EF := ⟨1, [0, 2], [1],
    .seq (.reg [
    ⟨.mov (.c (.int .i64 0)), .fr 1, none⟩]) <|
    .seq (.reg [
    ⟨.bslice 3 1 4 [(.int .i64 0), (.int .i64 0), (.int .i64 0), (.int .i64 0)] [(0, 1, (.c (.int .i64 1))), (1, 1, (.c (.int .i64 2))), (2, 1, (.c (.int .i64 4))), (3, 1, (.c (.int .i64 8)))], .tm, none⟩,
    ⟨.mov (.fr 0), .tm, none⟩,
    ⟨.bin .rem (.tm 0) (.c (.int .u8 5)), .tm, none⟩,
    ⟨.iaddr 1 (.tm 2) (.tm 0), .tm, none⟩,
    ⟨.load1 (.tm 0), .tm, none⟩,
    ⟨.mov (.tm 0), .fr 1, none⟩]) <|
    .ret⟩
/-- semaphore/fields.Open -/
def e15 : EF := ⟨1, [0, 2], [1],
    .seq (.reg [
    ⟨.mov (.c (.pointer none)), .fr 1, none⟩]) <|
    .seq (.reg [
    ⟨.mov (.fr 0), .tm, none⟩,
    ⟨.callf 31 [(.tm 0)], .tm, none⟩,
    ⟨.build [(.slice none 0 0), (.bool false)] [(0, 1, (.tm 0))], .tm, none⟩,
    ⟨.box 67 2 (.tm 0), .tm, none⟩,
    ⟨.mov (.tm 0), .fr 1, none⟩]) <|
    .ret⟩
/-- (*semaphore/semaphoreref02.Reader).Take -/
def e16 : EF := ⟨2, [0, 1, 4, 5, 6, 23], [2, 3],
    .seq (.reg [
    ⟨.mov (.c (.slice none 0 0)), .fr 2, none⟩,
    ⟨.mov (.c (.bool false)), .fr 3, none⟩]) <|
    .seq (.seq (.reg [
    ⟨.mov (.fr 0), .tm, none⟩,
    ⟨.nilck (.tm 0), .tm, none⟩,
    ⟨.faddr 1 (.tm 0), .tm, none⟩,
    ⟨.load1 (.tm 0), .tm, none⟩,
    ⟨.mov (.tm 0), .tm, none⟩,
    ⟨.mov (.fr 1), .tm, some ((.tm 0), false)⟩,
    ⟨.bin .lss (.tm 0) (.c (.int .i64 0)), .tm, some ((.tm 1), false)⟩,
    ⟨.pick (.tm 2) (.c (.bool true)) (.tm 0), .tm, none⟩,
    ⟨.mov (.tm 0), .tm, none⟩,
    ⟨.mov (.fr 1), .tm, some ((.tm 0), false)⟩,
    ⟨.mov (.fr 0), .tm, some ((.tm 1), false)⟩,
    ⟨.nilck (.tm 0), .tm, some ((.tm 2), false)⟩,
    ⟨.faddr 0 (.tm 0), .tm, some ((.tm 3), false)⟩,
    ⟨.load1 (.tm 0), .tm, some ((.tm 4), false)⟩,
    ⟨.len false (.tm 0), .tm, some ((.tm 5), false)⟩,
    ⟨.bin .gtr (.tm 5) (.tm 0), .tm, some ((.tm 6), false)⟩,
    ⟨.pick (.tm 7) (.c (.bool true)) (.tm 0), .fr 5, none⟩]) <|
    .cond (.fr 5)
      (.seq (.reg [
      ⟨.mov (.fr 0), .tm, none⟩,
      ⟨.nilck (.tm 0), .tm, none⟩,
      ⟨.faddr 1 (.tm 0), .tm, none⟩,
      ⟨.store1 (.tm 0) (.c (.bool true)), .no, none⟩]) <|
      .seq (.reg [
      ⟨.mov (.fr 0), .tm, none⟩,
      ⟨.nilck (.tm 0), .tm, none⟩,
      ⟨.faddr 0 (.tm 0), .tm, none⟩,
      ⟨.store1 (.tm 0) (.c (.slice none 0 0)), .no, none⟩]) <|
      .seq (.reg [
      ⟨.mov (.c (.slice none 0 0)), .fr 2, none⟩,
      ⟨.mov (.c (.bool false)), .fr 3, none⟩]) <|
      .ret)
      (.skip)) <|
    .seq (.reg [
    ⟨.mov (.fr 0), .tm, none⟩,
    ⟨.nilck (.tm 0), .tm, none⟩,
    ⟨.faddr 0 (.tm 0), .tm, none⟩,
    ⟨.load1 (.tm 0), .tm, none⟩,
    ⟨.mov (.fr 1), .tm, none⟩,
    ⟨.slsl 1 (.tm 1) none (some (.tm 0)) none, .tm, none⟩,
    ⟨.mov (.tm 0), .fr 4, none⟩]) <|
    .seq (.reg [
    ⟨.mov (.fr 0), .tm, none⟩,
    ⟨.mov (.fr 0), .tm, none⟩,
    ⟨.nilck (.tm 0), .tm, none⟩,
    ⟨.faddr 0 (.tm 0), .tm, none⟩,
    ⟨.load1 (.tm 0), .tm, none⟩,
    ⟨.mov (.fr 1), .tm, none⟩,
    ⟨.slsl 1 (.tm 1) (some (.tm 0)) none none, .tm, none⟩,
    ⟨.nilck (.tm 6), .tm, none⟩,
    ⟨.faddr 0 (.tm 0), .tm, none⟩,
    ⟨.store1 (.tm 0) (.tm 2), .no, none⟩]) <|
    .seq (.reg [
    ⟨.mov (.fr 4), .tm, none⟩,
    ⟨.mov (.tm 0), .fr 2, none⟩,
    ⟨.mov (.c (.bool true)), .fr 3, none⟩]) <|
    .ret⟩
/-- semaphore/semaphorelaw02.reads -/
def e17 : EF := ⟨2, [0, 1, 3, 4, 5, 6, 7, 8, 11, 12, 17, 22, 27, 41], [3, 4],
    .seq (.reg [
    ⟨.box 30 3 (.fr 1), .fr 2, none⟩,
    ⟨.mov (.c (.int .u64 0)), .fr 3, none⟩,
    ⟨.mov (.c (.string ByteArray.empty)), .fr 4, none⟩]) <|
    .seq (.seq (.reg [
    ⟨.faddr 0 (.fr 2), .tm, none⟩,
    ⟨.load1 (.tm 0), .tm, none⟩,
    ⟨.bin .rem (.tm 0) (.c (.int .u8 5)), .fr 8, none⟩]) <|
    .block 0 (.seq (.reg [
      ⟨.bin .eql (.fr 8) (.c (.int .u8 0)), .tm, none⟩,
      ⟨.mov (.tm 0), .fr 9, none⟩]) <|
      .cond (.fr 9)
        (.seq (.reg [
        ⟨.mov (.fr 0), .tm, none⟩,
        ⟨.callf 26 [(.tm 0)], .tm, none⟩,
        ⟨.i2i .u64 (.tm 0), .tm, none⟩,
        ⟨.mov (.tm 0), .fr 3, none⟩,
        ⟨.mov (.c (.string ByteArray.empty)), .fr 4, none⟩]) <|
        .ret)
        (.seq (.reg [
        ⟨.bin .eql (.fr 8) (.c (.int .u8 1)), .tm, none⟩,
        ⟨.mov (.tm 0), .fr 10, none⟩]) <|
        .cond (.fr 10)
          (.seq (.reg [
          ⟨.mov (.fr 0), .tm, none⟩,
          ⟨.callf 27 [(.tm 0)], .tm, none⟩,
          ⟨.i2i .u64 (.tm 0), .tm, none⟩,
          ⟨.mov (.tm 0), .fr 3, none⟩,
          ⟨.mov (.c (.string ByteArray.empty)), .fr 4, none⟩]) <|
          .ret)
          (.seq (.reg [
          ⟨.bin .eql (.fr 8) (.c (.int .u8 2)), .tm, none⟩,
          ⟨.mov (.tm 0), .fr 11, none⟩]) <|
          .cond (.fr 11)
            (.seq (.reg [
            ⟨.mov (.fr 0), .tm, none⟩,
            ⟨.callf 28 [(.tm 0)], .tm, none⟩,
            ⟨.i2i .u64 (.tm 0), .tm, none⟩,
            ⟨.mov (.tm 0), .fr 3, none⟩,
            ⟨.mov (.c (.string ByteArray.empty)), .fr 4, none⟩]) <|
            .ret)
            (.seq (.reg [
            ⟨.bin .eql (.fr 8) (.c (.int .u8 3)), .tm, none⟩,
            ⟨.mov (.tm 0), .fr 12, none⟩]) <|
            .cond (.fr 12)
              (.seq (.reg [
              ⟨.mov (.fr 0), .tm, none⟩,
              ⟨.callf 29 [(.tm 0)], .tm, none⟩,
              ⟨.mov (.tm 0), .fr 3, none⟩,
              ⟨.mov (.c (.string ByteArray.empty)), .fr 4, none⟩]) <|
              .ret)
              (.skip)))))) <|
    .seq (.reg [
    ⟨.mov (.fr 0), .tm, none⟩,
    ⟨.faddr 1 (.fr 2), .tm, none⟩,
    ⟨.load1 (.tm 0), .tm, none⟩,
    ⟨.i2i .i64 (.tm 0), .tm, none⟩,
    ⟨.callf 21 [(.tm 3), (.tm 0)], .tm, none⟩,
    ⟨.mov (.tm 0), .fr 5, none⟩]) <|
    .seq (.reg [
    ⟨.mov (.fr 5), .tm, none⟩,
    ⟨.b2s (.tm 0), .tm, none⟩,
    ⟨.mov (.tm 0), .fr 6, none⟩]) <|
    .seq (.seq (.reg [
    ⟨.mov (.c (.int .i64 0)), .fr 7, none⟩]) <|
    .block 1 (.loop (.seq (.seq (.reg [
        ⟨.mov (.fr 7), .tm, none⟩,
        ⟨.mov (.fr 5), .tm, none⟩,
        ⟨.len false (.tm 0), .tm, none⟩,
        ⟨.bin .lss (.tm 2) (.tm 0), .fr 13, none⟩]) <|
        .cond (.fr 13)
          (.skip)
          (.exit 1)) <|
        .seq (.block 2 (.reg [
          ⟨.mov (.fr 5), .tm, none⟩,
          ⟨.mov (.fr 7), .tm, none⟩,
          ⟨.mov (.fr 5), .tm, none⟩,
          ⟨.mov (.fr 7), .tm, none⟩,
          ⟨.iaddr 1 (.tm 1) (.tm 0), .tm, none⟩,
          ⟨.load1 (.tm 0), .tm, none⟩,
          ⟨.bin .add (.tm 0) (.c (.int .u8 1)), .tm, none⟩,
          ⟨.iaddr 1 (.tm 6) (.tm 5), .tm, none⟩,
          ⟨.store1 (.tm 0) (.tm 1), .no, none⟩])) <|
        .reg [
        ⟨.mov (.fr 7), .tm, none⟩,
        ⟨.bin .add (.tm 0) (.c (.int .i64 1)), .tm, none⟩,
        ⟨.mov (.tm 0), .fr 7, none⟩]))) <|
    .seq (.reg [
    ⟨.mov (.fr 6), .tm, none⟩,
    ⟨.mov (.c (.int .u64 0)), .fr 3, none⟩,
    ⟨.mov (.tm 0), .fr 4, none⟩]) <|
    .ret⟩
/-- (*semaphore/fields.Reader).Bad -/
def e18 : EF := ⟨1, [0, 2], [1],
    .seq (.reg [
    ⟨.mov (.c (.bool false)), .fr 1, none⟩]) <|
    .seq (.reg [
    ⟨.mov (.fr 0), .tm, none⟩,
    ⟨.eqv 1 false (.tm 0) (.c (.pointer none)), .tm, none⟩,
    ⟨.mov (.tm 0), .tm, none⟩,
    ⟨.mov (.fr 0), .tm, some ((.tm 0), false)⟩,
    ⟨.nilck (.tm 0), .tm, some ((.tm 1), false)⟩,
    ⟨.faddr 1 (.tm 0), .tm, some ((.tm 2), false)⟩,
    ⟨.load1 (.tm 0), .tm, some ((.tm 3), false)⟩,
    ⟨.pick (.tm 4) (.c (.bool true)) (.tm 0), .tm, none⟩,
    ⟨.mov (.tm 0), .fr 1, none⟩]) <|
    .ret⟩
/-- (*semaphore/fields.Reader).Left -/
def e19 : EF := ⟨1, [0, 2, 4], [1],
    .seq (.reg [
    ⟨.mov (.c (.int .i64 0)), .fr 1, none⟩]) <|
    .seq (.seq (.reg [
    ⟨.mov (.fr 0), .tm, none⟩,
    ⟨.eqv 1 false (.tm 0) (.c (.pointer none)), .fr 2, none⟩]) <|
    .cond (.fr 2)
      (.seq (.reg [
      ⟨.mov (.c (.int .i64 0)), .fr 1, none⟩]) <|
      .ret)
      (.skip)) <|
    .seq (.reg [
    ⟨.mov (.fr 0), .tm, none⟩,
    ⟨.nilck (.tm 0), .tm, none⟩,
    ⟨.faddr 0 (.tm 0), .tm, none⟩,
    ⟨.load1 (.tm 0), .tm, none⟩,
    ⟨.len false (.tm 0), .tm, none⟩,
    ⟨.mov (.tm 0), .fr 1, none⟩]) <|
    .ret⟩
/-- (*semaphore/fields.Writer).Raw -/
def e20 : EF := ⟨2, [0, 1, 5], [],
    .seq (.reg [
    ⟨.mov (.fr 0), .tm, none⟩,
    ⟨.eqv 1 true (.tm 0) (.c (.pointer none)), .fr 2, none⟩]) <|
    .cond (.fr 2)
      (.reg [
      ⟨.mov (.fr 0), .tm, none⟩,
      ⟨.mov (.fr 0), .tm, none⟩,
      ⟨.nilck (.tm 0), .tm, none⟩,
      ⟨.faddr 0 (.tm 0), .tm, none⟩,
      ⟨.load1 (.tm 0), .tm, none⟩,
      ⟨.mov (.fr 1), .tm, none⟩,
      ⟨.app 5 1 1 (.tm 1) (.tm 0), .tm, none⟩,
      ⟨.nilck (.tm 6), .tm, none⟩,
      ⟨.faddr 0 (.tm 0), .tm, none⟩,
      ⟨.store1 (.tm 0) (.tm 2), .no, none⟩])
      (.skip)⟩
/-- (*semaphore/fields.Reader).Raw -/
def e21 : EF := ⟨2, [0, 1, 4], [2],
    .seq (.reg [
    ⟨.mov (.c (.slice none 0 0)), .fr 2, none⟩]) <|
    .seq (.reg [
    ⟨.mov (.fr 0), .tm, none⟩,
    ⟨.mov (.fr 1), .tm, none⟩,
    ⟨.callf 32 [(.tm 1), (.tm 0)], .tm, none⟩,
    ⟨.mov (.tm 0), .fr 2, none⟩]) <|
    .ret⟩
/-- (*semaphore/fields.Writer).Byte -/
def e22 : EF := ⟨2, [0, 1], [],
    .reg [
    ⟨.mov (.fr 0), .tm, none⟩,
    ⟨.mov (.fr 1), .tm, none⟩,
    ⟨.iface 5 (.tm 0), .tm, none⟩,
    ⟨.callf 33 [(.tm 2), (.tm 0)], .tm, none⟩]⟩
/-- (*semaphore/fields.Writer).Short -/
def e23 : EF := ⟨2, [0, 1], [],
    .reg [
    ⟨.mov (.fr 0), .tm, none⟩,
    ⟨.mov (.fr 1), .tm, none⟩,
    ⟨.iface 54 (.tm 0), .tm, none⟩,
    ⟨.callf 33 [(.tm 2), (.tm 0)], .tm, none⟩]⟩
/-- (*semaphore/fields.Writer).Word -/
def e24 : EF := ⟨2, [0, 1], [],
    .reg [
    ⟨.mov (.fr 0), .tm, none⟩,
    ⟨.mov (.fr 1), .tm, none⟩,
    ⟨.iface 56 (.tm 0), .tm, none⟩,
    ⟨.callf 33 [(.tm 2), (.tm 0)], .tm, none⟩]⟩
/-- (*semaphore/fields.Writer).Long -/
def e25 : EF := ⟨2, [0, 1], [],
    .reg [
    ⟨.mov (.fr 0), .tm, none⟩,
    ⟨.mov (.fr 1), .tm, none⟩,
    ⟨.iface 28 (.tm 0), .tm, none⟩,
    ⟨.callf 33 [(.tm 2), (.tm 0)], .tm, none⟩]⟩
/-- (*semaphore/fields.Reader).Byte -/
def e26 : EF := ⟨1, [0, 2], [1],
    .seq (.reg [
    ⟨.mov (.c (.int .u8 0)), .fr 1, none⟩]) <|
    .seq (.reg [
    ⟨.mov (.fr 0), .tm, none⟩,
    ⟨.callf 34 [(.tm 0), (.c (.int .i64 1))], .tm, none⟩,
    ⟨.assert 5 (.int .u8 0) false (.tm 0), .tm, none⟩,
    ⟨.mov (.tm 0), .fr 1, none⟩]) <|
    .ret⟩
/-- (*semaphore/fields.Reader).Short -/
def e27 : EF := ⟨1, [0, 2], [1],
    .seq (.reg [
    ⟨.mov (.c (.int .u16 0)), .fr 1, none⟩]) <|
    .seq (.reg [
    ⟨.mov (.fr 0), .tm, none⟩,
    ⟨.callf 34 [(.tm 0), (.c (.int .i64 2))], .tm, none⟩,
    ⟨.assert 54 (.int .u16 0) false (.tm 0), .tm, none⟩,
    ⟨.mov (.tm 0), .fr 1, none⟩]) <|
    .ret⟩
/-- (*semaphore/fields.Reader).Word -/
def e28 : EF := ⟨1, [0, 2], [1],
    .seq (.reg [
    ⟨.mov (.c (.int .u32 0)), .fr 1, none⟩]) <|
    .seq (.reg [
    ⟨.mov (.fr 0), .tm, none⟩,
    ⟨.callf 34 [(.tm 0), (.c (.int .i64 4))], .tm, none⟩,
    ⟨.assert 56 (.int .u32 0) false (.tm 0), .tm, none⟩,
    ⟨.mov (.tm 0), .fr 1, none⟩]) <|
    .ret⟩
/-- (*semaphore/fields.Reader).Long -/
def e29 : EF := ⟨1, [0, 2], [1],
    .seq (.reg [
    ⟨.mov (.c (.int .u64 0)), .fr 1, none⟩]) <|
    .seq (.reg [
    ⟨.mov (.fr 0), .tm, none⟩,
    ⟨.callf 34 [(.tm 0), (.c (.int .i64 8))], .tm, none⟩,
    ⟨.assert 28 (.int .u64 0) false (.tm 0), .tm, none⟩,
    ⟨.mov (.tm 0), .fr 1, none⟩]) <|
    .ret⟩
/-- semaphore/semaphoreref02.Bytes -/
def e30 : EF := ⟨2, [0, 1, 4, 5, 6, 10], [2],
    .seq (.reg [
    ⟨.mov (.c (.slice none 0 0)), .fr 2, none⟩]) <|
    .seq (.reg [
    ⟨.mov (.c (.slice none 0 0)), .fr 3, none⟩]) <|
    .seq (.seq (.reg [
    ⟨.mov (.fr 1), .tm, none⟩,
    ⟨.bin .sub (.tm 0) (.c (.int .i64 1)), .tm, none⟩,
    ⟨.mov (.tm 0), .fr 4, none⟩]) <|
    .block 0 (.loop (.seq (.seq (.reg [
        ⟨.mov (.fr 4), .tm, none⟩,
        ⟨.bin .geq (.tm 0) (.c (.int .i64 0)), .fr 5, none⟩]) <|
        .cond (.fr 5)
          (.skip)
          (.exit 0)) <|
        .seq (.block 1 (.reg [
          ⟨.mov (.fr 3), .tm, none⟩,
          ⟨.mov (.fr 0), .tm, none⟩,
          ⟨.mov (.fr 4), .tm, none⟩,
          ⟨.bin .mul (.c (.int .i64 8)) (.tm 0), .tm, none⟩,
          ⟨.bin .shr (.tm 2) (.tm 0), .tm, none⟩,
          ⟨.i2i .u8 (.tm 0), .tm, none⟩,
          ⟨.bslice 5 1 1 [(.int .u8 0)] [(0, 1, (.tm 0))], .tm, none⟩,
          ⟨.app 5 1 1 (.tm 6) (.tm 0), .tm, none⟩,
          ⟨.mov (.tm 0), .fr 3, none⟩])) <|
        .reg [
        ⟨.mov (.fr 4), .tm, none⟩,
        ⟨.bin .sub (.tm 0) (.c (.int .i64 1)), .tm, none⟩,
        ⟨.mov (.tm 0), .fr 4, none⟩]))) <|
    .seq (.reg [
    ⟨.mov (.fr 3), .tm, none⟩,
    ⟨.mov (.tm 0), .fr 2, none⟩]) <|
    .ret⟩
/-- slices.Clone[[]byte,byte] -/
def e31 : EF := ⟨1, [0, 2, 4], [1],
    .seq (.reg [
    ⟨.mov (.c (.slice none 0 0)), .fr 1, none⟩]) <|
    .seq (.seq (.reg [
    ⟨.mov (.fr 0), .tm, none⟩,
    ⟨.eqv 2 false (.tm 0) (.c (.slice none 0 0)), .fr 2, none⟩]) <|
    .cond (.fr 2)
      (.seq (.reg [
      ⟨.mov (.c (.slice none 0 0)), .fr 1, none⟩]) <|
      .ret)
      (.skip)) <|
    .seq (.reg [
    ⟨.bslice 5 1 0 [] [], .tm, none⟩,
    ⟨.mov (.fr 0), .tm, none⟩,
    ⟨.app 5 1 1 (.tm 1) (.tm 0), .tm, none⟩,
    ⟨.mov (.tm 0), .fr 1, none⟩]) <|
    .ret⟩
/-- (*semaphore/fields.Reader).take -/
def e32 : EF := ⟨2, [0, 1, 4, 5, 6, 9], [2],
    .seq (.reg [
    ⟨.mov (.c (.slice none 0 0)), .fr 2, none⟩]) <|
    .seq (.block 0 (.seq (.reg [
      ⟨.mov (.fr 0), .tm, none⟩,
      ⟨.eqv 1 false (.tm 0) (.c (.pointer none)), .tm, none⟩,
      ⟨.mov (.tm 0), .fr 4, none⟩]) <|
      .cond (.fr 4)
        (.seq (.reg [
        ⟨.mov (.c (.slice none 0 0)), .fr 2, none⟩]) <|
        .ret)
        (.seq (.reg [
        ⟨.mov (.fr 0), .tm, none⟩,
        ⟨.nilck (.tm 0), .tm, none⟩,
        ⟨.faddr 1 (.tm 0), .tm, none⟩,
        ⟨.load1 (.tm 0), .tm, none⟩,
        ⟨.mov (.tm 0), .tm, none⟩,
        ⟨.mov (.fr 1), .tm, some ((.tm 0), false)⟩,
        ⟨.bin .lss (.tm 0) (.c (.int .i64 0)), .tm, some ((.tm 1), false)⟩,
        ⟨.pick (.tm 2) (.c (.bool true)) (.tm 0), .tm, none⟩,
        ⟨.mov (.tm 0), .tm, none⟩,
        ⟨.mov (.fr 1), .tm, some ((.tm 0), false)⟩,
        ⟨.mov (.fr 0), .tm, some ((.tm 1), false)⟩,
        ⟨.nilck (.tm 0), .tm, some ((.tm 2), false)⟩,
        ⟨.faddr 0 (.tm 0), .tm, some ((.tm 3), false)⟩,
        ⟨.load1 (.tm 0), .tm, some ((.tm 4), false)⟩,
        ⟨.len false (.tm 0), .tm, some ((.tm 5), false)⟩,
        ⟨.bin .gtr (.tm 5) (.tm 0), .tm, some ((.tm 6), false)⟩,
        ⟨.pick (.tm 7) (.c (.bool true)) (.tm 0), .tm, none⟩,
        ⟨.mov (.tm 0), .fr 5, none⟩]) <|
        .cond (.fr 5)
          (.seq (.reg [
          ⟨.mov (.fr 0), .tm, none⟩,
          ⟨.mov (.fr 0), .tm, none⟩,
          ⟨.nilck (.tm 1), .tm, none⟩,
          ⟨.faddr 0 (.tm 0), .tm, none⟩,
          ⟨.store1 (.tm 0) (.c (.slice none 0 0)), .no, none⟩,
          ⟨.nilck (.tm 2), .tm, none⟩,
          ⟨.faddr 1 (.tm 0), .tm, none⟩,
          ⟨.store1 (.tm 0) (.c (.bool true)), .no, none⟩]) <|
          .seq (.reg [
          ⟨.mov (.c (.slice none 0 0)), .fr 2, none⟩]) <|
          .ret)
          (.skip)))) <|
    .seq (.reg [
    ⟨.mov (.fr 0), .tm, none⟩,
    ⟨.nilck (.tm 0), .tm, none⟩,
    ⟨.faddr 0 (.tm 0), .tm, none⟩,
    ⟨.load1 (.tm 0), .tm, none⟩,
    ⟨.mov (.fr 1), .tm, none⟩,
    ⟨.mov (.fr 1), .tm, none⟩,
    ⟨.slsl 1 (.tm 2) none (some (.tm 1)) (some (.tm 0)), .tm, none⟩,
    ⟨.mov (.tm 0), .fr 3, none⟩]) <|
    .seq (.reg [
    ⟨.mov (.fr 0), .tm, none⟩,
    ⟨.mov (.fr 0), .tm, none⟩,
    ⟨.nilck (.tm 0), .tm, none⟩,
    ⟨.faddr 0 (.tm 0), .tm, none⟩,
    ⟨.load1 (.tm 0), .tm, none⟩,
    ⟨.mov (.fr 1), .tm, none⟩,
    ⟨.slsl 1 (.tm 1) (some (.tm 0)) none none, .tm, none⟩,
    ⟨.nilck (.tm 6), .tm, none⟩,
    ⟨.faddr 0 (.tm 0), .tm, none⟩,
    ⟨.store1 (.tm 0) (.tm 2), .no, none⟩]) <|
    .seq (.reg [
    ⟨.mov (.fr 3), .tm, none⟩,
    ⟨.mov (.tm 0), .fr 2, none⟩]) <|
    .ret⟩
/-- (*semaphore/fields.Writer).put -/
def e33 : EF := ⟨2, [0, 1, 4, 5, 6, 8, 18], [],
    .seq (.seq (.reg [
    ⟨.mov (.fr 0), .tm, none⟩,
    ⟨.eqv 1 false (.tm 0) (.c (.pointer none)), .fr 5, none⟩]) <|
    .cond (.fr 5)
      (.ret)
      (.skip)) <|
    .seq (.reg [
    ⟨.mov (.fr 1), .tm, none⟩,
    ⟨.callf 35 [(.tm 0)], .tm, none⟩,
    ⟨.mov (.tm 0), .tm, none⟩,
    ⟨.extract (.tm 0) 0, .tm, none⟩,
    ⟨.extract (.tm 1) 1, .tm, none⟩,
    ⟨.mov (.tm 1), .fr 2, none⟩,
    ⟨.mov (.tm 0), .fr 3, none⟩]) <|
    .seq (.reg [
    ⟨.mov (.fr 3), .tm, none⟩,
    ⟨.bin .sub (.tm 0) (.c (.int .i64 1)), .tm, none⟩,
    ⟨.bin .mul (.c (.int .i64 8)) (.tm 0), .tm, none⟩,
    ⟨.mov (.tm 0), .fr 4, none⟩]) <|
    .block 0 (.loop (.seq (.seq (.reg [
        ⟨.mov (.fr 4), .tm, none⟩,
        ⟨.bin .geq (.tm 0) (.c (.int .i64 0)), .fr 6, none⟩]) <|
        .cond (.fr 6)
          (.skip)
          (.exit 0)) <|
        .seq (.block 1 (.reg [
          ⟨.mov (.fr 0), .tm, none⟩,
          ⟨.mov (.fr 0), .tm, none⟩,
          ⟨.nilck (.tm 0), .tm, none⟩,
          ⟨.faddr 0 (.tm 0), .tm, none⟩,
          ⟨.load1 (.tm 0), .tm, none⟩,
          ⟨.mov (.fr 2), .tm, none⟩,
          ⟨.mov (.fr 4), .tm, none⟩,
          ⟨.bin .shr (.tm 1) (.tm 0), .tm, none⟩,
          ⟨.i2i .u8 (.tm 0), .tm, none⟩,
          ⟨.bslice 5 1 1 [(.int .u8 0)] [(0, 1, (.tm 0))], .tm, none⟩,
          ⟨.app 5 1 1 (.tm 5) (.tm 0), .tm, none⟩,
          ⟨.nilck (.tm 10), .tm, none⟩,
          ⟨.faddr 0 (.tm 0), .tm, none⟩,
          ⟨.store1 (.tm 0) (.tm 2), .no, none⟩])) <|
        .reg [
        ⟨.mov (.fr 4), .tm, none⟩,
        ⟨.bin .sub (.tm 0) (.c (.int .i64 8)), .tm, none⟩,
        ⟨.mov (.tm 0), .fr 4, none⟩]))⟩
/-- (*semaphore/fields.Reader).number -/
def e34 : EF := ⟨2, [0, 1, 4], [2],
    .seq (.reg [
    ⟨.mov (.c .nilIface), .fr 2, none⟩]) <|
    .seq (.reg [
    ⟨.mov (.fr 0), .tm, none⟩,
    ⟨.mov (.fr 1), .tm, none⟩,
    ⟨.callf 32 [(.tm 1), (.tm 0)], .tm, none⟩,
    ⟨.mov (.fr 1), .tm, none⟩,
    ⟨.callf 36 [(.tm 1), (.tm 0)], .tm, none⟩,
    ⟨.mov (.tm 0), .fr 2, none⟩]) <|
    .ret⟩
/-- semaphore/fields.split -/
def e35 : EF := ⟨1, [0, 2, 3, 4, 5, 6, 7, 8, 9, 15, 23, 31], [1, 2],
    .seq (.reg [
    ⟨.mov (.c (.int .u64 0)), .fr 1, none⟩,
    ⟨.mov (.c (.int .i64 0)), .fr 2, none⟩]) <|
    .seq (.seq (.reg [
    ⟨.mov (.fr 0), .tm, none⟩,
    ⟨.assert 5 (.int .u8 0) true (.tm 0), .tm, none⟩,
    ⟨.mov (.tm 0), .tm, none⟩,
    ⟨.extract (.tm 0) 0, .tm, none⟩,
    ⟨.extract (.tm 1) 1, .tm, none⟩,
    ⟨.mov (.tm 1), .fr 3, none⟩,
    ⟨.mov (.tm 0), .fr 4, none⟩]) <|
    .seq (.reg [
    ⟨.mov (.fr 4), .fr 9, none⟩]) <|
    .cond (.fr 9)
      (.seq (.reg [
      ⟨.mov (.fr 3), .tm, none⟩,
      ⟨.i2i .u64 (.tm 0), .tm, none⟩,
      ⟨.mov (.tm 0), .fr 1, none⟩,
      ⟨.mov (.c (.int .i64 1)), .fr 2, none⟩]) <|
      .ret)
      (.skip)) <|
    .seq (.seq (.reg [
    ⟨.mov (.fr 0), .tm, none⟩,
    ⟨.assert 54 (.int .u16 0) true (.tm 0), .tm, none⟩,
    ⟨.mov (.tm 0), .tm, none⟩,
    ⟨.extract (.tm 0) 0, .tm, none⟩,
    ⟨.extract (.tm 1) 1, .tm, none⟩,
    ⟨.mov (.tm 1), .fr 5, none⟩,
    ⟨.mov (.tm 0), .fr 6, none⟩]) <|
    .seq (.reg [
    ⟨.mov (.fr 6), .fr 10, none⟩]) <|
    .cond (.fr 10)
      (.seq (.reg [
      ⟨.mov (.fr 5), .tm, none⟩,
      ⟨.i2i .u64 (.tm 0), .tm, none⟩,
      ⟨.mov (.tm 0), .fr 1, none⟩,
      ⟨.mov (.c (.int .i64 2)), .fr 2, none⟩]) <|
      .ret)
      (.skip)) <|
    .seq (.seq (.reg [
    ⟨.mov (.fr 0), .tm, none⟩,
    ⟨.assert 56 (.int .u32 0) true (.tm 0), .tm, none⟩,
    ⟨.mov (.tm 0), .tm, none⟩,
    ⟨.extract (.tm 0) 0, .tm, none⟩,
    ⟨.extract (.tm 1) 1, .tm, none⟩,
    ⟨.mov (.tm 1), .fr 7, none⟩,
    ⟨.mov (.tm 0), .fr 8, none⟩]) <|
    .seq (.reg [
    ⟨.mov (.fr 8), .fr 11, none⟩]) <|
    .cond (.fr 11)
      (.seq (.reg [
      ⟨.mov (.fr 7), .tm, none⟩,
      ⟨.i2i .u64 (.tm 0), .tm, none⟩,
      ⟨.mov (.tm 0), .fr 1, none⟩,
      ⟨.mov (.c (.int .i64 4)), .fr 2, none⟩]) <|
      .ret)
      (.skip)) <|
    .seq (.reg [
    ⟨.mov (.fr 0), .tm, none⟩,
    ⟨.assert 28 (.int .u64 0) false (.tm 0), .tm, none⟩,
    ⟨.mov (.tm 0), .fr 1, none⟩,
    ⟨.mov (.c (.int .i64 8)), .fr 2, none⟩]) <|
    .ret⟩
/-- semaphore/fields.joined -/
def e36 : EF := ⟨2, [0, 1, 4, 5, 7, 8, 9, 10, 11, 20, 21, 26, 31], [2],
    .seq (.reg [
    ⟨.mov (.c .nilIface), .fr 2, none⟩]) <|
    .seq (.reg [
    ⟨.mov (.c (.int .u64 0)), .fr 3, none⟩]) <|
    .seq (.seq (.reg [
    ⟨.mov (.fr 0), .fr 5, none⟩,
    ⟨.len false (.fr 5), .fr 6, none⟩,
    ⟨.mov (.c (.int .i64 0)), .fr 7, none⟩]) <|
    .block 0 (.loop (.seq (.reg [
        ⟨.bin .lss (.fr 7) (.fr 6), .fr 8, none⟩]) <|
        .seq (.cond (.fr 8)
          (.skip)
          (.exit 0)) <|
        .seq (.block 1 (.seq (.reg [
          ⟨.iaddr 1 (.fr 5) (.fr 7), .tm, none⟩,
          ⟨.load1 (.tm 0), .tm, none⟩,
          ⟨.mov (.tm 0), .fr 4, none⟩]) <|
          .reg [
          ⟨.mov (.fr 3), .tm, none⟩,
          ⟨.bin .shl (.tm 0) (.c (.int .u64 8)), .tm, none⟩,
          ⟨.mov (.fr 4), .tm, none⟩,
          ⟨.i2i .u64 (.tm 0), .tm, none⟩,
          ⟨.bin .or (.tm 2) (.tm 0), .tm, none⟩,
          ⟨.mov (.tm 0), .fr 3, none⟩])) <|
        .reg [
        ⟨.bin .add (.fr 7) (.c (.int .i64 1)), .tm, none⟩,
        ⟨.mov (.tm 0), .fr 7, none⟩]))) <|
    .seq (.seq (.reg [
    ⟨.mov (.fr 1), .fr 9, none⟩]) <|
    .block 2 (.seq (.reg [
      ⟨.bin .eql (.fr 9) (.c (.int .i64 1)), .tm, none⟩,
      ⟨.mov (.tm 0), .fr 10, none⟩]) <|
      .cond (.fr 10)
        (.seq (.reg [
        ⟨.mov (.fr 3), .tm, none⟩,
        ⟨.i2i .u8 (.tm 0), .tm, none⟩,
        ⟨.iface 5 (.tm 0), .tm, none⟩,
        ⟨.mov (.tm 0), .fr 2, none⟩]) <|
        .ret)
        (.seq (.reg [
        ⟨.bin .eql (.fr 9) (.c (.int .i64 2)), .tm, none⟩,
        ⟨.mov (.tm 0), .fr 11, none⟩]) <|
        .cond (.fr 11)
          (.seq (.reg [
          ⟨.mov (.fr 3), .tm, none⟩,
          ⟨.i2i .u16 (.tm 0), .tm, none⟩,
          ⟨.iface 54 (.tm 0), .tm, none⟩,
          ⟨.mov (.tm 0), .fr 2, none⟩]) <|
          .ret)
          (.seq (.reg [
          ⟨.bin .eql (.fr 9) (.c (.int .i64 4)), .tm, none⟩,
          ⟨.mov (.tm 0), .fr 12, none⟩]) <|
          .cond (.fr 12)
            (.seq (.reg [
            ⟨.mov (.fr 3), .tm, none⟩,
            ⟨.i2i .u32 (.tm 0), .tm, none⟩,
            ⟨.iface 56 (.tm 0), .tm, none⟩,
            ⟨.mov (.tm 0), .fr 2, none⟩]) <|
            .ret)
            (.skip))))) <|
    .seq (.reg [
    ⟨.mov (.fr 3), .tm, none⟩,
    ⟨.iface 28 (.tm 0), .tm, none⟩,
    ⟨.mov (.tm 0), .fr 2, none⟩]) <|
    .ret⟩
theorem e3_ok : e3.ok Try.prog 0 3 := ok_of (by unfold EFok; kernel_rfl) (by kernel_rfl)
theorem e4_ok : e4.ok Try.prog 0 4 := ok_of (by unfold EFok; kernel_rfl) (by kernel_rfl)
theorem e5_ok : e5.ok Try.prog 0 5 := ok_of (by unfold EFok; kernel_rfl) (by kernel_rfl)
theorem e6_ok : e6.ok Try.prog 0 6 := ok_of (by unfold EFok; kernel_rfl) (by kernel_rfl)
theorem e7_ok : e7.ok Try.prog 0 7 := ok_of (by unfold EFok; kernel_rfl) (by kernel_rfl)
theorem e8_ok : e8.ok Try.prog 0 8 := ok_of (by unfold EFok; kernel_rfl) (by kernel_rfl)
theorem e9_ok : e9.ok Try.prog 0 9 := ok_of (by unfold EFok; kernel_rfl) (by kernel_rfl)
theorem e10_ok : e10.ok Try.prog 0 10 := ok_of (by unfold EFok; kernel_rfl) (by kernel_rfl)
theorem e11_ok : e11.ok Try.prog 0 11 := ok_of (by unfold EFok; kernel_rfl) (by kernel_rfl)
theorem e12_ok : e12.ok Try.prog 0 12 := ok_of (by unfold EFok; kernel_rfl) (by kernel_rfl)
theorem e13_ok : e13.ok Try.prog 0 13 := ok_of (by unfold EFok; kernel_rfl) (by kernel_rfl)
theorem e14_ok : e14.ok Try.prog 0 14 := ok_of (by unfold EFok; kernel_rfl) (by kernel_rfl)
theorem e15_ok : e15.ok Try.prog 0 15 := ok_of (by unfold EFok; kernel_rfl) (by kernel_rfl)
theorem e16_ok : e16.ok Try.prog 0 16 := ok_of (by unfold EFok; kernel_rfl) (by kernel_rfl)
theorem e17_ok : e17.ok Try.prog 0 17 := ok_of (by unfold EFok; kernel_rfl) (by kernel_rfl)
theorem e18_ok : e18.ok Try.prog 0 18 := ok_of (by unfold EFok; kernel_rfl) (by kernel_rfl)
theorem e19_ok : e19.ok Try.prog 0 19 := ok_of (by unfold EFok; kernel_rfl) (by kernel_rfl)
theorem e20_ok : e20.ok Try.prog 0 20 := ok_of (by unfold EFok; kernel_rfl) (by kernel_rfl)
theorem e21_ok : e21.ok Try.prog 0 21 := ok_of (by unfold EFok; kernel_rfl) (by kernel_rfl)
theorem e22_ok : e22.ok Try.prog 0 22 := ok_of (by unfold EFok; kernel_rfl) (by kernel_rfl)
theorem e23_ok : e23.ok Try.prog 0 23 := ok_of (by unfold EFok; kernel_rfl) (by kernel_rfl)
theorem e24_ok : e24.ok Try.prog 0 24 := ok_of (by unfold EFok; kernel_rfl) (by kernel_rfl)
theorem e25_ok : e25.ok Try.prog 0 25 := ok_of (by unfold EFok; kernel_rfl) (by kernel_rfl)
theorem e26_ok : e26.ok Try.prog 0 26 := ok_of (by unfold EFok; kernel_rfl) (by kernel_rfl)
theorem e27_ok : e27.ok Try.prog 0 27 := ok_of (by unfold EFok; kernel_rfl) (by kernel_rfl)
theorem e28_ok : e28.ok Try.prog 0 28 := ok_of (by unfold EFok; kernel_rfl) (by kernel_rfl)
theorem e29_ok : e29.ok Try.prog 0 29 := ok_of (by unfold EFok; kernel_rfl) (by kernel_rfl)
theorem e30_ok : e30.ok Try.prog 0 30 := ok_of (by unfold EFok; kernel_rfl) (by kernel_rfl)
theorem e31_ok : e31.ok Try.prog 0 31 := ok_of (by unfold EFok; kernel_rfl) (by kernel_rfl)
theorem e32_ok : e32.ok Try.prog 0 32 := ok_of (by unfold EFok; kernel_rfl) (by kernel_rfl)
theorem e33_ok : e33.ok Try.prog 0 33 := ok_of (by unfold EFok; kernel_rfl) (by kernel_rfl)
theorem e34_ok : e34.ok Try.prog 0 34 := ok_of (by unfold EFok; kernel_rfl) (by kernel_rfl)
theorem e35_ok : e35.ok Try.prog 0 35 := ok_of (by unfold EFok; kernel_rfl) (by kernel_rfl)
theorem e36_ok : e36.ok Try.prog 0 36 := ok_of (by unfold EFok; kernel_rfl) (by kernel_rfl)
def tab : FT := (.node 20 e20 (.node 11 e11 (.node 7 e7 (.node 5 e5 (.node 4 e4 (.node 3 e3 .leaf .leaf) .leaf) (.node 6 e6 .leaf .leaf)) (.node 9 e9 (.node 8 e8 .leaf .leaf) (.node 10 e10 .leaf .leaf))) (.node 16 e16 (.node 14 e14 (.node 13 e13 (.node 12 e12 .leaf .leaf) .leaf) (.node 15 e15 .leaf .leaf)) (.node 18 e18 (.node 17 e17 .leaf .leaf) (.node 19 e19 .leaf .leaf)))) (.node 29 e29 (.node 25 e25 (.node 23 e23 (.node 22 e22 (.node 21 e21 .leaf .leaf) .leaf) (.node 24 e24 .leaf .leaf)) (.node 27 e27 (.node 26 e26 .leaf .leaf) (.node 28 e28 .leaf .leaf))) (.node 33 e33 (.node 31 e31 (.node 30 e30 .leaf .leaf) (.node 32 e32 .leaf .leaf)) (.node 35 e35 (.node 34 e34 .leaf .leaf) (.node 36 e36 .leaf .leaf)))))
theorem tab_ok : tab.ok Try.prog 0 := ⟨e20_ok, ⟨e11_ok, ⟨e7_ok, ⟨e5_ok, ⟨e4_ok, ⟨e3_ok, trivial, trivial⟩, trivial⟩, ⟨e6_ok, trivial, trivial⟩⟩, ⟨e9_ok, ⟨e8_ok, trivial, trivial⟩, ⟨e10_ok, trivial, trivial⟩⟩⟩, ⟨e16_ok, ⟨e14_ok, ⟨e13_ok, ⟨e12_ok, trivial, trivial⟩, trivial⟩, ⟨e15_ok, trivial, trivial⟩⟩, ⟨e18_ok, ⟨e17_ok, trivial, trivial⟩, ⟨e19_ok, trivial, trivial⟩⟩⟩⟩, ⟨e29_ok, ⟨e25_ok, ⟨e23_ok, ⟨e22_ok, ⟨e21_ok, trivial, trivial⟩, trivial⟩, ⟨e24_ok, trivial, trivial⟩⟩, ⟨e27_ok, ⟨e26_ok, trivial, trivial⟩, ⟨e28_ok, trivial, trivial⟩⟩⟩, ⟨e33_ok, ⟨e31_ok, ⟨e30_ok, trivial, trivial⟩, ⟨e32_ok, trivial, trivial⟩⟩, ⟨e35_ok, ⟨e34_ok, trivial, trivial⟩, ⟨e36_ok, trivial, trivial⟩⟩⟩⟩⟩
end Go.AM.FdT
