/- The functions' code for the evaluator (printed by program), and that it is what they compile to. -/
import Derived.Test.YtpfnnlpgodjmdaaAmZ2
import Derived.Test.YtpfnnlpgodjmdaaProg
import Derived.KernelRfl
set_option linter.unusedSimpArgs false
set_option linter.unusedVariables false
set_option maxRecDepth 100000
namespace Go.AM.RlT
open Go.Proofs
def EFok (P : Program) (ng k : Nat) (f : EF) : Prop := ((compF P ng f.sl k).map fun af => (af.sl, af.res, simpC af.body)) = some (f.sl, f.res, f.body)
theorem ok_of {P : Program} {ng k : Nat} {f : EF} (h : EFok P ng k f) (ha : argsOK P k f.na = true) : f.ok P ng k := by
  unfold EFok at h
  simp only [Option.map_eq_some_iff, Prod.mk.injEq] at h
  obtain ⟨af, h1, h2, h3, h4⟩ := h
  exact ⟨af, h1, h2, h3, h4, ha⟩
/-- semaphore/semaphorelaw24.works -/
def e6 : EF := ⟨0, [0, 1, 2, 4, 5, 6, 7, 8, 9, 10, 11, 12, 13, 14, 15, 21, 85], [.t 0],
    .seq (.reg [
    ⟨.mov (.c (.bool false)), .fr 0, none⟩]) <|
    .seq (.reg [
    ⟨.callf 7 [(.c (.int .i64 2))], .tm, none⟩,
    ⟨.mov (.tm 0), .tm, none⟩,
    ⟨.extract (.tm 0) 0, .tm, none⟩,
    ⟨.extract (.tm 1) 1, .tm, none⟩,
    ⟨.mov (.tm 1), .fr 1, none⟩,
    ⟨.mov (.tm 0), .fr 2, none⟩]) <|
    .seq (.seq (.reg [
    ⟨.mov (.fr 2), .tm, none⟩,
    ⟨.bin .neq (.tm 0) (.c (.int .i64 0)), .fr 15, none⟩]) <|
    .cond (.fr 15)
      (.seq (.reg [
      ⟨.mov (.c (.bool false)), .fr 0, none⟩]) <|
      .ret)
      (.skip)) <|
    .seq (.reg [
    ⟨.mov (.fr 1), .tm, none⟩,
    ⟨.callf 19 [(.tm 0)], .tm, none⟩,
    ⟨.mov (.tm 0), .tm, none⟩,
    ⟨.extract (.tm 0) 0, .tm, none⟩,
    ⟨.extract (.tm 1) 1, .tm, none⟩,
    ⟨.new 35 2 [(.int .u64 0), (.int .u32 0)], .tm, none⟩,
    ⟨.storen 2 (.tm 0) (.tm 2), .no, none⟩,
    ⟨.mov (.tm 1), .fr 3, none⟩]) <|
    .seq (.reg [
    ⟨.mov (.fr 1), .tm, none⟩,
    ⟨.callf 14 [(.tm 0)], .tm, none⟩,
    ⟨.mov (.tm 0), .fr 4, none⟩]) <|
    .seq (.reg [
    ⟨.mov (.fr 1), .tm, none⟩,
    ⟨.build [(.int .u64 0), (.int .u32 0)] [(0, 1, (.c (.int .u64 3)))], .tm, none⟩,
    ⟨.build [(.int .u8 0), (.int .i64 0), (.int .i64 0), (.int .u64 0), (.int .u32 0)] [(2, 1, (.c (.int .i64 1))), (1, 1, (.c (.int .i64 5))), (3, 2, (.tm 0))], .tm, none⟩,
    ⟨.build [(.int .u64 0), (.int .u64 0), (.int .u64 0), (.int .u8 0), (.int .u8 0), (.int .u8 0), (.int .u8 0), (.int .u8 0), (.int .u8 0), (.int .u8 0), (.int .u8 0), (.int .u8 0), (.int .u8 0), (.int .u8 0), (.int .u8 0), (.int .u8 0), (.int .u8 0), (.int .u8 0), (.int .u8 0), (.int .u8 0), (.int .u8 0), (.int .u8 0), (.int .u8 0), (.int .u8 0), (.int .u8 0), (.int .u8 0), (.int .u8 0), (.int .u8 0), (.int .u8 0), (.int .u8 0), (.int .u8 0), (.int .u8 0), (.int .u8 0), (.int .u8 0), (.int .u8 0), (.int .u8 0), (.int .u8 0), (.int .u8 0), (.int .u8 0), (.int .u8 0), (.int .u8 0), (.int .u8 0), (.int .u8 0), (.int .u8 0), (.int .u8 0), (.int .u8 0), (.int .u8 0), (.int .u8 0), (.int .u8 0), (.int .u8 0), (.int .u8 0), (.int .u8 0), (.int .u8 0), (.int .u8 0), (.int .u8 0), (.int .u8 0), (.int .u8 0), (.int .u8 0), (.int .u8 0), (.int .u8 0), (.int .u8 0), (.int .u8 0), (.int .u8 0), (.int .u8 0), (.int .u8 0), (.int .u8 0), (.int .u8 0), (.int .u32 0)] [(0, 1, (.c (.int .u64 7)))], .tm, none⟩,
    ⟨.callf 15 [(.tm 3), (.c (.int .i64 0)), (.tm 1), (.tm 0)], .tm, none⟩,
    ⟨.mov (.tm 0), .fr 5, none⟩]) <|
    .seq (.reg [
    ⟨.mov (.fr 1), .tm, none⟩,
    ⟨.build [(.int .u8 0), (.int .i64 0), (.int .i64 0), (.int .u64 0), (.int .u32 0)] [(2, 1, (.c (.int .i64 1))), (1, 1, (.c (.int .i64 6)))], .tm, none⟩,
    ⟨.build [(.int .u64 0), (.int .u64 0), (.int .u64 0), (.int .u8 0), (.int .u8 0), (.int .u8 0), (.int .u8 0), (.int .u8 0), (.int .u8 0), (.int .u8 0), (.int .u8 0), (.int .u8 0), (.int .u8 0), (.int .u8 0), (.int .u8 0), (.int .u8 0), (.int .u8 0), (.int .u8 0), (.int .u8 0), (.int .u8 0), (.int .u8 0), (.int .u8 0), (.int .u8 0), (.int .u8 0), (.int .u8 0), (.int .u8 0), (.int .u8 0), (.int .u8 0), (.int .u8 0), (.int .u8 0), (.int .u8 0), (.int .u8 0), (.int .u8 0), (.int .u8 0), (.int .u8 0), (.int .u8 0), (.int .u8 0), (.int .u8 0), (.int .u8 0), (.int .u8 0), (.int .u8 0), (.int .u8 0), (.int .u8 0), (.int .u8 0), (.int .u8 0), (.int .u8 0), (.int .u8 0), (.int .u8 0), (.int .u8 0), (.int .u8 0), (.int .u8 0), (.int .u8 0), (.int .u8 0), (.int .u8 0), (.int .u8 0), (.int .u8 0), (.int .u8 0), (.int .u8 0), (.int .u8 0), (.int .u8 0), (.int .u8 0), (.int .u8 0), (.int .u8 0), (.int .u8 0), (.int .u8 0), (.int .u8 0), (.int .u8 0), (.int .u32 0)] [], .tm, none⟩,
    ⟨.callf 15 [(.tm 2), (.c (.int .i64 1)), (.tm 1), (.tm 0)], .tm, none⟩,
    ⟨.mov (.tm 0), .fr 6, none⟩]) <|
    .seq (.reg [
    ⟨.mov (.fr 1), .tm, none⟩,
    ⟨.build [(.int .u64 0), (.int .u32 0)] [(0, 1, (.c (.int .u64 4))), (1, 1, (.c (.int .u32 7)))], .tm, none⟩,
    ⟨.build [(.int .u8 0), (.int .i64 0), (.int .i64 0), (.int .u64 0), (.int .u32 0)] [(2, 1, (.c (.int .i64 2))), (1, 1, (.c (.int .i64 1))), (3, 2, (.tm 0))], .tm, none⟩,
    ⟨.build [(.int .u64 0), (.int .u64 0), (.int .u64 0), (.int .u8 0), (.int .u8 0), (.int .u8 0), (.int .u8 0), (.int .u8 0), (.int .u8 0), (.int .u8 0), (.int .u8 0), (.int .u8 0), (.int .u8 0), (.int .u8 0), (.int .u8 0), (.int .u8 0), (.int .u8 0), (.int .u8 0), (.int .u8 0), (.int .u8 0), (.int .u8 0), (.int .u8 0), (.int .u8 0), (.int .u8 0), (.int .u8 0), (.int .u8 0), (.int .u8 0), (.int .u8 0), (.int .u8 0), (.int .u8 0), (.int .u8 0), (.int .u8 0), (.int .u8 0), (.int .u8 0), (.int .u8 0), (.int .u8 0), (.int .u8 0), (.int .u8 0), (.int .u8 0), (.int .u8 0), (.int .u8 0), (.int .u8 0), (.int .u8 0), (.int .u8 0), (.int .u8 0), (.int .u8 0), (.int .u8 0), (.int .u8 0), (.int .u8 0), (.int .u8 0), (.int .u8 0), (.int .u8 0), (.int .u8 0), (.int .u8 0), (.int .u8 0), (.int .u8 0), (.int .u8 0), (.int .u8 0), (.int .u8 0), (.int .u8 0), (.int .u8 0), (.int .u8 0), (.int .u8 0), (.int .u8 0), (.int .u8 0), (.int .u8 0), (.int .u8 0), (.int .u32 0)] [(0, 1, (.c (.int .u64 5)))], .tm, none⟩,
    ⟨.callf 15 [(.tm 3), (.c (.int .i64 1)), (.tm 1), (.tm 0)], .tm, none⟩,
    ⟨.mov (.tm 0), .fr 7, none⟩]) <|
    .seq (.reg [
    ⟨.mov (.fr 1), .tm, none⟩,
    ⟨.build [(.int .u8 0), (.int .i64 0), (.int .i64 0), (.int .u64 0), (.int .u32 0)] [(2, 1, (.c (.int .i64 1))), (1, 1, (.c (.int .i64 7)))], .tm, none⟩,
    ⟨.build [(.int .u64 0), (.int .u64 0), (.int .u64 0), (.int .u8 0), (.int .u8 0), (.int .u8 0), (.int .u8 0), (.int .u8 0), (.int .u8 0), (.int .u8 0), (.int .u8 0), (.int .u8 0), (.int .u8 0), (.int .u8 0), (.int .u8 0), (.int .u8 0), (.int .u8 0), (.int .u8 0), (.int .u8 0), (.int .u8 0), (.int .u8 0), (.int .u8 0), (.int .u8 0), (.int .u8 0), (.int .u8 0), (.int .u8 0), (.int .u8 0), (.int .u8 0), (.int .u8 0), (.int .u8 0), (.int .u8 0), (.int .u8 0), (.int .u8 0), (.int .u8 0), (.int .u8 0), (.int .u8 0), (.int .u8 0), (.int .u8 0), (.int .u8 0), (.int .u8 0), (.int .u8 0), (.int .u8 0), (.int .u8 0), (.int .u8 0), (.int .u8 0), (.int .u8 0), (.int .u8 0), (.int .u8 0), (.int .u8 0), (.int .u8 0), (.int .u8 0), (.int .u8 0), (.int .u8 0), (.int .u8 0), (.int .u8 0), (.int .u8 0), (.int .u8 0), (.int .u8 0), (.int .u8 0), (.int .u8 0), (.int .u8 0), (.int .u8 0), (.int .u8 0), (.int .u8 0), (.int .u8 0), (.int .u8 0), (.int .u8 0), (.int .u32 0)] [], .tm, none⟩,
    ⟨.callf 15 [(.tm 2), (.c (.int .i64 0)), (.tm 1), (.tm 0)], .tm, none⟩,
    ⟨.mov (.tm 0), .fr 8, none⟩]) <|
    .seq (.reg [
    ⟨.mov (.fr 1), .tm, none⟩,
    ⟨.callf 19 [(.tm 0)], .tm, none⟩,
    ⟨.mov (.tm 0), .tm, none⟩,
    ⟨.extract (.tm 0) 0, .tm, none⟩,
    ⟨.extract (.tm 1) 1, .tm, none⟩,
    ⟨.new 35 2 [(.int .u64 0), (.int .u32 0)], .fr 9, none⟩,
    ⟨.storen 2 (.fr 9) (.tm 1), .no, none⟩,
    ⟨.mov (.tm 0), .fr 10, none⟩]) <|
    .seq (.reg [
    ⟨.mov (.fr 1), .tm, none⟩,
    ⟨.callf 13 [(.tm 0)], .tm, none⟩]) <|
    .seq (.reg [
    ⟨.mov (.fr 1), .tm, none⟩,
    ⟨.callf 13 [(.tm 0)], .tm, none⟩]) <|
    .seq (.reg [
    ⟨.mov (.fr 1), .tm, none⟩,
    ⟨.callf 13 [(.tm 0)], .tm, none⟩]) <|
    .seq (.reg [
    ⟨.mov (.fr 1), .tm, none⟩,
    ⟨.callf 19 [(.tm 0)], .tm, none⟩,
    ⟨.mov (.tm 0), .tm, none⟩,
    ⟨.extract (.tm 0) 0, .tm, none⟩,
    ⟨.extract (.tm 1) 1, .tm, none⟩,
    ⟨.new 35 2 [(.int .u64 0), (.int .u32 0)], .fr 11, none⟩,
    ⟨.storen 2 (.fr 11) (.tm 1), .no, none⟩,
    ⟨.mov (.tm 0), .fr 12, none⟩]) <|
    .seq (.reg [
    ⟨.mov (.fr 1), .tm, none⟩,
    ⟨.callf 18 [(.tm 0)], .tm, none⟩,
    ⟨.mov (.tm 0), .tm, none⟩,
    ⟨.extract (.tm 0) 0, .tm, none⟩,
    ⟨.extract (.tm 1) 1, .tm, none⟩,
    ⟨.new 50 70 [(.int .i64 0), (.int .i64 0), (.int .u64 0), (.int .u64 0), (.int .u64 0), (.int .u8 0), (.int .u8 0), (.int .u8 0), (.int .u8 0), (.int .u8 0), (.int .u8 0), (.int .u8 0), (.int .u8 0), (.int .u8 0), (.int .u8 0), (.int .u8 0), (.int .u8 0), (.int .u8 0), (.int .u8 0), (.int .u8 0), (.int .u8 0), (.int .u8 0), (.int .u8 0), (.int .u8 0), (.int .u8 0), (.int .u8 0), (.int .u8 0), (.int .u8 0), (.int .u8 0), (.int .u8 0), (.int .u8 0), (.int .u8 0), (.int .u8 0), (.int .u8 0), (.int .u8 0), (.int .u8 0), (.int .u8 0), (.int .u8 0), (.int .u8 0), (.int .u8 0), (.int .u8 0), (.int .u8 0), (.int .u8 0), (.int .u8 0), (.int .u8 0), (.int .u8 0), (.int .u8 0), (.int .u8 0), (.int .u8 0), (.int .u8 0), (.int .u8 0), (.int .u8 0), (.int .u8 0), (.int .u8 0), (.int .u8 0), (.int .u8 0), (.int .u8 0), (.int .u8 0), (.int .u8 0), (.int .u8 0), (.int .u8 0), (.int .u8 0), (.int .u8 0), (.int .u8 0), (.int .u8 0), (.int .u8 0), (.int .u8 0), (.int .u8 0), (.int .u8 0), (.int .u32 0)], .fr 13, none⟩,
    ⟨.storen 70 (.fr 13) (.tm 1), .no, none⟩,
    ⟨.mov (.tm 0), .fr 14, none⟩]) <|
    .seq (.seq (.reg [
    ⟨.mov (.fr 14), .tm, none⟩,
    ⟨.un .not (.tm 0), .tm, none⟩,
    ⟨.mov (.tm 0), .tm, none⟩,
    ⟨.faddr 0 (.fr 13), .tm, some ((.tm 0), false)⟩,
    ⟨.load1 (.tm 0), .tm, some ((.tm 1), false)⟩,
    ⟨.bin .neq (.tm 0) (.c (.int .i64 2)), .tm, some ((.tm 2), false)⟩,
    ⟨.pick (.tm 3) (.c (.bool true)) (.tm 0), .tm, none⟩,
    ⟨.mov (.tm 0), .tm, none⟩,
    ⟨.faddr 1 (.fr 13), .tm, some ((.tm 0), false)⟩,
    ⟨.load1 (.tm 0), .tm, some ((.tm 1), false)⟩,
    ⟨.bin .neq (.tm 0) (.c (.int .i64 1)), .tm, some ((.tm 2), false)⟩,
    ⟨.pick (.tm 3) (.c (.bool true)) (.tm 0), .tm, none⟩,
    ⟨.mov (.tm 0), .tm, none⟩,
    ⟨.faddr 2 (.fr 13), .tm, some ((.tm 0), false)⟩,
    ⟨.faddr 0 (.tm 0), .tm, some ((.tm 1), false)⟩,
    ⟨.load1 (.tm 0), .tm, some ((.tm 2), false)⟩,
    ⟨.bin .neq (.tm 0) (.c (.int .u64 5)), .tm, some ((.tm 3), false)⟩,
    ⟨.pick (.tm 4) (.c (.bool true)) (.tm 0), .fr 16, none⟩]) <|
    .cond (.fr 16)
      (.seq (.reg [
      ⟨.mov (.c (.bool false)), .fr 0, none⟩]) <|
      .ret)
      (.skip)) <|
    .seq (.reg [
    ⟨.mov (.fr 3), .tm, none⟩,
    ⟨.mov (.tm 0), .tm, none⟩,
    ⟨.mov (.fr 4), .tm, some ((.tm 0), true)⟩,
    ⟨.bin .eql (.tm 0) (.c (.int .i64 0)), .tm, some ((.tm 1), true)⟩,
    ⟨.pick (.tm 2) (.tm 0) (.c (.bool false)), .tm, none⟩,
    ⟨.mov (.tm 0), .tm, none⟩,
    ⟨.mov (.fr 5), .tm, some ((.tm 0), true)⟩,
    ⟨.bin .eql (.tm 0) (.c (.int .i64 0)), .tm, some ((.tm 1), true)⟩,
    ⟨.pick (.tm 2) (.tm 0) (.c (.bool false)), .tm, none⟩,
    ⟨.mov (.tm 0), .tm, none⟩,
    ⟨.mov (.fr 6), .tm, some ((.tm 0), true)⟩,
    ⟨.bin .eql (.tm 0) (.c (.int .i64 230)), .tm, some ((.tm 1), true)⟩,
    ⟨.pick (.tm 2) (.tm 0) (.c (.bool false)), .tm, none⟩,
    ⟨.mov (.tm 0), .tm, none⟩,
    ⟨.mov (.fr 7), .tm, some ((.tm 0), true)⟩,
    ⟨.bin .eql (.tm 0) (.c (.int .i64 0)), .tm, some ((.tm 1), true)⟩,
    ⟨.pick (.tm 2) (.tm 0) (.c (.bool false)), .tm, none⟩,
    ⟨.mov (.tm 0), .tm, none⟩,
    ⟨.mov (.fr 8), .tm, some ((.tm 0), true)⟩,
    ⟨.bin .eql (.tm 0) (.c (.int .i64 230)), .tm, some ((.tm 1), true)⟩,
    ⟨.pick (.tm 2) (.tm 0) (.c (.bool false)), .tm, none⟩,
    ⟨.mov (.tm 0), .tm, none⟩,
    ⟨.faddr 0 (.fr 9), .tm, some ((.tm 0), true)⟩,
    ⟨.load1 (.tm 0), .tm, some ((.tm 1), true)⟩,
    ⟨.bin .eql (.tm 0) (.c (.int .u64 4)), .tm, some ((.tm 2), true)⟩,
    ⟨.pick (.tm 3) (.tm 0) (.c (.bool false)), .tm, none⟩,
    ⟨.mov (.tm 0), .tm, none⟩,
    ⟨.mov (.fr 10), .tm, some ((.tm 0), true)⟩,
    ⟨.un .not (.tm 0), .tm, some ((.tm 1), true)⟩,
    ⟨.pick (.tm 2) (.tm 0) (.c (.bool false)), .tm, none⟩,
    ⟨.mov (.tm 0), .tm, none⟩,
    ⟨.faddr 0 (.fr 11), .tm, some ((.tm 0), true)⟩,
    ⟨.load1 (.tm 0), .tm, some ((.tm 1), true)⟩,
    ⟨.bin .eql (.tm 0) (.c (.int .u64 0)), .tm, some ((.tm 2), true)⟩,
    ⟨.pick (.tm 3) (.tm 0) (.c (.bool false)), .tm, none⟩,
    ⟨.mov (.tm 0), .tm, none⟩,
    ⟨.faddr 1 (.fr 11), .tm, some ((.tm 0), true)⟩,
    ⟨.load1 (.tm 0), .tm, some ((.tm 1), true)⟩,
    ⟨.bin .eql (.tm 0) (.c (.int .u32 7)), .tm, some ((.tm 2), true)⟩,
    ⟨.pick (.tm 3) (.tm 0) (.c (.bool false)), .tm, none⟩,
    ⟨.mov (.tm 0), .tm, none⟩,
    ⟨.mov (.fr 12), .tm, some ((.tm 0), true)⟩,
    ⟨.pick (.tm 1) (.tm 0) (.c (.bool false)), .tm, none⟩,
    ⟨.mov (.tm 0), .tm, none⟩,
    ⟨.mov (.fr 1), .tm, some ((.tm 0), true)⟩,
    ⟨.callf 16 [(.tm 0)], .tm, some ((.tm 1), true)⟩,
    ⟨.bin .eql (.tm 0) (.c (.int .i64 2)), .tm, some ((.tm 2), true)⟩,
    ⟨.pick (.tm 3) (.tm 0) (.c (.bool false)), .tm, none⟩,
    ⟨.mov (.tm 0), .tm, none⟩,
    ⟨.mov (.fr 1), .tm, some ((.tm 0), true)⟩,
    ⟨.callf 17 [(.tm 0)], .tm, some ((.tm 1), true)⟩,
    ⟨.bin .eql (.tm 0) (.c (.int .i64 1)), .tm, some ((.tm 2), true)⟩,
    ⟨.pick (.tm 3) (.tm 0) (.c (.bool false)), .tm, none⟩,
    ⟨.mov (.tm 0), .tm, none⟩,
    ⟨.mov (.fr 1), .tm, some ((.tm 0), true)⟩,
    ⟨.callf 20 [(.tm 0)], .tm, some ((.tm 1), true)⟩,
    ⟨.bin .eql (.tm 0) (.c (.int .i64 1)), .tm, some ((.tm 2), true)⟩,
    ⟨.pick (.tm 3) (.tm 0) (.c (.bool false)), .tm, none⟩,
    ⟨.mov (.tm 0), .fr 0, none⟩]) <|
    .ret⟩
/-- semaphore/relay.New -/
def e7 : EF := ⟨1, [0, 2, 3, 9], [.t 1, .t 2],
    .seq (.reg [
    ⟨.mov (.c (.pointer none)), .fr 1, none⟩,
    ⟨.mov (.c (.int .i64 0)), .fr 2, none⟩]) <|
    .seq (.seq (.reg [
    ⟨.mov (.fr 0), .tm, none⟩,
    ⟨.bin .lss (.tm 0) (.c (.int .i64 1)), .tm, none⟩,
    ⟨.mov (.tm 0), .tm, none⟩,
    ⟨.mov (.fr 0), .tm, some ((.tm 0), false)⟩,
    ⟨.bin .gtr (.tm 0) (.c (.int .i64 1000)), .tm, some ((.tm 1), false)⟩,
    ⟨.pick (.tm 2) (.c (.bool true)) (.tm 0), .fr 3, none⟩]) <|
    .cond (.fr 3)
      (.seq (.reg [
      ⟨.mov (.c (.pointer none)), .fr 1, none⟩,
      ⟨.mov (.c (.int .i64 2)), .fr 2, none⟩]) <|
      .ret)
      (.skip)) <|
    .seq (.reg [
    ⟨.build [(.int .i64 0), (.int .i64 0), .nilIface] [(1, 1, (.c (.int .i64 (-1))))], .tm, none⟩,
    ⟨.mov (.fr 0), .tm, none⟩,
    ⟨.build [(.int .i64 0), (.int .i64 0), .nilIface, (.int .i64 0), (.int .i64 0), (.bool false), (.int .u64 0), (.int .u32 0), .nilIface] [(0, 3, (.tm 1)), (3, 1, (.tm 0)), (5, 1, (.c (.bool true)))], .tm, none⟩,
    ⟨.box 60 9 (.tm 0), .tm, none⟩,
    ⟨.mov (.tm 0), .fr 1, none⟩,
    ⟨.mov (.c (.int .i64 0)), .fr 2, none⟩]) <|
    .ret⟩
/-- (*semaphore/relay.Relay).Tick -/
def e13 : EF := ⟨1, [0, 3, 12], [],
    .seq (.seq (.reg [
    ⟨.mov (.fr 0), .tm, none⟩,
    ⟨.eqv 1 false (.tm 0) (.c (.pointer none)), .fr 1, none⟩]) <|
    .cond (.fr 1)
      (.ret)
      (.skip)) <|
    .seq (.seq (.reg [
    ⟨.mov (.fr 0), .tm, none⟩,
    ⟨.nilck (.tm 0), .tm, none⟩,
    ⟨.faddr 4 (.tm 0), .tm, none⟩,
    ⟨.load1 (.tm 0), .tm, none⟩,
    ⟨.mov (.fr 0), .tm, none⟩,
    ⟨.nilck (.tm 0), .tm, none⟩,
    ⟨.faddr 3 (.tm 0), .tm, none⟩,
    ⟨.load1 (.tm 0), .tm, none⟩,
    ⟨.bin .lss (.tm 4) (.tm 0), .fr 2, none⟩]) <|
    .cond (.fr 2)
      (.seq (.reg [
      ⟨.mov (.fr 0), .tm, none⟩,
      ⟨.nilck (.tm 0), .tm, none⟩,
      ⟨.faddr 4 (.tm 0), .tm, none⟩,
      ⟨.load1 (.tm 0), .tm, none⟩,
      ⟨.bin .add (.tm 0) (.c (.int .i64 1)), .tm, none⟩,
      ⟨.nilck (.tm 4), .tm, none⟩,
      ⟨.faddr 4 (.tm 0), .tm, none⟩,
      ⟨.store1 (.tm 0) (.tm 2), .no, none⟩]) <|
      .ret)
      (.skip)) <|
    .reg [
    ⟨.mov (.fr 0), .tm, none⟩,
    ⟨.callf 27 [(.tm 0)], .tm, none⟩]⟩
/-- (*semaphore/relay.Relay).Reset -/
def e14 : EF := ⟨1, [0, 2, 3, 6], [.t 1],
    .seq (.reg [
    ⟨.mov (.c (.int .i64 0)), .fr 1, none⟩]) <|
    .seq (.block 0 (.seq (.reg [
      ⟨.mov (.fr 0), .tm, none⟩,
      ⟨.eqv 1 false (.tm 0) (.c (.pointer none)), .tm, none⟩,
      ⟨.mov (.tm 0), .fr 2, none⟩]) <|
      .cond (.fr 2)
        (.seq (.reg [
        ⟨.mov (.c (.int .i64 1)), .fr 1, none⟩]) <|
        .ret)
        (.seq (.reg [
        ⟨.mov (.fr 0), .tm, none⟩,
        ⟨.nilck (.tm 0), .tm, none⟩,
        ⟨.faddr 5 (.tm 0), .tm, none⟩,
        ⟨.load1 (.tm 0), .tm, none⟩,
        ⟨.un .not (.tm 0), .tm, none⟩,
        ⟨.mov (.tm 0), .fr 3, none⟩]) <|
        .cond (.fr 3)
          (.seq (.reg [
          ⟨.mov (.c (.int .i64 4)), .fr 1, none⟩]) <|
          .ret)
          (.skip)))) <|
    .seq (.reg [
    ⟨.mov (.fr 0), .tm, none⟩,
    ⟨.mov (.fr 0), .tm, none⟩,
    ⟨.nilck (.tm 1), .tm, none⟩,
    ⟨.faddr 5 (.tm 0), .tm, none⟩,
    ⟨.store1 (.tm 0) (.c (.bool false)), .no, none⟩,
    ⟨.nilck (.tm 2), .tm, none⟩,
    ⟨.faddr 4 (.tm 0), .tm, none⟩,
    ⟨.store1 (.tm 0) (.c (.int .i64 0)), .no, none⟩]) <|
    .seq (.reg [
    ⟨.mov (.c (.int .i64 0)), .fr 1, none⟩]) <|
    .ret⟩
/-- (*semaphore/relay.Relay).Admit -/
def e15 : EF := ⟨4, [0, 1, 2, 3, 6, 7, 8, 9, 10, 11, 12, 14, 26, 30, 58, 63], [.t 6],
    .seq (.reg [
    ⟨.box 37 5 (.fr 2), .fr 4, none⟩,
    ⟨.box 40 68 (.fr 3), .fr 5, none⟩,
    ⟨.mov (.c (.int .i64 0)), .fr 6, none⟩]) <|
    .seq (.seq (.reg [
    ⟨.mov (.fr 0), .tm, none⟩,
    ⟨.eqv 1 false (.tm 0) (.c (.pointer none)), .fr 11, none⟩]) <|
    .cond (.fr 11)
      (.seq (.reg [
      ⟨.mov (.c (.int .i64 1)), .fr 6, none⟩]) <|
      .ret)
      (.skip)) <|
    .seq (.reg [
    ⟨.mov (.fr 0), .tm, none⟩,
    ⟨.nilck (.tm 0), .tm, none⟩,
    ⟨.faddr 0 (.tm 0), .tm, none⟩,
    ⟨.loadn 3 (.tm 0), .tm, none⟩,
    ⟨.mov (.fr 1), .tm, none⟩,
    ⟨.faddr 2 (.fr 4), .tm, none⟩,
    ⟨.load1 (.tm 0), .tm, none⟩,
    ⟨.callf 26 [(.tm 3), (.tm 2), (.tm 0)], .tm, none⟩,
    ⟨.mov (.tm 0), .tm, none⟩,
    ⟨.extract (.tm 0) 0, .tm, none⟩,
    ⟨.extract (.tm 1) 1, .tm, none⟩,
    ⟨.new 58 3 [(.int .i64 0), (.int .i64 0), .nilIface], .fr 7, none⟩,
    ⟨.storen 3 (.fr 7) (.tm 1), .no, none⟩,
    ⟨.mov (.tm 0), .fr 8, none⟩]) <|
    .seq (.block 0 (.seq (.reg [
      ⟨.mov (.fr 8), .tm, none⟩,
      ⟨.bin .neq (.tm 0) (.c (.int .i64 0)), .tm, none⟩,
      ⟨.mov (.tm 0), .fr 12, none⟩]) <|
      .cond (.fr 12)
        (.seq (.reg [
        ⟨.mov (.fr 8), .tm, none⟩,
        ⟨.mov (.tm 0), .fr 6, none⟩]) <|
        .ret)
        (.seq (.reg [
        ⟨.faddr 1 (.fr 4), .tm, none⟩,
        ⟨.load1 (.tm 0), .tm, none⟩,
        ⟨.bin .lss (.tm 0) (.c (.int .i64 0)), .tm, none⟩,
        ⟨.mov (.tm 0), .tm, none⟩,
        ⟨.faddr 1 (.fr 4), .tm, some ((.tm 0), false)⟩,
        ⟨.load1 (.tm 0), .tm, some ((.tm 1), false)⟩,
        ⟨.bin .gtr (.tm 0) (.c (.int .i64 1099511627776)), .tm, some ((.tm 2), false)⟩,
        ⟨.pick (.tm 3) (.c (.bool true)) (.tm 0), .tm, none⟩,
        ⟨.mov (.tm 0), .tm, none⟩,
        ⟨.faddr 3 (.fr 4), .tm, some ((.tm 0), false)⟩,
        ⟨.faddr 0 (.tm 0), .tm, some ((.tm 1), false)⟩,
        ⟨.load1 (.tm 0), .tm, some ((.tm 2), false)⟩,
        ⟨.faddr 0 (.fr 5), .tm, some ((.tm 3), false)⟩,
        ⟨.load1 (.tm 0), .tm, some ((.tm 4), false)⟩,
        ⟨.bin .andNot (.tm 2) (.tm 0), .tm, some ((.tm 5), false)⟩,
        ⟨.bin .neq (.tm 0) (.c (.int .u64 0)), .tm, some ((.tm 6), false)⟩,
        ⟨.pick (.tm 7) (.c (.bool true)) (.tm 0), .tm, none⟩,
        ⟨.mov (.tm 0), .fr 13, none⟩]) <|
        .cond (.fr 13)
          (.seq (.reg [
          ⟨.mov (.c (.int .i64 2)), .fr 6, none⟩]) <|
          .ret)
          (.skip)))) <|
    .seq (.reg [
    ⟨.mov (.fr 0), .tm, none⟩,
    ⟨.loadn 3 (.fr 7), .tm, none⟩,
    ⟨.nilck (.tm 1), .tm, none⟩,
    ⟨.faddr 0 (.tm 0), .tm, none⟩,
    ⟨.storen 3 (.tm 0) (.tm 2), .no, none⟩]) <|
    .seq (.reg [
    ⟨.faddr 2 (.fr 7), .tm, none⟩,
    ⟨.load1 (.tm 0), .tm, none⟩,
    ⟨.assert 2 (.int .i64 0) true (.tm 0), .tm, none⟩,
    ⟨.mov (.tm 0), .tm, none⟩,
    ⟨.extract (.tm 0) 0, .tm, none⟩,
    ⟨.extract (.tm 1) 1, .tm, none⟩,
    ⟨.mov (.tm 1), .fr 9, none⟩,
    ⟨.mov (.tm 0), .fr 10, none⟩]) <|
    .seq (.block 1 (.seq (.reg [
      ⟨.mov (.fr 0), .tm, none⟩,
      ⟨.nilck (.tm 0), .tm, none⟩,
      ⟨.faddr 5 (.tm 0), .tm, none⟩,
      ⟨.load1 (.tm 0), .tm, none⟩,
      ⟨.mov (.tm 0), .fr 14, none⟩]) <|
      .cond (.fr 14)
        (.seq (.reg [
        ⟨.mov (.c (.int .i64 220)), .fr 6, none⟩]) <|
        .ret)
        (.seq (.reg [
        ⟨.mov (.fr 10), .tm, none⟩,
        ⟨.mov (.tm 0), .tm, none⟩,
        ⟨.faddr 1 (.fr 4), .tm, some ((.tm 0), true)⟩,
        ⟨.load1 (.tm 0), .tm, some ((.tm 1), true)⟩,
        ⟨.mov (.fr 9), .tm, some ((.tm 2), true)⟩,
        ⟨.bin .leq (.tm 1) (.tm 0), .tm, some ((.tm 3), true)⟩,
        ⟨.pick (.tm 4) (.tm 0) (.c (.bool false)), .tm, none⟩,
        ⟨.mov (.tm 0), .fr 15, none⟩]) <|
        .cond (.fr 15)
          (.seq (.reg [
          ⟨.mov (.c (.int .i64 4)), .fr 6, none⟩]) <|
          .ret)
          (.skip)))) <|
    .seq (.dreg [
    (⟨.mov (.fr 0), .tm, none⟩, []),
    (⟨.mov (.fr 0), .tm, none⟩, []),
    (⟨.mov (.fr 0), .tm, none⟩, []),
    (⟨.faddr 3 (.fr 4), .tm, none⟩, []),
    (⟨.loadn 2 (.tm 0), .tm, none⟩, []),
    (⟨.faddr 1 (.fr 4), .tm, none⟩, []),
    (⟨.load1 (.tm 0), .tm, none⟩, []),
    (⟨.iface 2 (.tm 0), .tm, none⟩, []),
    (⟨.nilck (.tm 7), .tm, none⟩, []),
    (⟨.faddr 6 (.tm 0), .tm, none⟩, []),
    (⟨.storen 2 (.tm 0) (.tm 5), .no, none⟩, [6]),
    (⟨.nilck (.tm 8), .tm, none⟩, []),
    (⟨.faddr 0 (.tm 0), .tm, none⟩, []),
    (⟨.faddr 2 (.tm 0), .tm, none⟩, []),
    (⟨.store1 (.tm 0) (.tm 5), .no, none⟩, []),
    (⟨.nilck (.tm 10), .tm, none⟩, []),
    (⟨.faddr 4 (.tm 0), .tm, none⟩, []),
    (⟨.store1 (.tm 0) (.c (.int .i64 0)), .no, none⟩, [])]) <|
    .seq (.reg [
    ⟨.mov (.fr 0), .tm, none⟩,
    ⟨.faddr 2 (.fr 4), .tm, none⟩,
    ⟨.load1 (.tm 0), .tm, none⟩,
    ⟨.faddr 1 (.fr 4), .tm, none⟩,
    ⟨.load1 (.tm 0), .tm, none⟩,
    ⟨.loadn 68 (.fr 5), .tm, none⟩,
    ⟨.build [(.int .i64 0), (.int .i64 0), (.int .u64 0), (.int .u64 0), (.int .u64 0), (.int .u8 0), (.int .u8 0), (.int .u8 0), (.int .u8 0), (.int .u8 0), (.int .u8 0), (.int .u8 0), (.int .u8 0), (.int .u8 0), (.int .u8 0), (.int .u8 0), (.int .u8 0), (.int .u8 0), (.int .u8 0), (.int .u8 0), (.int .u8 0), (.int .u8 0), (.int .u8 0), (.int .u8 0), (.int .u8 0), (.int .u8 0), (.int .u8 0), (.int .u8 0), (.int .u8 0), (.int .u8 0), (.int .u8 0), (.int .u8 0), (.int .u8 0), (.int .u8 0), (.int .u8 0), (.int .u8 0), (.int .u8 0), (.int .u8 0), (.int .u8 0), (.int .u8 0), (.int .u8 0), (.int .u8 0), (.int .u8 0), (.int .u8 0), (.int .u8 0), (.int .u8 0), (.int .u8 0), (.int .u8 0), (.int .u8 0), (.int .u8 0), (.int .u8 0), (.int .u8 0), (.int .u8 0), (.int .u8 0), (.int .u8 0), (.int .u8 0), (.int .u8 0), (.int .u8 0), (.int .u8 0), (.int .u8 0), (.int .u8 0), (.int .u8 0), (.int .u8 0), (.int .u8 0), (.int .u8 0), (.int .u8 0), (.int .u8 0), (.int .u8 0), (.int .u8 0), (.int .u32 0)] [(0, 1, (.tm 3)), (1, 1, (.tm 1)), (2, 68, (.tm 0))], .tm, none⟩,
    ⟨.iface 50 (.tm 0), .tm, none⟩,
    ⟨.nilck (.tm 7), .tm, none⟩,
    ⟨.faddr 8 (.tm 0), .tm, none⟩,
    ⟨.store1 (.tm 0) (.tm 2), .no, none⟩]) <|
    .seq (.reg [
    ⟨.mov (.c (.int .i64 0)), .fr 6, none⟩]) <|
    .ret⟩
/-- (*semaphore/relay.Relay).Epoch -/
def e16 : EF := ⟨1, [0, 2, 4], [.t 1],
    .seq (.reg [
    ⟨.mov (.c (.int .i64 0)), .fr 1, none⟩]) <|
    .seq (.seq (.reg [
    ⟨.mov (.fr 0), .tm, none⟩,
    ⟨.eqv 1 false (.tm 0) (.c (.pointer none)), .fr 2, none⟩]) <|
    .cond (.fr 2)
      (.seq (.reg [
      ⟨.mov (.c (.int .i64 0)), .fr 1, none⟩]) <|
      .ret)
      (.skip)) <|
    .seq (.reg [
    ⟨.mov (.fr 0), .tm, none⟩,
    ⟨.nilck (.tm 0), .tm, none⟩,
    ⟨.faddr 0 (.tm 0), .tm, none⟩,
    ⟨.faddr 0 (.tm 0), .tm, none⟩,
    ⟨.load1 (.tm 0), .tm, none⟩,
    ⟨.mov (.tm 0), .fr 1, none⟩]) <|
    .ret⟩
/-- (*semaphore/relay.Relay).Pair -/
def e17 : EF := ⟨1, [0, 2, 4], [.t 1],
    .seq (.reg [
    ⟨.mov (.c (.int .i64 0)), .fr 1, none⟩]) <|
    .seq (.seq (.reg [
    ⟨.mov (.fr 0), .tm, none⟩,
    ⟨.eqv 1 false (.tm 0) (.c (.pointer none)), .fr 2, none⟩]) <|
    .cond (.fr 2)
      (.seq (.reg [
      ⟨.mov (.c (.int .i64 (-1))), .fr 1, none⟩]) <|
      .ret)
      (.skip)) <|
    .seq (.reg [
    ⟨.mov (.fr 0), .tm, none⟩,
    ⟨.nilck (.tm 0), .tm, none⟩,
    ⟨.faddr 0 (.tm 0), .tm, none⟩,
    ⟨.faddr 1 (.tm 0), .tm, none⟩,
    ⟨.load1 (.tm 0), .tm, none⟩,
    ⟨.mov (.tm 0), .fr 1, none⟩]) <|
    .ret⟩
/-- (*semaphore/relay.Relay).Witness -/
def e18 : EF := ⟨1, [0, 2, 3, 4, 5, 7], [.cn 70 1, .t 2],
    .seq (.reg [
    ⟨.new 50 70 [(.int .i64 0), (.int .i64 0), (.int .u64 0), (.int .u64 0), (.int .u64 0), (.int .u8 0), (.int .u8 0), (.int .u8 0), (.int .u8 0), (.int .u8 0), (.int .u8 0), (.int .u8 0), (.int .u8 0), (.int .u8 0), (.int .u8 0), (.int .u8 0), (.int .u8 0), (.int .u8 0), (.int .u8 0), (.int .u8 0), (.int .u8 0), (.int .u8 0), (.int .u8 0), (.int .u8 0), (.int .u8 0), (.int .u8 0), (.int .u8 0), (.int .u8 0), (.int .u8 0), (.int .u8 0), (.int .u8 0), (.int .u8 0), (.int .u8 0), (.int .u8 0), (.int .u8 0), (.int .u8 0), (.int .u8 0), (.int .u8 0), (.int .u8 0), (.int .u8 0), (.int .u8 0), (.int .u8 0), (.int .u8 0), (.int .u8 0), (.int .u8 0), (.int .u8 0), (.int .u8 0), (.int .u8 0), (.int .u8 0), (.int .u8 0), (.int .u8 0), (.int .u8 0), (.int .u8 0), (.int .u8 0), (.int .u8 0), (.int .u8 0), (.int .u8 0), (.int .u8 0), (.int .u8 0), (.int .u8 0), (.int .u8 0), (.int .u8 0), (.int .u8 0), (.int .u8 0), (.int .u8 0), (.int .u8 0), (.int .u8 0), (.int .u8 0), (.int .u8 0), (.int .u32 0)], .fr 1, none⟩,
    ⟨.mov (.c (.bool false)), .fr 2, none⟩]) <|
    .seq (.seq (.reg [
    ⟨.mov (.fr 0), .tm, none⟩,
    ⟨.eqv 1 false (.tm 0) (.c (.pointer none)), .fr 5, none⟩]) <|
    .cond (.fr 5)
      (.seq (.reg [
      ⟨.build [(.int .i64 0), (.int .i64 0), (.int .u64 0), (.int .u64 0), (.int .u64 0), (.int .u8 0), (.int .u8 0), (.int .u8 0), (.int .u8 0), (.int .u8 0), (.int .u8 0), (.int .u8 0), (.int .u8 0), (.int .u8 0), (.int .u8 0), (.int .u8 0), (.int .u8 0), (.int .u8 0), (.int .u8 0), (.int .u8 0), (.int .u8 0), (.int .u8 0), (.int .u8 0), (.int .u8 0), (.int .u8 0), (.int .u8 0), (.int .u8 0), (.int .u8 0), (.int .u8 0), (.int .u8 0), (.int .u8 0), (.int .u8 0), (.int .u8 0), (.int .u8 0), (.int .u8 0), (.int .u8 0), (.int .u8 0), (.int .u8 0), (.int .u8 0), (.int .u8 0), (.int .u8 0), (.int .u8 0), (.int .u8 0), (.int .u8 0), (.int .u8 0), (.int .u8 0), (.int .u8 0), (.int .u8 0), (.int .u8 0), (.int .u8 0), (.int .u8 0), (.int .u8 0), (.int .u8 0), (.int .u8 0), (.int .u8 0), (.int .u8 0), (.int .u8 0), (.int .u8 0), (.int .u8 0), (.int .u8 0), (.int .u8 0), (.int .u8 0), (.int .u8 0), (.int .u8 0), (.int .u8 0), (.int .u8 0), (.int .u8 0), (.int .u8 0), (.int .u8 0), (.int .u32 0)] [], .tm, none⟩,
      ⟨.storen 70 (.fr 1) (.tm 0), .no, none⟩,
      ⟨.mov (.c (.bool false)), .fr 2, none⟩]) <|
      .ret)
      (.skip)) <|
    .seq (.reg [
    ⟨.mov (.fr 0), .tm, none⟩,
    ⟨.nilck (.tm 0), .tm, none⟩,
    ⟨.faddr 8 (.tm 0), .tm, none⟩,
    ⟨.load1 (.tm 0), .tm, none⟩,
    ⟨.assert 50 (.agg #[(.int .i64 0), (.int .i64 0), (.int .u64 0), (.int .u64 0), (.int .u64 0), (.int .u8 0), (.int .u8 0), (.int .u8 0), (.int .u8 0), (.int .u8 0), (.int .u8 0), (.int .u8 0), (.int .u8 0), (.int .u8 0), (.int .u8 0), (.int .u8 0), (.int .u8 0), (.int .u8 0), (.int .u8 0), (.int .u8 0), (.int .u8 0), (.int .u8 0), (.int .u8 0), (.int .u8 0), (.int .u8 0), (.int .u8 0), (.int .u8 0), (.int .u8 0), (.int .u8 0), (.int .u8 0), (.int .u8 0), (.int .u8 0), (.int .u8 0), (.int .u8 0), (.int .u8 0), (.int .u8 0), (.int .u8 0), (.int .u8 0), (.int .u8 0), (.int .u8 0), (.int .u8 0), (.int .u8 0), (.int .u8 0), (.int .u8 0), (.int .u8 0), (.int .u8 0), (.int .u8 0), (.int .u8 0), (.int .u8 0), (.int .u8 0), (.int .u8 0), (.int .u8 0), (.int .u8 0), (.int .u8 0), (.int .u8 0), (.int .u8 0), (.int .u8 0), (.int .u8 0), (.int .u8 0), (.int .u8 0), (.int .u8 0), (.int .u8 0), (.int .u8 0), (.int .u8 0), (.int .u8 0), (.int .u8 0), (.int .u8 0), (.int .u8 0), (.int .u8 0), (.int .u32 0)]) true (.tm 0), .tm, none⟩,
    ⟨.mov (.tm 0), .tm, none⟩,
    ⟨.extract (.tm 0) 0, .tm, none⟩,
    ⟨.extract (.tm 1) 1, .tm, none⟩,
    ⟨.new 50 70 [(.int .i64 0), (.int .i64 0), (.int .u64 0), (.int .u64 0), (.int .u64 0), (.int .u8 0), (.int .u8 0), (.int .u8 0), (.int .u8 0), (.int .u8 0), (.int .u8 0), (.int .u8 0), (.int .u8 0), (.int .u8 0), (.int .u8 0), (.int .u8 0), (.int .u8 0), (.int .u8 0), (.int .u8 0), (.int .u8 0), (.int .u8 0), (.int .u8 0), (.int .u8 0), (.int .u8 0), (.int .u8 0), (.int .u8 0), (.int .u8 0), (.int .u8 0), (.int .u8 0), (.int .u8 0), (.int .u8 0), (.int .u8 0), (.int .u8 0), (.int .u8 0), (.int .u8 0), (.int .u8 0), (.int .u8 0), (.int .u8 0), (.int .u8 0), (.int .u8 0), (.int .u8 0), (.int .u8 0), (.int .u8 0), (.int .u8 0), (.int .u8 0), (.int .u8 0), (.int .u8 0), (.int .u8 0), (.int .u8 0), (.int .u8 0), (.int .u8 0), (.int .u8 0), (.int .u8 0), (.int .u8 0), (.int .u8 0), (.int .u8 0), (.int .u8 0), (.int .u8 0), (.int .u8 0), (.int .u8 0), (.int .u8 0), (.int .u8 0), (.int .u8 0), (.int .u8 0), (.int .u8 0), (.int .u8 0), (.int .u8 0), (.int .u8 0), (.int .u8 0), (.int .u32 0)], .fr 3, none⟩,
    ⟨.storen 70 (.fr 3) (.tm 1), .no, none⟩,
    ⟨.mov (.tm 0), .fr 4, none⟩]) <|
    .seq (.reg [
    ⟨.loadn 70 (.fr 3), .tm, none⟩,
    ⟨.mov (.fr 4), .tm, none⟩,
    ⟨.storen 70 (.fr 1) (.tm 1), .no, none⟩,
    ⟨.mov (.tm 0), .fr 2, none⟩]) <|
    .ret⟩
/-- (*semaphore/relay.Relay).Shown -/
def e19 : EF := ⟨1, [0, 2, 3, 5], [.cn 2 1, .t 2],
    .seq (.reg [
    ⟨.new 35 2 [(.int .u64 0), (.int .u32 0)], .fr 1, none⟩,
    ⟨.mov (.c (.bool false)), .fr 2, none⟩]) <|
    .seq (.seq (.reg [
    ⟨.mov (.fr 0), .tm, none⟩,
    ⟨.eqv 1 false (.tm 0) (.c (.pointer none)), .fr 3, none⟩]) <|
    .cond (.fr 3)
      (.seq (.reg [
      ⟨.build [(.int .u64 0), (.int .u32 0)] [], .tm, none⟩,
      ⟨.storen 2 (.fr 1) (.tm 0), .no, none⟩,
      ⟨.mov (.c (.bool true)), .fr 2, none⟩]) <|
      .ret)
      (.skip)) <|
    .seq (.dreg [
    (⟨.mov (.fr 0), .tm, none⟩, []),
    (⟨.nilck (.tm 0), .tm, none⟩, []),
    (⟨.faddr 6 (.tm 0), .tm, none⟩, []),
    (⟨.loadn 2 (.tm 0), .tm, none⟩, []),
    (⟨.mov (.fr 0), .tm, none⟩, []),
    (⟨.nilck (.tm 0), .tm, none⟩, []),
    (⟨.faddr 5 (.tm 0), .tm, none⟩, []),
    (⟨.load1 (.tm 0), .tm, none⟩, []),
    (⟨.storen 2 (.fr 1) (.tm 4), .no, none⟩, [7]),
    (⟨.mov (.tm 0), .fr 2, none⟩, [])]) <|
    .ret⟩
/-- (*semaphore/relay.Relay).Cycle -/
def e20 : EF := ⟨1, [0, 2, 12], [.t 1],
    .seq (.reg [
    ⟨.mov (.c (.int .i64 0)), .fr 1, none⟩]) <|
    .seq (.seq (.reg [
    ⟨.mov (.fr 0), .tm, none⟩,
    ⟨.eqv 1 false (.tm 0) (.c (.pointer none)), .tm, none⟩,
    ⟨.mov (.tm 0), .tm, none⟩,
    ⟨.mov (.fr 0), .tm, some ((.tm 0), false)⟩,
    ⟨.nilck (.tm 0), .tm, some ((.tm 1), false)⟩,
    ⟨.faddr 0 (.tm 0), .tm, some ((.tm 2), false)⟩,
    ⟨.faddr 2 (.tm 0), .tm, some ((.tm 3), false)⟩,
    ⟨.load1 (.tm 0), .tm, some ((.tm 4), false)⟩,
    ⟨.eqv 6 false (.tm 0) (.c .nilIface), .tm, some ((.tm 5), false)⟩,
    ⟨.pick (.tm 6) (.c (.bool true)) (.tm 0), .fr 2, none⟩]) <|
    .cond (.fr 2)
      (.seq (.reg [
      ⟨.mov (.c (.int .i64 (-1))), .fr 1, none⟩]) <|
      .ret)
      (.skip)) <|
    .seq (.reg [
    ⟨.mov (.fr 0), .tm, none⟩,
    ⟨.nilck (.tm 0), .tm, none⟩,
    ⟨.faddr 0 (.tm 0), .tm, none⟩,
    ⟨.faddr 2 (.tm 0), .tm, none⟩,
    ⟨.load1 (.tm 0), .tm, none⟩,
    ⟨.assert 2 (.int .i64 0) false (.tm 0), .tm, none⟩,
    ⟨.mov (.tm 0), .fr 1, none⟩]) <|
    .ret⟩
/-- (semaphore/relay.fence).raised -/
def e26 : EF := ⟨3, [0, 1, 2, 3, 6, 7, 8, 24, 42], [.cn 3 4, .t 5],
    .seq (.reg [
    ⟨.box 58 3 (.fr 0), .fr 3, none⟩,
    ⟨.new 58 3 [(.int .i64 0), (.int .i64 0), .nilIface], .fr 4, none⟩,
    ⟨.mov (.c (.int .i64 0)), .fr 5, none⟩]) <|
    .seq (.block 0 (.seq (.reg [
      ⟨.mov (.fr 1), .tm, none⟩,
      ⟨.bin .lss (.tm 0) (.c (.int .i64 0)), .tm, none⟩,
      ⟨.mov (.tm 0), .tm, none⟩,
      ⟨.mov (.fr 1), .tm, some ((.tm 0), false)⟩,
      ⟨.bin .gtr (.tm 0) (.c (.int .i64 1)), .tm, some ((.tm 1), false)⟩,
      ⟨.pick (.tm 2) (.c (.bool true)) (.tm 0), .tm, none⟩,
      ⟨.mov (.tm 0), .tm, none⟩,
      ⟨.mov (.fr 2), .tm, some ((.tm 0), false)⟩,
      ⟨.bin .lss (.tm 0) (.c (.int .i64 1)), .tm, some ((.tm 1), false)⟩,
      ⟨.pick (.tm 2) (.c (.bool true)) (.tm 0), .tm, none⟩,
      ⟨.mov (.tm 0), .tm, none⟩,
      ⟨.mov (.fr 2), .tm, some ((.tm 0), false)⟩,
      ⟨.bin .gtr (.tm 0) (.c (.int .i64 1099511627776)), .tm, some ((.tm 1), false)⟩,
      ⟨.pick (.tm 2) (.c (.bool true)) (.tm 0), .tm, none⟩,
      ⟨.mov (.tm 0), .fr 6, none⟩]) <|
      .cond (.fr 6)
        (.seq (.reg [
        ⟨.loadn 3 (.fr 3), .tm, none⟩,
        ⟨.storen 3 (.fr 4) (.tm 0), .no, none⟩,
        ⟨.mov (.c (.int .i64 2)), .fr 5, none⟩]) <|
        .ret)
        (.seq (.reg [
        ⟨.mov (.fr 2), .tm, none⟩,
        ⟨.faddr 0 (.fr 3), .tm, none⟩,
        ⟨.load1 (.tm 0), .tm, none⟩,
        ⟨.bin .lss (.tm 2) (.tm 0), .tm, none⟩,
        ⟨.mov (.tm 0), .tm, none⟩,
        ⟨.mov (.fr 2), .tm, some ((.tm 0), false)⟩,
        ⟨.faddr 0 (.fr 3), .tm, some ((.tm 1), false)⟩,
        ⟨.load1 (.tm 0), .tm, some ((.tm 2), false)⟩,
        ⟨.bin .eql (.tm 2) (.tm 0), .tm, some ((.tm 3), false)⟩,
        ⟨.mov (.tm 0), .tm, some ((.tm 4), false)⟩,
        ⟨.mov (.fr 1), .tm, some ((.tm 0), true)⟩,
        ⟨.faddr 1 (.fr 3), .tm, some ((.tm 1), true)⟩,
        ⟨.load1 (.tm 0), .tm, some ((.tm 2), true)⟩,
        ⟨.bin .neq (.tm 2) (.tm 0), .tm, some ((.tm 3), true)⟩,
        ⟨.pick (.tm 4) (.tm 0) (.c (.bool false)), .tm, some ((.tm 9), false)⟩,
        ⟨.pick (.tm 10) (.c (.bool true)) (.tm 0), .tm, none⟩,
        ⟨.mov (.tm 0), .fr 7, none⟩]) <|
        .cond (.fr 7)
          (.seq (.reg [
          ⟨.loadn 3 (.fr 3), .tm, none⟩,
          ⟨.storen 3 (.fr 4) (.tm 0), .no, none⟩,
          ⟨.mov (.c (.int .i64 230)), .fr 5, none⟩]) <|
          .ret)
          (.seq (.reg [
          ⟨.mov (.fr 2), .tm, none⟩,
          ⟨.faddr 0 (.fr 3), .tm, none⟩,
          ⟨.load1 (.tm 0), .tm, none⟩,
          ⟨.bin .gtr (.tm 2) (.tm 0), .tm, none⟩,
          ⟨.mov (.tm 0), .fr 8, none⟩]) <|
          .cond (.fr 8)
            (.seq (.reg [
            ⟨.mov (.fr 2), .tm, none⟩,
            ⟨.mov (.fr 1), .tm, none⟩,
            ⟨.build [(.int .i64 0), (.int .i64 0), .nilIface] [(0, 1, (.tm 1)), (1, 1, (.tm 0))], .tm, none⟩,
            ⟨.storen 3 (.fr 4) (.tm 0), .no, none⟩,
            ⟨.mov (.c (.int .i64 0)), .fr 5, none⟩]) <|
            .ret)
            (.skip))))) <|
    .seq (.reg [
    ⟨.loadn 3 (.fr 3), .tm, none⟩,
    ⟨.storen 3 (.fr 4) (.tm 0), .no, none⟩,
    ⟨.mov (.c (.int .i64 0)), .fr 5, none⟩]) <|
    .ret⟩
/-- (*semaphore/relay.Relay).stop -/
def e27 : EF := ⟨1, [0], [],
    .seq (.reg [
    ⟨.mov (.fr 0), .tm, none⟩,
    ⟨.nilck (.tm 0), .tm, none⟩,
    ⟨.faddr 5 (.tm 0), .tm, none⟩,
    ⟨.store1 (.tm 0) (.c (.bool true)), .no, none⟩]) <|
    .reg [
    ⟨.mov (.fr 0), .tm, none⟩,
    ⟨.nilck (.tm 0), .tm, none⟩,
    ⟨.faddr 6 (.tm 0), .tm, none⟩,
    ⟨.faddr 0 (.tm 0), .tm, none⟩,
    ⟨.store1 (.tm 0) (.c (.int .u64 0)), .no, none⟩]⟩
theorem e6_ok : e6.ok Go.Proofs.Try.prog 0 6 := ok_of (by unfold EFok; kernel_rfl) (by kernel_rfl)
theorem e7_ok : e7.ok Go.Proofs.Try.prog 0 7 := ok_of (by unfold EFok; kernel_rfl) (by kernel_rfl)
theorem e13_ok : e13.ok Go.Proofs.Try.prog 0 13 := ok_of (by unfold EFok; kernel_rfl) (by kernel_rfl)
theorem e14_ok : e14.ok Go.Proofs.Try.prog 0 14 := ok_of (by unfold EFok; kernel_rfl) (by kernel_rfl)
theorem e15_ok : e15.ok Go.Proofs.Try.prog 0 15 := ok_of (by unfold EFok; kernel_rfl) (by kernel_rfl)
theorem e16_ok : e16.ok Go.Proofs.Try.prog 0 16 := ok_of (by unfold EFok; kernel_rfl) (by kernel_rfl)
theorem e17_ok : e17.ok Go.Proofs.Try.prog 0 17 := ok_of (by unfold EFok; kernel_rfl) (by kernel_rfl)
theorem e18_ok : e18.ok Go.Proofs.Try.prog 0 18 := ok_of (by unfold EFok; kernel_rfl) (by kernel_rfl)
theorem e19_ok : e19.ok Go.Proofs.Try.prog 0 19 := ok_of (by unfold EFok; kernel_rfl) (by kernel_rfl)
theorem e20_ok : e20.ok Go.Proofs.Try.prog 0 20 := ok_of (by unfold EFok; kernel_rfl) (by kernel_rfl)
theorem e26_ok : e26.ok Go.Proofs.Try.prog 0 26 := ok_of (by unfold EFok; kernel_rfl) (by kernel_rfl)
theorem e27_ok : e27.ok Go.Proofs.Try.prog 0 27 := ok_of (by unfold EFok; kernel_rfl) (by kernel_rfl)
def tab : FT := (.node 17 e17 (.node 14 e14 (.node 7 e7 (.node 6 e6 .leaf .leaf) (.node 13 e13 .leaf .leaf)) (.node 16 e16 (.node 15 e15 .leaf .leaf) .leaf)) (.node 20 e20 (.node 19 e19 (.node 18 e18 .leaf .leaf) .leaf) (.node 27 e27 (.node 26 e26 .leaf .leaf) .leaf)))
theorem tab_ok : tab.ok Go.Proofs.Try.prog 0 := ⟨e17_ok, ⟨e14_ok, ⟨e7_ok, ⟨e6_ok, trivial, trivial⟩, ⟨e13_ok, trivial, trivial⟩⟩, ⟨e16_ok, ⟨e15_ok, trivial, trivial⟩, trivial⟩⟩, ⟨e20_ok, ⟨e19_ok, ⟨e18_ok, trivial, trivial⟩, trivial⟩, ⟨e27_ok, ⟨e26_ok, trivial, trivial⟩, trivial⟩⟩⟩
end Go.AM.RlT
