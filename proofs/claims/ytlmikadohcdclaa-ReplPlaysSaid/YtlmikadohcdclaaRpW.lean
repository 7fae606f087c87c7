/- The functions' code for the evaluator (printed by program), and that it is what they compile to. -/
import Derived.Test.YtlmikadohcdclaaAmZ2
import Derived.Test.YtlmikadohcdclaaProg
import Derived.KernelRfl
set_option linter.unusedSimpArgs false
set_option linter.unusedVariables false
set_option maxRecDepth 100000
namespace Go.AM.RpT
open Go.Proofs
def EFok (P : Program) (ng k : Nat) (f : EF) : Prop := ((compF P ng f.sl k).map fun af => (af.sl, af.res, simpC af.body)) = some (f.sl, f.res, f.body)
theorem ok_of {P : Program} {ng k : Nat} {f : EF} (h : EFok P ng k f) (ha : argsOK P k f.na = true) : f.ok P ng k := by
  unfold EFok at h
  simp only [Option.map_eq_some_iff, Prod.mk.injEq] at h
  obtain ⟨af, h1, h2, h3, h4⟩ := h
  exact ⟨af, h1, h2, h3, h4, ha⟩
/-- semaphore/semaphorelaw25.works -/
def e8 : EF := ⟨0, [0, 1, 2, 3, 4, 5, 6, 7, 8, 9, 10, 11, 13, 14, 15, 16], [.t 0],
    .seq (.reg [
    ⟨.mov (.c (.bool false)), .fr 0, none⟩]) <|
    .seq (.reg [
    ⟨.new 48 2 [(.slice none 0 0), (.int .i64 0)], .fr 1, none⟩]) <|
    .seq (.reg [
    ⟨.new 51 1 [(.pointer none)], .fr 2, none⟩]) <|
    .seq (.reg [
    ⟨.build [(.int .u64 0), (.int .u64 0), (.int .u64 0), (.int .u8 0), (.int .u8 0), (.int .u8 0), (.int .u8 0), (.int .u8 0), (.int .u8 0), (.int .u8 0), (.int .u8 0), (.int .u8 0), (.int .u8 0), (.int .u8 0), (.int .u8 0), (.int .u8 0), (.int .u8 0), (.int .u8 0), (.int .u8 0), (.int .u8 0), (.int .u8 0), (.int .u8 0), (.int .u8 0), (.int .u8 0), (.int .u8 0), (.int .u8 0), (.int .u8 0), (.int .u8 0), (.int .u8 0), (.int .u8 0), (.int .u8 0), (.int .u8 0), (.int .u8 0), (.int .u8 0), (.int .u8 0), (.int .u8 0), (.int .u8 0), (.int .u8 0), (.int .u8 0), (.int .u8 0), (.int .u8 0), (.int .u8 0), (.int .u8 0), (.int .u8 0), (.int .u8 0), (.int .u8 0), (.int .u8 0), (.int .u8 0), (.int .u8 0), (.int .u8 0), (.int .u8 0), (.int .u8 0), (.int .u8 0), (.int .u8 0), (.int .u8 0), (.int .u8 0), (.int .u8 0), (.int .u8 0), (.int .u8 0), (.int .u8 0), (.int .u8 0), (.int .u8 0), (.int .u8 0), (.int .u8 0), (.int .u8 0), (.int .u8 0), (.int .u8 0), (.int .u32 0)] [(0, 1, (.c (.int .u64 3)))], .tm, none⟩,
    ⟨.build [(.int .i64 0), (.int .i64 0), (.int .u64 0), (.int .u64 0), (.int .u64 0), (.int .u8 0), (.int .u8 0), (.int .u8 0), (.int .u8 0), (.int .u8 0), (.int .u8 0), (.int .u8 0), (.int .u8 0), (.int .u8 0), (.int .u8 0), (.int .u8 0), (.int .u8 0), (.int .u8 0), (.int .u8 0), (.int .u8 0), (.int .u8 0), (.int .u8 0), (.int .u8 0), (.int .u8 0), (.int .u8 0), (.int .u8 0), (.int .u8 0), (.int .u8 0), (.int .u8 0), (.int .u8 0), (.int .u8 0), (.int .u8 0), (.int .u8 0), (.int .u8 0), (.int .u8 0), (.int .u8 0), (.int .u8 0), (.int .u8 0), (.int .u8 0), (.int .u8 0), (.int .u8 0), (.int .u8 0), (.int .u8 0), (.int .u8 0), (.int .u8 0), (.int .u8 0), (.int .u8 0), (.int .u8 0), (.int .u8 0), (.int .u8 0), (.int .u8 0), (.int .u8 0), (.int .u8 0), (.int .u8 0), (.int .u8 0), (.int .u8 0), (.int .u8 0), (.int .u8 0), (.int .u8 0), (.int .u8 0), (.int .u8 0), (.int .u8 0), (.int .u8 0), (.int .u8 0), (.int .u8 0), (.int .u8 0), (.int .u8 0), (.int .u8 0), (.int .u8 0), (.int .u32 0)] [(0, 1, (.c (.int .i64 1))), (1, 1, (.c (.int .i64 5))), (2, 68, (.tm 0))], .tm, none⟩,
    ⟨.callf 15 [(.fr 1), (.tm 0)], .tm, none⟩,
    ⟨.mov (.tm 0), .fr 3, none⟩]) <|
    .seq (.reg [
    ⟨.callf 16 [(.fr 1)], .tm, none⟩,
    ⟨.mov (.tm 0), .tm, none⟩,
    ⟨.extract (.tm 0) 0, .tm, none⟩,
    ⟨.extract (.tm 1) 1, .tm, none⟩,
    ⟨.new 41 78 [(.int .u8 0), (.int .i64 0), (.int .i64 0), (.int .i64 0), (.int .i64 0), (.int .u64 0), (.int .u64 0), (.int .u64 0), (.int .u8 0), (.int .u8 0), (.int .u8 0), (.int .u8 0), (.int .u8 0), (.int .u8 0), (.int .u8 0), (.int .u8 0), (.int .u8 0), (.int .u8 0), (.int .u8 0), (.int .u8 0), (.int .u8 0), (.int .u8 0), (.int .u8 0), (.int .u8 0), (.int .u8 0), (.int .u8 0), (.int .u8 0), (.int .u8 0), (.int .u8 0), (.int .u8 0), (.int .u8 0), (.int .u8 0), (.int .u8 0), (.int .u8 0), (.int .u8 0), (.int .u8 0), (.int .u8 0), (.int .u8 0), (.int .u8 0), (.int .u8 0), (.int .u8 0), (.int .u8 0), (.int .u8 0), (.int .u8 0), (.int .u8 0), (.int .u8 0), (.int .u8 0), (.int .u8 0), (.int .u8 0), (.int .u8 0), (.int .u8 0), (.int .u8 0), (.int .u8 0), (.int .u8 0), (.int .u8 0), (.int .u8 0), (.int .u8 0), (.int .u8 0), (.int .u8 0), (.int .u8 0), (.int .u8 0), (.int .u8 0), (.int .u8 0), (.int .u8 0), (.int .u8 0), (.int .u8 0), (.int .u8 0), (.int .u8 0), (.int .u8 0), (.int .u8 0), (.int .u8 0), (.int .u8 0), (.int .u32 0), (.int .u64 0), (.int .u64 0), (.int .u64 0), (.int .u32 0), (.slice none 0 0)], .fr 4, none⟩,
    ⟨.storen 78 (.fr 4) (.tm 1), .no, none⟩,
    ⟨.mov (.tm 0), .fr 5, none⟩]) <|
    .seq (.reg [
    ⟨.loadn 78 (.fr 4), .tm, none⟩,
    ⟨.callf 17 [(.fr 2), (.tm 0)], .tm, none⟩,
    ⟨.mov (.tm 0), .tm, none⟩,
    ⟨.extract (.tm 0) 0, .tm, none⟩,
    ⟨.extract (.tm 1) 1, .tm, none⟩,
    ⟨.extract (.tm 2) 2, .tm, none⟩,
    ⟨.new 41 78 [(.int .u8 0), (.int .i64 0), (.int .i64 0), (.int .i64 0), (.int .i64 0), (.int .u64 0), (.int .u64 0), (.int .u64 0), (.int .u8 0), (.int .u8 0), (.int .u8 0), (.int .u8 0), (.int .u8 0), (.int .u8 0), (.int .u8 0), (.int .u8 0), (.int .u8 0), (.int .u8 0), (.int .u8 0), (.int .u8 0), (.int .u8 0), (.int .u8 0), (.int .u8 0), (.int .u8 0), (.int .u8 0), (.int .u8 0), (.int .u8 0), (.int .u8 0), (.int .u8 0), (.int .u8 0), (.int .u8 0), (.int .u8 0), (.int .u8 0), (.int .u8 0), (.int .u8 0), (.int .u8 0), (.int .u8 0), (.int .u8 0), (.int .u8 0), (.int .u8 0), (.int .u8 0), (.int .u8 0), (.int .u8 0), (.int .u8 0), (.int .u8 0), (.int .u8 0), (.int .u8 0), (.int .u8 0), (.int .u8 0), (.int .u8 0), (.int .u8 0), (.int .u8 0), (.int .u8 0), (.int .u8 0), (.int .u8 0), (.int .u8 0), (.int .u8 0), (.int .u8 0), (.int .u8 0), (.int .u8 0), (.int .u8 0), (.int .u8 0), (.int .u8 0), (.int .u8 0), (.int .u8 0), (.int .u8 0), (.int .u8 0), (.int .u8 0), (.int .u8 0), (.int .u8 0), (.int .u8 0), (.int .u8 0), (.int .u32 0), (.int .u64 0), (.int .u64 0), (.int .u64 0), (.int .u32 0), (.slice none 0 0)], .fr 6, none⟩,
    ⟨.storen 78 (.fr 6) (.tm 2), .no, none⟩,
    ⟨.mov (.tm 1), .fr 7, none⟩,
    ⟨.mov (.tm 0), .fr 8, none⟩]) <|
    .seq (.reg [
    ⟨.loadn 78 (.fr 6), .tm, none⟩,
    ⟨.callf 19 [(.fr 1), (.tm 0)], .tm, none⟩,
    ⟨.mov (.tm 0), .fr 9, none⟩]) <|
    .seq (.reg [
    ⟨.build [(.int .u64 0), (.int .u64 0), (.int .u64 0), (.int .u8 0), (.int .u8 0), (.int .u8 0), (.int .u8 0), (.int .u8 0), (.int .u8 0), (.int .u8 0), (.int .u8 0), (.int .u8 0), (.int .u8 0), (.int .u8 0), (.int .u8 0), (.int .u8 0), (.int .u8 0), (.int .u8 0), (.int .u8 0), (.int .u8 0), (.int .u8 0), (.int .u8 0), (.int .u8 0), (.int .u8 0), (.int .u8 0), (.int .u8 0), (.int .u8 0), (.int .u8 0), (.int .u8 0), (.int .u8 0), (.int .u8 0), (.int .u8 0), (.int .u8 0), (.int .u8 0), (.int .u8 0), (.int .u8 0), (.int .u8 0), (.int .u8 0), (.int .u8 0), (.int .u8 0), (.int .u8 0), (.int .u8 0), (.int .u8 0), (.int .u8 0), (.int .u8 0), (.int .u8 0), (.int .u8 0), (.int .u8 0), (.int .u8 0), (.int .u8 0), (.int .u8 0), (.int .u8 0), (.int .u8 0), (.int .u8 0), (.int .u8 0), (.int .u8 0), (.int .u8 0), (.int .u8 0), (.int .u8 0), (.int .u8 0), (.int .u8 0), (.int .u8 0), (.int .u8 0), (.int .u8 0), (.int .u8 0), (.int .u8 0), (.int .u8 0), (.int .u32 0)] [(0, 1, (.c (.int .u64 7)))], .tm, none⟩,
    ⟨.build [(.int .i64 0), (.int .i64 0), (.int .u64 0), (.int .u64 0), (.int .u64 0), (.int .u8 0), (.int .u8 0), (.int .u8 0), (.int .u8 0), (.int .u8 0), (.int .u8 0), (.int .u8 0), (.int .u8 0), (.int .u8 0), (.int .u8 0), (.int .u8 0), (.int .u8 0), (.int .u8 0), (.int .u8 0), (.int .u8 0), (.int .u8 0), (.int .u8 0), (.int .u8 0), (.int .u8 0), (.int .u8 0), (.int .u8 0), (.int .u8 0), (.int .u8 0), (.int .u8 0), (.int .u8 0), (.int .u8 0), (.int .u8 0), (.int .u8 0), (.int .u8 0), (.int .u8 0), (.int .u8 0), (.int .u8 0), (.int .u8 0), (.int .u8 0), (.int .u8 0), (.int .u8 0), (.int .u8 0), (.int .u8 0), (.int .u8 0), (.int .u8 0), (.int .u8 0), (.int .u8 0), (.int .u8 0), (.int .u8 0), (.int .u8 0), (.int .u8 0), (.int .u8 0), (.int .u8 0), (.int .u8 0), (.int .u8 0), (.int .u8 0), (.int .u8 0), (.int .u8 0), (.int .u8 0), (.int .u8 0), (.int .u8 0), (.int .u8 0), (.int .u8 0), (.int .u8 0), (.int .u8 0), (.int .u8 0), (.int .u8 0), (.int .u8 0), (.int .u8 0), (.int .u32 0)] [(0, 1, (.c (.int .i64 1))), (1, 1, (.c (.int .i64 6))), (2, 68, (.tm 0))], .tm, none⟩,
    ⟨.callf 15 [(.fr 1), (.tm 0)], .tm, none⟩]) <|
    .seq (.reg [
    ⟨.callf 16 [(.fr 1)], .tm, none⟩,
    ⟨.mov (.tm 0), .tm, none⟩,
    ⟨.extract (.tm 0) 0, .tm, none⟩,
    ⟨.extract (.tm 1) 1, .tm, none⟩,
    ⟨.new 41 78 [(.int .u8 0), (.int .i64 0), (.int .i64 0), (.int .i64 0), (.int .i64 0), (.int .u64 0), (.int .u64 0), (.int .u64 0), (.int .u8 0), (.int .u8 0), (.int .u8 0), (.int .u8 0), (.int .u8 0), (.int .u8 0), (.int .u8 0), (.int .u8 0), (.int .u8 0), (.int .u8 0), (.int .u8 0), (.int .u8 0), (.int .u8 0), (.int .u8 0), (.int .u8 0), (.int .u8 0), (.int .u8 0), (.int .u8 0), (.int .u8 0), (.int .u8 0), (.int .u8 0), (.int .u8 0), (.int .u8 0), (.int .u8 0), (.int .u8 0), (.int .u8 0), (.int .u8 0), (.int .u8 0), (.int .u8 0), (.int .u8 0), (.int .u8 0), (.int .u8 0), (.int .u8 0), (.int .u8 0), (.int .u8 0), (.int .u8 0), (.int .u8 0), (.int .u8 0), (.int .u8 0), (.int .u8 0), (.int .u8 0), (.int .u8 0), (.int .u8 0), (.int .u8 0), (.int .u8 0), (.int .u8 0), (.int .u8 0), (.int .u8 0), (.int .u8 0), (.int .u8 0), (.int .u8 0), (.int .u8 0), (.int .u8 0), (.int .u8 0), (.int .u8 0), (.int .u8 0), (.int .u8 0), (.int .u8 0), (.int .u8 0), (.int .u8 0), (.int .u8 0), (.int .u8 0), (.int .u8 0), (.int .u8 0), (.int .u32 0), (.int .u64 0), (.int .u64 0), (.int .u64 0), (.int .u32 0), (.slice none 0 0)], .fr 10, none⟩,
    ⟨.storen 78 (.fr 10) (.tm 1), .no, none⟩,
    ⟨.mov (.tm 0), .fr 11, none⟩]) <|
    .seq (.reg [
    ⟨.loadn 78 (.fr 10), .tm, none⟩,
    ⟨.callf 17 [(.fr 2), (.tm 0)], .tm, none⟩,
    ⟨.mov (.tm 0), .tm, none⟩,
    ⟨.extract (.tm 0) 0, .tm, none⟩,
    ⟨.extract (.tm 1) 1, .tm, none⟩,
    ⟨.extract (.tm 2) 2, .tm, none⟩,
    ⟨.new 41 78 [(.int .u8 0), (.int .i64 0), (.int .i64 0), (.int .i64 0), (.int .i64 0), (.int .u64 0), (.int .u64 0), (.int .u64 0), (.int .u8 0), (.int .u8 0), (.int .u8 0), (.int .u8 0), (.int .u8 0), (.int .u8 0), (.int .u8 0), (.int .u8 0), (.int .u8 0), (.int .u8 0), (.int .u8 0), (.int .u8 0), (.int .u8 0), (.int .u8 0), (.int .u8 0), (.int .u8 0), (.int .u8 0), (.int .u8 0), (.int .u8 0), (.int .u8 0), (.int .u8 0), (.int .u8 0), (.int .u8 0), (.int .u8 0), (.int .u8 0), (.int .u8 0), (.int .u8 0), (.int .u8 0), (.int .u8 0), (.int .u8 0), (.int .u8 0), (.int .u8 0), (.int .u8 0), (.int .u8 0), (.int .u8 0), (.int .u8 0), (.int .u8 0), (.int .u8 0), (.int .u8 0), (.int .u8 0), (.int .u8 0), (.int .u8 0), (.int .u8 0), (.int .u8 0), (.int .u8 0), (.int .u8 0), (.int .u8 0), (.int .u8 0), (.int .u8 0), (.int .u8 0), (.int .u8 0), (.int .u8 0), (.int .u8 0), (.int .u8 0), (.int .u8 0), (.int .u8 0), (.int .u8 0), (.int .u8 0), (.int .u8 0), (.int .u8 0), (.int .u8 0), (.int .u8 0), (.int .u8 0), (.int .u8 0), (.int .u32 0), (.int .u64 0), (.int .u64 0), (.int .u64 0), (.int .u32 0), (.slice none 0 0)], .tm, none⟩,
    ⟨.storen 78 (.tm 0) (.tm 3), .no, none⟩,
    ⟨.mov (.tm 2), .fr 12, none⟩,
    ⟨.mov (.tm 1), .fr 13, none⟩]) <|
    .seq (.reg [
    ⟨.callf 20 [(.fr 2)], .tm, none⟩,
    ⟨.mov (.tm 0), .tm, none⟩,
    ⟨.extract (.tm 0) 0, .tm, none⟩,
    ⟨.extract (.tm 1) 1, .tm, none⟩,
    ⟨.new 54 70 [(.int .i64 0), (.int .i64 0), (.int .u64 0), (.int .u64 0), (.int .u64 0), (.int .u8 0), (.int .u8 0), (.int .u8 0), (.int .u8 0), (.int .u8 0), (.int .u8 0), (.int .u8 0), (.int .u8 0), (.int .u8 0), (.int .u8 0), (.int .u8 0), (.int .u8 0), (.int .u8 0), (.int .u8 0), (.int .u8 0), (.int .u8 0), (.int .u8 0), (.int .u8 0), (.int .u8 0), (.int .u8 0), (.int .u8 0), (.int .u8 0), (.int .u8 0), (.int .u8 0), (.int .u8 0), (.int .u8 0), (.int .u8 0), (.int .u8 0), (.int .u8 0), (.int .u8 0), (.int .u8 0), (.int .u8 0), (.int .u8 0), (.int .u8 0), (.int .u8 0), (.int .u8 0), (.int .u8 0), (.int .u8 0), (.int .u8 0), (.int .u8 0), (.int .u8 0), (.int .u8 0), (.int .u8 0), (.int .u8 0), (.int .u8 0), (.int .u8 0), (.int .u8 0), (.int .u8 0), (.int .u8 0), (.int .u8 0), (.int .u8 0), (.int .u8 0), (.int .u8 0), (.int .u8 0), (.int .u8 0), (.int .u8 0), (.int .u8 0), (.int .u8 0), (.int .u8 0), (.int .u8 0), (.int .u8 0), (.int .u8 0), (.int .u8 0), (.int .u8 0), (.int .u32 0)], .fr 14, none⟩,
    ⟨.storen 70 (.fr 14) (.tm 1), .no, none⟩,
    ⟨.mov (.tm 0), .fr 15, none⟩]) <|
    .seq (.reg [
    ⟨.mov (.fr 3), .tm, none⟩,
    ⟨.bin .eql (.tm 0) (.c (.int .i64 0)), .tm, none⟩,
    ⟨.mov (.tm 0), .tm, none⟩,
    ⟨.mov (.fr 5), .tm, some ((.tm 0), true)⟩,
    ⟨.pick (.tm 1) (.tm 0) (.c (.bool false)), .tm, none⟩,
    ⟨.mov (.tm 0), .tm, none⟩,
    ⟨.faddr 0 (.fr 4), .tm, some ((.tm 0), true)⟩,
    ⟨.load1 (.tm 0), .tm, some ((.tm 1), true)⟩,
    ⟨.bin .eql (.tm 0) (.c (.int .u8 1)), .tm, some ((.tm 2), true)⟩,
    ⟨.pick (.tm 3) (.tm 0) (.c (.bool false)), .tm, none⟩,
    ⟨.mov (.tm 0), .tm, none⟩,
    ⟨.mov (.fr 7), .tm, some ((.tm 0), true)⟩,
    ⟨.pick (.tm 1) (.tm 0) (.c (.bool false)), .tm, none⟩,
    ⟨.mov (.tm 0), .tm, none⟩,
    ⟨.mov (.fr 8), .tm, some ((.tm 0), true)⟩,
    ⟨.bin .eql (.tm 0) (.c (.int .i64 0)), .tm, some ((.tm 1), true)⟩,
    ⟨.pick (.tm 2) (.tm 0) (.c (.bool false)), .tm, none⟩,
    ⟨.mov (.tm 0), .tm, none⟩,
    ⟨.faddr 0 (.fr 6), .tm, some ((.tm 0), true)⟩,
    ⟨.load1 (.tm 0), .tm, some ((.tm 1), true)⟩,
    ⟨.bin .eql (.tm 0) (.c (.int .u8 3)), .tm, some ((.tm 2), true)⟩,
    ⟨.pick (.tm 3) (.tm 0) (.c (.bool false)), .tm, none⟩,
    ⟨.mov (.tm 0), .tm, none⟩,
    ⟨.mov (.fr 9), .tm, some ((.tm 0), true)⟩,
    ⟨.bin .eql (.tm 0) (.c (.int .i64 0)), .tm, some ((.tm 1), true)⟩,
    ⟨.pick (.tm 2) (.tm 0) (.c (.bool false)), .tm, none⟩,
    ⟨.mov (.tm 0), .tm, none⟩,
    ⟨.mov (.fr 11), .tm, some ((.tm 0), true)⟩,
    ⟨.pick (.tm 1) (.tm 0) (.c (.bool false)), .tm, none⟩,
    ⟨.mov (.tm 0), .tm, none⟩,
    ⟨.faddr 0 (.fr 10), .tm, some ((.tm 0), true)⟩,
    ⟨.load1 (.tm 0), .tm, some ((.tm 1), true)⟩,
    ⟨.bin .eql (.tm 0) (.c (.int .u8 2)), .tm, some ((.tm 2), true)⟩,
    ⟨.pick (.tm 3) (.tm 0) (.c (.bool false)), .tm, none⟩,
    ⟨.mov (.tm 0), .tm, none⟩,
    ⟨.faddr 73 (.fr 10), .tm, some ((.tm 0), true)⟩,
    ⟨.faddr 0 (.tm 0), .tm, some ((.tm 1), true)⟩,
    ⟨.load1 (.tm 0), .tm, some ((.tm 2), true)⟩,
    ⟨.bin .eql (.tm 0) (.c (.int .u64 4)), .tm, some ((.tm 3), true)⟩,
    ⟨.pick (.tm 4) (.tm 0) (.c (.bool false)), .tm, none⟩,
    ⟨.mov (.tm 0), .tm, none⟩,
    ⟨.faddr 4 (.fr 10), .tm, some ((.tm 0), true)⟩,
    ⟨.load1 (.tm 0), .tm, some ((.tm 1), true)⟩,
    ⟨.bin .eql (.tm 0) (.c (.int .i64 5)), .tm, some ((.tm 2), true)⟩,
    ⟨.pick (.tm 3) (.tm 0) (.c (.bool false)), .tm, none⟩,
    ⟨.mov (.tm 0), .tm, none⟩,
    ⟨.mov (.fr 12), .tm, some ((.tm 0), true)⟩,
    ⟨.pick (.tm 1) (.tm 0) (.c (.bool false)), .tm, none⟩,
    ⟨.mov (.tm 0), .tm, none⟩,
    ⟨.mov (.fr 13), .tm, some ((.tm 0), true)⟩,
    ⟨.bin .eql (.tm 0) (.c (.int .i64 0)), .tm, some ((.tm 1), true)⟩,
    ⟨.pick (.tm 2) (.tm 0) (.c (.bool false)), .tm, none⟩,
    ⟨.mov (.tm 0), .tm, none⟩,
    ⟨.mov (.fr 15), .tm, some ((.tm 0), true)⟩,
    ⟨.pick (.tm 1) (.tm 0) (.c (.bool false)), .tm, none⟩,
    ⟨.mov (.tm 0), .tm, none⟩,
    ⟨.faddr 1 (.fr 14), .tm, some ((.tm 0), true)⟩,
    ⟨.load1 (.tm 0), .tm, some ((.tm 1), true)⟩,
    ⟨.bin .eql (.tm 0) (.c (.int .i64 6)), .tm, some ((.tm 2), true)⟩,
    ⟨.pick (.tm 3) (.tm 0) (.c (.bool false)), .tm, none⟩,
    ⟨.mov (.tm 0), .tm, none⟩,
    ⟨.faddr 2 (.fr 14), .tm, some ((.tm 0), true)⟩,
    ⟨.faddr 0 (.tm 0), .tm, some ((.tm 1), true)⟩,
    ⟨.load1 (.tm 0), .tm, some ((.tm 2), true)⟩,
    ⟨.bin .eql (.tm 0) (.c (.int .u64 7)), .tm, some ((.tm 3), true)⟩,
    ⟨.pick (.tm 4) (.tm 0) (.c (.bool false)), .tm, none⟩,
    ⟨.mov (.tm 0), .fr 0, none⟩]) <|
    .ret⟩
/-- semaphore/repl.Diff -/
def e9 : EF := ⟨2, [0, 1, 2, 3, 4, 5, 6, 7, 30, 31, 32, 40], [.cn 5 4],
    .seq (.reg [
    ⟨.box 26 68 (.fr 0), .fr 2, none⟩,
    ⟨.box 26 68 (.fr 1), .fr 3, none⟩,
    ⟨.new 29 5 [(.int .u64 0), (.int .u64 0), (.int .u64 0), (.int .u32 0), (.slice none 0 0)], .fr 4, none⟩]) <|
    .seq (.reg [
    ⟨.faddr 0 (.fr 2), .tm, none⟩,
    ⟨.load1 (.tm 0), .tm, none⟩,
    ⟨.faddr 0 (.fr 3), .tm, none⟩,
    ⟨.load1 (.tm 0), .tm, none⟩,
    ⟨.bin .xor (.tm 2) (.tm 0), .tm, none⟩,
    ⟨.faddr 1 (.fr 2), .tm, none⟩,
    ⟨.load1 (.tm 0), .tm, none⟩,
    ⟨.faddr 1 (.fr 3), .tm, none⟩,
    ⟨.load1 (.tm 0), .tm, none⟩,
    ⟨.bin .xor (.tm 2) (.tm 0), .tm, none⟩,
    ⟨.faddr 2 (.fr 2), .tm, none⟩,
    ⟨.load1 (.tm 0), .tm, none⟩,
    ⟨.faddr 2 (.fr 3), .tm, none⟩,
    ⟨.load1 (.tm 0), .tm, none⟩,
    ⟨.bin .xor (.tm 2) (.tm 0), .tm, none⟩,
    ⟨.faddr 67 (.fr 2), .tm, none⟩,
    ⟨.load1 (.tm 0), .tm, none⟩,
    ⟨.faddr 67 (.fr 3), .tm, none⟩,
    ⟨.load1 (.tm 0), .tm, none⟩,
    ⟨.bin .xor (.tm 2) (.tm 0), .tm, none⟩,
    ⟨.build [(.int .u64 0), (.int .u64 0), (.int .u64 0), (.int .u32 0), (.slice none 0 0)] [(0, 1, (.tm 15)), (1, 1, (.tm 10)), (2, 1, (.tm 5)), (3, 1, (.tm 0))], .tm, none⟩,
    ⟨.new 29 5 [(.int .u64 0), (.int .u64 0), (.int .u64 0), (.int .u32 0), (.slice none 0 0)], .fr 5, none⟩,
    ⟨.storen 5 (.fr 5) (.tm 0), .no, none⟩]) <|
    .seq (.seq (.reg [
    ⟨.faddr 3 (.fr 3), .tm, none⟩,
    ⟨.loadn 64 (.tm 0), .fr 8, none⟩,
    ⟨.mov (.c (.int .i64 0)), .fr 9, none⟩]) <|
    .block 0 (.loop (.seq (.reg [
        ⟨.bin .lss (.fr 9) (.c (.int .i64 64)), .fr 10, none⟩]) <|
        .seq (.cond (.fr 10)
          (.skip)
          (.exit 0)) <|
        .seq (.block 1 (.seq (.reg [
          ⟨.mov (.fr 9), .tm, none⟩,
          ⟨.idxa false 1 64 (.fr 8) (.fr 9), .tm, none⟩,
          ⟨.mov (.tm 1), .fr 6, none⟩,
          ⟨.mov (.tm 0), .fr 7, none⟩]) <|
          .seq (.reg [
          ⟨.mov (.fr 7), .tm, none⟩,
          ⟨.mov (.fr 6), .tm, none⟩,
          ⟨.faddr 3 (.fr 2), .tm, none⟩,
          ⟨.iaddrp 1 64 (.tm 0) (.tm 1), .tm, none⟩,
          ⟨.load1 (.tm 0), .tm, none⟩,
          ⟨.bin .neq (.tm 4) (.tm 0), .fr 11, none⟩]) <|
          .cond (.fr 11)
            (.reg [
            ⟨.faddr 4 (.fr 5), .tm, none⟩,
            ⟨.load1 (.tm 0), .tm, none⟩,
            ⟨.mov (.fr 6), .tm, none⟩,
            ⟨.mov (.fr 7), .tm, none⟩,
            ⟨.build [(.int .i64 0), (.int .u8 0)] [(0, 1, (.tm 1)), (1, 1, (.tm 0))], .tm, none⟩,
            ⟨.bslice 90 2 1 [(.int .i64 0), (.int .u8 0)] [(0, 2, (.tm 0))], .tm, none⟩,
            ⟨.app 90 2 16 (.tm 4) (.tm 0), .tm, none⟩,
            ⟨.faddr 4 (.fr 5), .tm, none⟩,
            ⟨.store1 (.tm 0) (.tm 1), .no, none⟩])
            (.skip))) <|
        .reg [
        ⟨.bin .add (.fr 9) (.c (.int .i64 1)), .tm, none⟩,
        ⟨.mov (.tm 0), .fr 9, none⟩]))) <|
    .seq (.reg [
    ⟨.loadn 5 (.fr 5), .tm, none⟩,
    ⟨.storen 5 (.fr 4) (.tm 0), .no, none⟩]) <|
    .ret⟩
/-- semaphore/repl.Patch -/
def e10 : EF := ⟨2, [0, 1, 2, 3, 4, 5, 7, 10, 37, 38, 39, 40], [.cn 68 4, .t 5],
    .seq (.reg [
    ⟨.box 26 68 (.fr 0), .fr 2, none⟩,
    ⟨.box 29 5 (.fr 1), .fr 3, none⟩,
    ⟨.new 26 68 [(.int .u64 0), (.int .u64 0), (.int .u64 0), (.int .u8 0), (.int .u8 0), (.int .u8 0), (.int .u8 0), (.int .u8 0), (.int .u8 0), (.int .u8 0), (.int .u8 0), (.int .u8 0), (.int .u8 0), (.int .u8 0), (.int .u8 0), (.int .u8 0), (.int .u8 0), (.int .u8 0), (.int .u8 0), (.int .u8 0), (.int .u8 0), (.int .u8 0), (.int .u8 0), (.int .u8 0), (.int .u8 0), (.int .u8 0), (.int .u8 0), (.int .u8 0), (.int .u8 0), (.int .u8 0), (.int .u8 0), (.int .u8 0), (.int .u8 0), (.int .u8 0), (.int .u8 0), (.int .u8 0), (.int .u8 0), (.int .u8 0), (.int .u8 0), (.int .u8 0), (.int .u8 0), (.int .u8 0), (.int .u8 0), (.int .u8 0), (.int .u8 0), (.int .u8 0), (.int .u8 0), (.int .u8 0), (.int .u8 0), (.int .u8 0), (.int .u8 0), (.int .u8 0), (.int .u8 0), (.int .u8 0), (.int .u8 0), (.int .u8 0), (.int .u8 0), (.int .u8 0), (.int .u8 0), (.int .u8 0), (.int .u8 0), (.int .u8 0), (.int .u8 0), (.int .u8 0), (.int .u8 0), (.int .u8 0), (.int .u8 0), (.int .u32 0)], .fr 4, none⟩,
    ⟨.mov (.c (.int .i64 0)), .fr 5, none⟩]) <|
    .seq (.seq (.reg [
    ⟨.loadn 5 (.fr 3), .tm, none⟩,
    ⟨.callf 31 [(.tm 0)], .tm, none⟩,
    ⟨.un .not (.tm 0), .fr 7, none⟩]) <|
    .cond (.fr 7)
      (.seq (.reg [
      ⟨.build [(.int .u64 0), (.int .u64 0), (.int .u64 0), (.int .u8 0), (.int .u8 0), (.int .u8 0), (.int .u8 0), (.int .u8 0), (.int .u8 0), (.int .u8 0), (.int .u8 0), (.int .u8 0), (.int .u8 0), (.int .u8 0), (.int .u8 0), (.int .u8 0), (.int .u8 0), (.int .u8 0), (.int .u8 0), (.int .u8 0), (.int .u8 0), (.int .u8 0), (.int .u8 0), (.int .u8 0), (.int .u8 0), (.int .u8 0), (.int .u8 0), (.int .u8 0), (.int .u8 0), (.int .u8 0), (.int .u8 0), (.int .u8 0), (.int .u8 0), (.int .u8 0), (.int .u8 0), (.int .u8 0), (.int .u8 0), (.int .u8 0), (.int .u8 0), (.int .u8 0), (.int .u8 0), (.int .u8 0), (.int .u8 0), (.int .u8 0), (.int .u8 0), (.int .u8 0), (.int .u8 0), (.int .u8 0), (.int .u8 0), (.int .u8 0), (.int .u8 0), (.int .u8 0), (.int .u8 0), (.int .u8 0), (.int .u8 0), (.int .u8 0), (.int .u8 0), (.int .u8 0), (.int .u8 0), (.int .u8 0), (.int .u8 0), (.int .u8 0), (.int .u8 0), (.int .u8 0), (.int .u8 0), (.int .u8 0), (.int .u8 0), (.int .u32 0)] [], .tm, none⟩,
      ⟨.storen 68 (.fr 4) (.tm 0), .no, none⟩,
      ⟨.mov (.c (.int .i64 2)), .fr 5, none⟩]) <|
      .ret)
      (.skip)) <|
    .seq (.reg [
    ⟨.faddr 0 (.fr 2), .tm, none⟩,
    ⟨.load1 (.tm 0), .tm, none⟩,
    ⟨.faddr 0 (.fr 3), .tm, none⟩,
    ⟨.load1 (.tm 0), .tm, none⟩,
    ⟨.bin .xor (.tm 2) (.tm 0), .tm, none⟩,
    ⟨.faddr 0 (.fr 2), .tm, none⟩,
    ⟨.store1 (.tm 0) (.tm 1), .no, none⟩]) <|
    .seq (.reg [
    ⟨.faddr 1 (.fr 2), .tm, none⟩,
    ⟨.load1 (.tm 0), .tm, none⟩,
    ⟨.faddr 1 (.fr 3), .tm, none⟩,
    ⟨.load1 (.tm 0), .tm, none⟩,
    ⟨.bin .xor (.tm 2) (.tm 0), .tm, none⟩,
    ⟨.faddr 1 (.fr 2), .tm, none⟩,
    ⟨.store1 (.tm 0) (.tm 1), .no, none⟩]) <|
    .seq (.reg [
    ⟨.faddr 2 (.fr 2), .tm, none⟩,
    ⟨.load1 (.tm 0), .tm, none⟩,
    ⟨.faddr 2 (.fr 3), .tm, none⟩,
    ⟨.load1 (.tm 0), .tm, none⟩,
    ⟨.bin .xor (.tm 2) (.tm 0), .tm, none⟩,
    ⟨.faddr 2 (.fr 2), .tm, none⟩,
    ⟨.store1 (.tm 0) (.tm 1), .no, none⟩]) <|
    .seq (.reg [
    ⟨.faddr 67 (.fr 2), .tm, none⟩,
    ⟨.load1 (.tm 0), .tm, none⟩,
    ⟨.faddr 3 (.fr 3), .tm, none⟩,
    ⟨.load1 (.tm 0), .tm, none⟩,
    ⟨.bin .xor (.tm 2) (.tm 0), .tm, none⟩,
    ⟨.faddr 67 (.fr 2), .tm, none⟩,
    ⟨.store1 (.tm 0) (.tm 1), .no, none⟩]) <|
    .seq (.seq (.reg [
    ⟨.faddr 4 (.fr 3), .tm, none⟩,
    ⟨.load1 (.tm 0), .fr 8, none⟩,
    ⟨.len false (.fr 8), .fr 9, none⟩,
    ⟨.mov (.c (.int .i64 0)), .fr 10, none⟩]) <|
    .block 0 (.loop (.seq (.reg [
        ⟨.bin .lss (.fr 10) (.fr 9), .fr 11, none⟩]) <|
        .seq (.cond (.fr 11)
          (.skip)
          (.exit 0)) <|
        .seq (.block 1 (.seq (.reg [
          ⟨.iaddr 2 (.fr 8) (.fr 10), .tm, none⟩,
          ⟨.loadn 2 (.tm 0), .tm, none⟩,
          ⟨.new 90 2 [(.int .i64 0), (.int .u8 0)], .fr 6, none⟩,
          ⟨.storen 2 (.fr 6) (.tm 0), .no, none⟩]) <|
          .reg [
          ⟨.faddr 0 (.fr 6), .tm, none⟩,
          ⟨.load1 (.tm 0), .tm, none⟩,
          ⟨.faddr 1 (.fr 6), .tm, none⟩,
          ⟨.load1 (.tm 0), .tm, none⟩,
          ⟨.faddr 3 (.fr 2), .tm, none⟩,
          ⟨.iaddrp 1 64 (.tm 0) (.tm 3), .tm, none⟩,
          ⟨.store1 (.tm 0) (.tm 2), .no, none⟩])) <|
        .reg [
        ⟨.bin .add (.fr 10) (.c (.int .i64 1)), .tm, none⟩,
        ⟨.mov (.tm 0), .fr 10, none⟩]))) <|
    .seq (.reg [
    ⟨.loadn 68 (.fr 2), .tm, none⟩,
    ⟨.storen 68 (.fr 4) (.tm 0), .no, none⟩,
    ⟨.mov (.c (.int .i64 0)), .fr 5, none⟩]) <|
    .ret⟩
/-- (*semaphore/repl.Sender).Offer -/
def e15 : EF := ⟨2, [0, 1, 3, 4, 5, 8, 56], [.t 3],
    .seq (.reg [
    ⟨.box 54 70 (.fr 1), .fr 2, none⟩,
    ⟨.mov (.c (.int .i64 0)), .fr 3, none⟩]) <|
    .seq (.block 0 (.seq (.reg [
      ⟨.mov (.fr 0), .tm, none⟩,
      ⟨.eqv 1 false (.tm 0) (.c (.pointer none)), .tm, none⟩,
      ⟨.mov (.tm 0), .fr 4, none⟩]) <|
      .cond (.fr 4)
        (.seq (.reg [
        ⟨.mov (.c (.int .i64 1)), .fr 3, none⟩]) <|
        .ret)
        (.seq (.reg [
        ⟨.faddr 0 (.fr 2), .tm, none⟩,
        ⟨.load1 (.tm 0), .tm, none⟩,
        ⟨.faddr 1 (.fr 2), .tm, none⟩,
        ⟨.load1 (.tm 0), .tm, none⟩,
        ⟨.bslice 2 1 2 [(.int .i64 0), (.int .i64 0)] [(0, 1, (.tm 2)), (1, 1, (.tm 0))], .tm, none⟩,
        ⟨.callf 33 [(.tm 0)], .tm, none⟩,
        ⟨.un .not (.tm 0), .tm, none⟩,
        ⟨.mov (.tm 0), .tm, none⟩,
        ⟨.mov (.fr 0), .tm, some ((.tm 0), false)⟩,
        ⟨.nilck (.tm 0), .tm, some ((.tm 1), false)⟩,
        ⟨.faddr 0 (.tm 0), .tm, some ((.tm 2), false)⟩,
        ⟨.load1 (.tm 0), .tm, some ((.tm 3), false)⟩,
        ⟨.len false (.tm 0), .tm, some ((.tm 4), false)⟩,
        ⟨.bin .gtr (.tm 0) (.c (.int .i64 0)), .tm, some ((.tm 5), false)⟩,
        ⟨.mov (.tm 0), .tm, some ((.tm 6), false)⟩,
        ⟨.loadn 70 (.fr 2), .tm, some ((.tm 0), true)⟩,
        ⟨.mov (.fr 0), .tm, some ((.tm 1), true)⟩,
        ⟨.nilck (.tm 0), .tm, some ((.tm 2), true)⟩,
        ⟨.faddr 0 (.tm 0), .tm, some ((.tm 3), true)⟩,
        ⟨.load1 (.tm 0), .tm, some ((.tm 4), true)⟩,
        ⟨.mov (.fr 0), .tm, some ((.tm 5), true)⟩,
        ⟨.nilck (.tm 0), .tm, some ((.tm 6), true)⟩,
        ⟨.faddr 0 (.tm 0), .tm, some ((.tm 7), true)⟩,
        ⟨.load1 (.tm 0), .tm, some ((.tm 8), true)⟩,
        ⟨.len false (.tm 0), .tm, some ((.tm 9), true)⟩,
        ⟨.bin .sub (.tm 0) (.c (.int .i64 1)), .tm, some ((.tm 10), true)⟩,
        ⟨.iaddr 70 (.tm 6) (.tm 0), .tm, some ((.tm 11), true)⟩,
        ⟨.loadn 70 (.tm 0), .tm, some ((.tm 12), true)⟩,
        ⟨.callf 34 [(.tm 12), (.tm 0)], .tm, some ((.tm 13), true)⟩,
        ⟨.bin .leq (.tm 0) (.c (.int .i64 0)), .tm, some ((.tm 14), true)⟩,
        ⟨.pick (.tm 15) (.tm 0) (.c (.bool false)), .tm, some ((.tm 22), false)⟩,
        ⟨.pick (.tm 23) (.c (.bool true)) (.tm 0), .tm, none⟩,
        ⟨.mov (.tm 0), .fr 5, none⟩]) <|
        .cond (.fr 5)
          (.seq (.reg [
          ⟨.mov (.c (.int .i64 2)), .fr 3, none⟩]) <|
          .ret)
          (.skip)))) <|
    .seq (.reg [
    ⟨.mov (.fr 0), .tm, none⟩,
    ⟨.mov (.fr 0), .tm, none⟩,
    ⟨.nilck (.tm 0), .tm, none⟩,
    ⟨.faddr 0 (.tm 0), .tm, none⟩,
    ⟨.load1 (.tm 0), .tm, none⟩,
    ⟨.loadn 70 (.fr 2), .tm, none⟩,
    ⟨.bslice 54 70 1 [(.int .i64 0), (.int .i64 0), (.int .u64 0), (.int .u64 0), (.int .u64 0), (.int .u8 0), (.int .u8 0), (.int .u8 0), (.int .u8 0), (.int .u8 0), (.int .u8 0), (.int .u8 0), (.int .u8 0), (.int .u8 0), (.int .u8 0), (.int .u8 0), (.int .u8 0), (.int .u8 0), (.int .u8 0), (.int .u8 0), (.int .u8 0), (.int .u8 0), (.int .u8 0), (.int .u8 0), (.int .u8 0), (.int .u8 0), (.int .u8 0), (.int .u8 0), (.int .u8 0), (.int .u8 0), (.int .u8 0), (.int .u8 0), (.int .u8 0), (.int .u8 0), (.int .u8 0), (.int .u8 0), (.int .u8 0), (.int .u8 0), (.int .u8 0), (.int .u8 0), (.int .u8 0), (.int .u8 0), (.int .u8 0), (.int .u8 0), (.int .u8 0), (.int .u8 0), (.int .u8 0), (.int .u8 0), (.int .u8 0), (.int .u8 0), (.int .u8 0), (.int .u8 0), (.int .u8 0), (.int .u8 0), (.int .u8 0), (.int .u8 0), (.int .u8 0), (.int .u8 0), (.int .u8 0), (.int .u8 0), (.int .u8 0), (.int .u8 0), (.int .u8 0), (.int .u8 0), (.int .u8 0), (.int .u8 0), (.int .u8 0), (.int .u8 0), (.int .u8 0), (.int .u32 0)] [(0, 70, (.tm 0))], .tm, none⟩,
    ⟨.app 54 70 112 (.tm 2) (.tm 0), .tm, none⟩,
    ⟨.nilck (.tm 7), .tm, none⟩,
    ⟨.faddr 0 (.tm 0), .tm, none⟩,
    ⟨.store1 (.tm 0) (.tm 2), .no, none⟩]) <|
    .seq (.seq (.reg [
    ⟨.mov (.fr 0), .tm, none⟩,
    ⟨.nilck (.tm 0), .tm, none⟩,
    ⟨.faddr 0 (.tm 0), .tm, none⟩,
    ⟨.load1 (.tm 0), .tm, none⟩,
    ⟨.len false (.tm 0), .tm, none⟩,
    ⟨.bin .gtr (.tm 0) (.c (.int .i64 8)), .fr 6, none⟩]) <|
    .cond (.fr 6)
      (.reg [
      ⟨.mov (.fr 0), .tm, none⟩,
      ⟨.mov (.fr 0), .tm, none⟩,
      ⟨.mov (.fr 0), .tm, none⟩,
      ⟨.nilck (.tm 0), .tm, none⟩,
      ⟨.faddr 0 (.tm 0), .tm, none⟩,
      ⟨.load1 (.tm 0), .tm, none⟩,
      ⟨.slsl 70 (.tm 0) (some (.c (.int .i64 1))) none none, .tm, none⟩,
      ⟨.mov (.fr 0), .tm, none⟩,
      ⟨.nilck (.tm 0), .tm, none⟩,
      ⟨.faddr 1 (.tm 0), .tm, none⟩,
      ⟨.load1 (.tm 0), .tm, none⟩,
      ⟨.bin .sub (.tm 0) (.c (.int .i64 1)), .tm, none⟩,
      ⟨.mm true (.c (.int .i64 0)) (.tm 0), .tm, none⟩,
      ⟨.nilck (.tm 12), .tm, none⟩,
      ⟨.faddr 0 (.tm 0), .tm, none⟩,
      ⟨.store1 (.tm 0) (.tm 8), .no, none⟩,
      ⟨.nilck (.tm 13), .tm, none⟩,
      ⟨.faddr 1 (.tm 0), .tm, none⟩,
      ⟨.store1 (.tm 0) (.tm 4), .no, none⟩])
      (.skip)) <|
    .seq (.reg [
    ⟨.mov (.c (.int .i64 0)), .fr 3, none⟩]) <|
    .ret⟩
/-- (*semaphore/repl.Sender).Send -/
def e16 : EF := ⟨1, [0, 2, 3, 4, 5, 6, 20, 39], [.cn 78 1, .t 2],
    .seq (.reg [
    ⟨.new 41 78 [(.int .u8 0), (.int .i64 0), (.int .i64 0), (.int .i64 0), (.int .i64 0), (.int .u64 0), (.int .u64 0), (.int .u64 0), (.int .u8 0), (.int .u8 0), (.int .u8 0), (.int .u8 0), (.int .u8 0), (.int .u8 0), (.int .u8 0), (.int .u8 0), (.int .u8 0), (.int .u8 0), (.int .u8 0), (.int .u8 0), (.int .u8 0), (.int .u8 0), (.int .u8 0), (.int .u8 0), (.int .u8 0), (.int .u8 0), (.int .u8 0), (.int .u8 0), (.int .u8 0), (.int .u8 0), (.int .u8 0), (.int .u8 0), (.int .u8 0), (.int .u8 0), (.int .u8 0), (.int .u8 0), (.int .u8 0), (.int .u8 0), (.int .u8 0), (.int .u8 0), (.int .u8 0), (.int .u8 0), (.int .u8 0), (.int .u8 0), (.int .u8 0), (.int .u8 0), (.int .u8 0), (.int .u8 0), (.int .u8 0), (.int .u8 0), (.int .u8 0), (.int .u8 0), (.int .u8 0), (.int .u8 0), (.int .u8 0), (.int .u8 0), (.int .u8 0), (.int .u8 0), (.int .u8 0), (.int .u8 0), (.int .u8 0), (.int .u8 0), (.int .u8 0), (.int .u8 0), (.int .u8 0), (.int .u8 0), (.int .u8 0), (.int .u8 0), (.int .u8 0), (.int .u8 0), (.int .u8 0), (.int .u8 0), (.int .u32 0), (.int .u64 0), (.int .u64 0), (.int .u64 0), (.int .u32 0), (.slice none 0 0)], .fr 1, none⟩,
    ⟨.mov (.c (.bool false)), .fr 2, none⟩]) <|
    .seq (.seq (.reg [
    ⟨.mov (.fr 0), .tm, none⟩,
    ⟨.eqv 1 false (.tm 0) (.c (.pointer none)), .tm, none⟩,
    ⟨.mov (.tm 0), .tm, none⟩,
    ⟨.mov (.fr 0), .tm, some ((.tm 0), false)⟩,
    ⟨.nilck (.tm 0), .tm, some ((.tm 1), false)⟩,
    ⟨.faddr 1 (.tm 0), .tm, some ((.tm 2), false)⟩,
    ⟨.load1 (.tm 0), .tm, some ((.tm 3), false)⟩,
    ⟨.mov (.fr 0), .tm, some ((.tm 4), false)⟩,
    ⟨.nilck (.tm 0), .tm, some ((.tm 5), false)⟩,
    ⟨.faddr 0 (.tm 0), .tm, some ((.tm 6), false)⟩,
    ⟨.load1 (.tm 0), .tm, some ((.tm 7), false)⟩,
    ⟨.len false (.tm 0), .tm, some ((.tm 8), false)⟩,
    ⟨.bin .eql (.tm 5) (.tm 0), .tm, some ((.tm 9), false)⟩,
    ⟨.pick (.tm 10) (.c (.bool true)) (.tm 0), .fr 6, none⟩]) <|
    .cond (.fr 6)
      (.seq (.reg [
      ⟨.build [(.int .u8 0), (.int .i64 0), (.int .i64 0), (.int .i64 0), (.int .i64 0), (.int .u64 0), (.int .u64 0), (.int .u64 0), (.int .u8 0), (.int .u8 0), (.int .u8 0), (.int .u8 0), (.int .u8 0), (.int .u8 0), (.int .u8 0), (.int .u8 0), (.int .u8 0), (.int .u8 0), (.int .u8 0), (.int .u8 0), (.int .u8 0), (.int .u8 0), (.int .u8 0), (.int .u8 0), (.int .u8 0), (.int .u8 0), (.int .u8 0), (.int .u8 0), (.int .u8 0), (.int .u8 0), (.int .u8 0), (.int .u8 0), (.int .u8 0), (.int .u8 0), (.int .u8 0), (.int .u8 0), (.int .u8 0), (.int .u8 0), (.int .u8 0), (.int .u8 0), (.int .u8 0), (.int .u8 0), (.int .u8 0), (.int .u8 0), (.int .u8 0), (.int .u8 0), (.int .u8 0), (.int .u8 0), (.int .u8 0), (.int .u8 0), (.int .u8 0), (.int .u8 0), (.int .u8 0), (.int .u8 0), (.int .u8 0), (.int .u8 0), (.int .u8 0), (.int .u8 0), (.int .u8 0), (.int .u8 0), (.int .u8 0), (.int .u8 0), (.int .u8 0), (.int .u8 0), (.int .u8 0), (.int .u8 0), (.int .u8 0), (.int .u8 0), (.int .u8 0), (.int .u8 0), (.int .u8 0), (.int .u8 0), (.int .u32 0), (.int .u64 0), (.int .u64 0), (.int .u64 0), (.int .u32 0), (.slice none 0 0)] [], .tm, none⟩,
      ⟨.storen 78 (.fr 1) (.tm 0), .no, none⟩,
      ⟨.mov (.c (.bool false)), .fr 2, none⟩]) <|
      .ret)
      (.skip)) <|
    .seq (.reg [
    ⟨.mov (.fr 0), .tm, none⟩,
    ⟨.nilck (.tm 0), .tm, none⟩,
    ⟨.faddr 0 (.tm 0), .tm, none⟩,
    ⟨.load1 (.tm 0), .tm, none⟩,
    ⟨.mov (.fr 0), .tm, none⟩,
    ⟨.nilck (.tm 0), .tm, none⟩,
    ⟨.faddr 0 (.tm 0), .tm, none⟩,
    ⟨.load1 (.tm 0), .tm, none⟩,
    ⟨.len false (.tm 0), .tm, none⟩,
    ⟨.bin .sub (.tm 0) (.c (.int .i64 1)), .tm, none⟩,
    ⟨.iaddr 70 (.tm 6) (.tm 0), .tm, none⟩,
    ⟨.loadn 70 (.tm 0), .tm, none⟩,
    ⟨.new 54 70 [(.int .i64 0), (.int .i64 0), (.int .u64 0), (.int .u64 0), (.int .u64 0), (.int .u8 0), (.int .u8 0), (.int .u8 0), (.int .u8 0), (.int .u8 0), (.int .u8 0), (.int .u8 0), (.int .u8 0), (.int .u8 0), (.int .u8 0), (.int .u8 0), (.int .u8 0), (.int .u8 0), (.int .u8 0), (.int .u8 0), (.int .u8 0), (.int .u8 0), (.int .u8 0), (.int .u8 0), (.int .u8 0), (.int .u8 0), (.int .u8 0), (.int .u8 0), (.int .u8 0), (.int .u8 0), (.int .u8 0), (.int .u8 0), (.int .u8 0), (.int .u8 0), (.int .u8 0), (.int .u8 0), (.int .u8 0), (.int .u8 0), (.int .u8 0), (.int .u8 0), (.int .u8 0), (.int .u8 0), (.int .u8 0), (.int .u8 0), (.int .u8 0), (.int .u8 0), (.int .u8 0), (.int .u8 0), (.int .u8 0), (.int .u8 0), (.int .u8 0), (.int .u8 0), (.int .u8 0), (.int .u8 0), (.int .u8 0), (.int .u8 0), (.int .u8 0), (.int .u8 0), (.int .u8 0), (.int .u8 0), (.int .u8 0), (.int .u8 0), (.int .u8 0), (.int .u8 0), (.int .u8 0), (.int .u8 0), (.int .u8 0), (.int .u8 0), (.int .u8 0), (.int .u32 0)], .fr 3, none⟩,
    ⟨.storen 70 (.fr 3) (.tm 0), .no, none⟩]) <|
    .seq (.seq (.reg [
    ⟨.mov (.fr 0), .tm, none⟩,
    ⟨.callf 29 [(.tm 0)], .tm, none⟩,
    ⟨.mov (.tm 0), .tm, none⟩,
    ⟨.extract (.tm 0) 0, .tm, none⟩,
    ⟨.extract (.tm 1) 1, .tm, none⟩,
    ⟨.new 54 70 [(.int .i64 0), (.int .i64 0), (.int .u64 0), (.int .u64 0), (.int .u64 0), (.int .u8 0), (.int .u8 0), (.int .u8 0), (.int .u8 0), (.int .u8 0), (.int .u8 0), (.int .u8 0), (.int .u8 0), (.int .u8 0), (.int .u8 0), (.int .u8 0), (.int .u8 0), (.int .u8 0), (.int .u8 0), (.int .u8 0), (.int .u8 0), (.int .u8 0), (.int .u8 0), (.int .u8 0), (.int .u8 0), (.int .u8 0), (.int .u8 0), (.int .u8 0), (.int .u8 0), (.int .u8 0), (.int .u8 0), (.int .u8 0), (.int .u8 0), (.int .u8 0), (.int .u8 0), (.int .u8 0), (.int .u8 0), (.int .u8 0), (.int .u8 0), (.int .u8 0), (.int .u8 0), (.int .u8 0), (.int .u8 0), (.int .u8 0), (.int .u8 0), (.int .u8 0), (.int .u8 0), (.int .u8 0), (.int .u8 0), (.int .u8 0), (.int .u8 0), (.int .u8 0), (.int .u8 0), (.int .u8 0), (.int .u8 0), (.int .u8 0), (.int .u8 0), (.int .u8 0), (.int .u8 0), (.int .u8 0), (.int .u8 0), (.int .u8 0), (.int .u8 0), (.int .u8 0), (.int .u8 0), (.int .u8 0), (.int .u8 0), (.int .u8 0), (.int .u8 0), (.int .u32 0)], .fr 4, none⟩,
    ⟨.storen 70 (.fr 4) (.tm 1), .no, none⟩,
    ⟨.mov (.tm 0), .fr 5, none⟩]) <|
    .seq (.reg [
    ⟨.mov (.fr 5), .fr 7, none⟩]) <|
    .cond (.fr 7)
      (.seq (.dreg [
      (⟨.faddr 0 (.fr 3), .tm, none⟩, []),
      (⟨.load1 (.tm 0), .tm, none⟩, []),
      (⟨.faddr 1 (.fr 3), .tm, none⟩, []),
      (⟨.load1 (.tm 0), .tm, none⟩, []),
      (⟨.faddr 0 (.fr 4), .tm, none⟩, []),
      (⟨.load1 (.tm 0), .tm, none⟩, []),
      (⟨.faddr 1 (.fr 4), .tm, none⟩, []),
      (⟨.load1 (.tm 0), .tm, none⟩, []),
      (⟨.faddr 2 (.fr 4), .tm, none⟩, []),
      (⟨.loadn 68 (.tm 0), .tm, none⟩, []),
      (⟨.faddr 2 (.fr 3), .tm, none⟩, []),
      (⟨.loadn 68 (.tm 0), .tm, none⟩, []),
      (⟨.callf 9 [(.tm 2), (.tm 0)], .tm, none⟩, [1, 3, 5, 7]),
      (⟨.build [(.int .u8 0), (.int .i64 0), (.int .i64 0), (.int .i64 0), (.int .i64 0), (.int .u64 0), (.int .u64 0), (.int .u64 0), (.int .u8 0), (.int .u8 0), (.int .u8 0), (.int .u8 0), (.int .u8 0), (.int .u8 0), (.int .u8 0), (.int .u8 0), (.int .u8 0), (.int .u8 0), (.int .u8 0), (.int .u8 0), (.int .u8 0), (.int .u8 0), (.int .u8 0), (.int .u8 0), (.int .u8 0), (.int .u8 0), (.int .u8 0), (.int .u8 0), (.int .u8 0), (.int .u8 0), (.int .u8 0), (.int .u8 0), (.int .u8 0), (.int .u8 0), (.int .u8 0), (.int .u8 0), (.int .u8 0), (.int .u8 0), (.int .u8 0), (.int .u8 0), (.int .u8 0), (.int .u8 0), (.int .u8 0), (.int .u8 0), (.int .u8 0), (.int .u8 0), (.int .u8 0), (.int .u8 0), (.int .u8 0), (.int .u8 0), (.int .u8 0), (.int .u8 0), (.int .u8 0), (.int .u8 0), (.int .u8 0), (.int .u8 0), (.int .u8 0), (.int .u8 0), (.int .u8 0), (.int .u8 0), (.int .u8 0), (.int .u8 0), (.int .u8 0), (.int .u8 0), (.int .u8 0), (.int .u8 0), (.int .u8 0), (.int .u8 0), (.int .u8 0), (.int .u8 0), (.int .u8 0), (.int .u8 0), (.int .u32 0), (.int .u64 0), (.int .u64 0), (.int .u64 0), (.int .u32 0), (.slice none 0 0)] [(0, 1, (.c (.int .u8 2))), (1, 1, (.tm 11)), (2, 1, (.tm 9)), (3, 1, (.tm 7)), (4, 1, (.tm 5)), (73, 5, (.tm 0))], .tm, none⟩, []),
      (⟨.storen 78 (.fr 1) (.tm 0), .no, none⟩, []),
      (⟨.mov (.c (.bool true)), .fr 2, none⟩, [])]) <|
      .ret)
      (.skip)) <|
    .seq (.reg [
    ⟨.faddr 0 (.fr 3), .tm, none⟩,
    ⟨.load1 (.tm 0), .tm, none⟩,
    ⟨.faddr 1 (.fr 3), .tm, none⟩,
    ⟨.load1 (.tm 0), .tm, none⟩,
    ⟨.faddr 2 (.fr 3), .tm, none⟩,
    ⟨.loadn 68 (.tm 0), .tm, none⟩,
    ⟨.build [(.int .u8 0), (.int .i64 0), (.int .i64 0), (.int .i64 0), (.int .i64 0), (.int .u64 0), (.int .u64 0), (.int .u64 0), (.int .u8 0), (.int .u8 0), (.int .u8 0), (.int .u8 0), (.int .u8 0), (.int .u8 0), (.int .u8 0), (.int .u8 0), (.int .u8 0), (.int .u8 0), (.int .u8 0), (.int .u8 0), (.int .u8 0), (.int .u8 0), (.int .u8 0), (.int .u8 0), (.int .u8 0), (.int .u8 0), (.int .u8 0), (.int .u8 0), (.int .u8 0), (.int .u8 0), (.int .u8 0), (.int .u8 0), (.int .u8 0), (.int .u8 0), (.int .u8 0), (.int .u8 0), (.int .u8 0), (.int .u8 0), (.int .u8 0), (.int .u8 0), (.int .u8 0), (.int .u8 0), (.int .u8 0), (.int .u8 0), (.int .u8 0), (.int .u8 0), (.int .u8 0), (.int .u8 0), (.int .u8 0), (.int .u8 0), (.int .u8 0), (.int .u8 0), (.int .u8 0), (.int .u8 0), (.int .u8 0), (.int .u8 0), (.int .u8 0), (.int .u8 0), (.int .u8 0), (.int .u8 0), (.int .u8 0), (.int .u8 0), (.int .u8 0), (.int .u8 0), (.int .u8 0), (.int .u8 0), (.int .u8 0), (.int .u8 0), (.int .u8 0), (.int .u8 0), (.int .u8 0), (.int .u8 0), (.int .u32 0), (.int .u64 0), (.int .u64 0), (.int .u64 0), (.int .u32 0), (.slice none 0 0)] [(0, 1, (.c (.int .u8 1))), (1, 1, (.tm 4)), (2, 1, (.tm 2)), (5, 68, (.tm 0))], .tm, none⟩,
    ⟨.storen 78 (.fr 1) (.tm 0), .no, none⟩,
    ⟨.mov (.c (.bool true)), .fr 2, none⟩]) <|
    .ret⟩
/-- (*semaphore/repl.Receiver).Hear -/
def e17 : EF := ⟨2, [0, 1, 3, 4, 5, 6, 7, 8, 9, 13, 49, 81, 85], [.cn 78 3, .t 4, .t 5],
    .seq (.reg [
    ⟨.box 41 78 (.fr 1), .fr 2, none⟩,
    ⟨.new 41 78 [(.int .u8 0), (.int .i64 0), (.int .i64 0), (.int .i64 0), (.int .i64 0), (.int .u64 0), (.int .u64 0), (.int .u64 0), (.int .u8 0), (.int .u8 0), (.int .u8 0), (.int .u8 0), (.int .u8 0), (.int .u8 0), (.int .u8 0), (.int .u8 0), (.int .u8 0), (.int .u8 0), (.int .u8 0), (.int .u8 0), (.int .u8 0), (.int .u8 0), (.int .u8 0), (.int .u8 0), (.int .u8 0), (.int .u8 0), (.int .u8 0), (.int .u8 0), (.int .u8 0), (.int .u8 0), (.int .u8 0), (.int .u8 0), (.int .u8 0), (.int .u8 0), (.int .u8 0), (.int .u8 0), (.int .u8 0), (.int .u8 0), (.int .u8 0), (.int .u8 0), (.int .u8 0), (.int .u8 0), (.int .u8 0), (.int .u8 0), (.int .u8 0), (.int .u8 0), (.int .u8 0), (.int .u8 0), (.int .u8 0), (.int .u8 0), (.int .u8 0), (.int .u8 0), (.int .u8 0), (.int .u8 0), (.int .u8 0), (.int .u8 0), (.int .u8 0), (.int .u8 0), (.int .u8 0), (.int .u8 0), (.int .u8 0), (.int .u8 0), (.int .u8 0), (.int .u8 0), (.int .u8 0), (.int .u8 0), (.int .u8 0), (.int .u8 0), (.int .u8 0), (.int .u8 0), (.int .u8 0), (.int .u8 0), (.int .u32 0), (.int .u64 0), (.int .u64 0), (.int .u64 0), (.int .u32 0), (.slice none 0 0)], .fr 3, none⟩,
    ⟨.mov (.c (.bool false)), .fr 4, none⟩,
    ⟨.mov (.c (.int .i64 0)), .fr 5, none⟩]) <|
    .seq (.block 0 (.seq (.reg [
      ⟨.mov (.fr 0), .tm, none⟩,
      ⟨.eqv 1 false (.tm 0) (.c (.pointer none)), .tm, none⟩,
      ⟨.mov (.tm 0), .fr 8, none⟩]) <|
      .cond (.fr 8)
        (.seq (.reg [
        ⟨.build [(.int .u8 0), (.int .i64 0), (.int .i64 0), (.int .i64 0), (.int .i64 0), (.int .u64 0), (.int .u64 0), (.int .u64 0), (.int .u8 0), (.int .u8 0), (.int .u8 0), (.int .u8 0), (.int .u8 0), (.int .u8 0), (.int .u8 0), (.int .u8 0), (.int .u8 0), (.int .u8 0), (.int .u8 0), (.int .u8 0), (.int .u8 0), (.int .u8 0), (.int .u8 0), (.int .u8 0), (.int .u8 0), (.int .u8 0), (.int .u8 0), (.int .u8 0), (.int .u8 0), (.int .u8 0), (.int .u8 0), (.int .u8 0), (.int .u8 0), (.int .u8 0), (.int .u8 0), (.int .u8 0), (.int .u8 0), (.int .u8 0), (.int .u8 0), (.int .u8 0), (.int .u8 0), (.int .u8 0), (.int .u8 0), (.int .u8 0), (.int .u8 0), (.int .u8 0), (.int .u8 0), (.int .u8 0), (.int .u8 0), (.int .u8 0), (.int .u8 0), (.int .u8 0), (.int .u8 0), (.int .u8 0), (.int .u8 0), (.int .u8 0), (.int .u8 0), (.int .u8 0), (.int .u8 0), (.int .u8 0), (.int .u8 0), (.int .u8 0), (.int .u8 0), (.int .u8 0), (.int .u8 0), (.int .u8 0), (.int .u8 0), (.int .u8 0), (.int .u8 0), (.int .u8 0), (.int .u8 0), (.int .u8 0), (.int .u32 0), (.int .u64 0), (.int .u64 0), (.int .u64 0), (.int .u32 0), (.slice none 0 0)] [], .tm, none⟩,
        ⟨.storen 78 (.fr 3) (.tm 0), .no, none⟩,
        ⟨.mov (.c (.bool false)), .fr 4, none⟩,
        ⟨.mov (.c (.int .i64 1)), .fr 5, none⟩]) <|
        .ret)
        (.seq (.reg [
        ⟨.loadn 78 (.fr 2), .tm, none⟩,
        ⟨.callf 35 [(.tm 0)], .tm, none⟩,
        ⟨.un .not (.tm 0), .tm, none⟩,
        ⟨.mov (.tm 0), .tm, none⟩,
        ⟨.faddr 0 (.fr 2), .tm, some ((.tm 0), false)⟩,
        ⟨.load1 (.tm 0), .tm, some ((.tm 1), false)⟩,
        ⟨.bin .gtr (.tm 0) (.c (.int .u8 2)), .tm, some ((.tm 2), false)⟩,
        ⟨.pick (.tm 3) (.c (.bool true)) (.tm 0), .tm, none⟩,
        ⟨.mov (.tm 0), .fr 9, none⟩]) <|
        .cond (.fr 9)
          (.seq (.reg [
          ⟨.build [(.int .u8 0), (.int .i64 0), (.int .i64 0), (.int .i64 0), (.int .i64 0), (.int .u64 0), (.int .u64 0), (.int .u64 0), (.int .u8 0), (.int .u8 0), (.int .u8 0), (.int .u8 0), (.int .u8 0), (.int .u8 0), (.int .u8 0), (.int .u8 0), (.int .u8 0), (.int .u8 0), (.int .u8 0), (.int .u8 0), (.int .u8 0), (.int .u8 0), (.int .u8 0), (.int .u8 0), (.int .u8 0), (.int .u8 0), (.int .u8 0), (.int .u8 0), (.int .u8 0), (.int .u8 0), (.int .u8 0), (.int .u8 0), (.int .u8 0), (.int .u8 0), (.int .u8 0), (.int .u8 0), (.int .u8 0), (.int .u8 0), (.int .u8 0), (.int .u8 0), (.int .u8 0), (.int .u8 0), (.int .u8 0), (.int .u8 0), (.int .u8 0), (.int .u8 0), (.int .u8 0), (.int .u8 0), (.int .u8 0), (.int .u8 0), (.int .u8 0), (.int .u8 0), (.int .u8 0), (.int .u8 0), (.int .u8 0), (.int .u8 0), (.int .u8 0), (.int .u8 0), (.int .u8 0), (.int .u8 0), (.int .u8 0), (.int .u8 0), (.int .u8 0), (.int .u8 0), (.int .u8 0), (.int .u8 0), (.int .u8 0), (.int .u8 0), (.int .u8 0), (.int .u8 0), (.int .u8 0), (.int .u8 0), (.int .u32 0), (.int .u64 0), (.int .u64 0), (.int .u64 0), (.int .u32 0), (.slice none 0 0)] [], .tm, none⟩,
          ⟨.storen 78 (.fr 3) (.tm 0), .no, none⟩,
          ⟨.mov (.c (.bool false)), .fr 4, none⟩,
          ⟨.mov (.c (.int .i64 2)), .fr 5, none⟩]) <|
          .ret)
          (.skip)))) <|
    .seq (.reg [
    ⟨.faddr 1 (.fr 2), .tm, none⟩,
    ⟨.load1 (.tm 0), .tm, none⟩,
    ⟨.faddr 2 (.fr 2), .tm, none⟩,
    ⟨.load1 (.tm 0), .tm, none⟩,
    ⟨.faddr 5 (.fr 2), .tm, none⟩,
    ⟨.loadn 68 (.tm 0), .tm, none⟩,
    ⟨.build [(.int .i64 0), (.int .i64 0), (.int .u64 0), (.int .u64 0), (.int .u64 0), (.int .u8 0), (.int .u8 0), (.int .u8 0), (.int .u8 0), (.int .u8 0), (.int .u8 0), (.int .u8 0), (.int .u8 0), (.int .u8 0), (.int .u8 0), (.int .u8 0), (.int .u8 0), (.int .u8 0), (.int .u8 0), (.int .u8 0), (.int .u8 0), (.int .u8 0), (.int .u8 0), (.int .u8 0), (.int .u8 0), (.int .u8 0), (.int .u8 0), (.int .u8 0), (.int .u8 0), (.int .u8 0), (.int .u8 0), (.int .u8 0), (.int .u8 0), (.int .u8 0), (.int .u8 0), (.int .u8 0), (.int .u8 0), (.int .u8 0), (.int .u8 0), (.int .u8 0), (.int .u8 0), (.int .u8 0), (.int .u8 0), (.int .u8 0), (.int .u8 0), (.int .u8 0), (.int .u8 0), (.int .u8 0), (.int .u8 0), (.int .u8 0), (.int .u8 0), (.int .u8 0), (.int .u8 0), (.int .u8 0), (.int .u8 0), (.int .u8 0), (.int .u8 0), (.int .u8 0), (.int .u8 0), (.int .u8 0), (.int .u8 0), (.int .u8 0), (.int .u8 0), (.int .u8 0), (.int .u8 0), (.int .u8 0), (.int .u8 0), (.int .u8 0), (.int .u8 0), (.int .u32 0)] [(0, 1, (.tm 4)), (1, 1, (.tm 2)), (2, 68, (.tm 0))], .tm, none⟩,
    ⟨.new 54 70 [(.int .i64 0), (.int .i64 0), (.int .u64 0), (.int .u64 0), (.int .u64 0), (.int .u8 0), (.int .u8 0), (.int .u8 0), (.int .u8 0), (.int .u8 0), (.int .u8 0), (.int .u8 0), (.int .u8 0), (.int .u8 0), (.int .u8 0), (.int .u8 0), (.int .u8 0), (.int .u8 0), (.int .u8 0), (.int .u8 0), (.int .u8 0), (.int .u8 0), (.int .u8 0), (.int .u8 0), (.int .u8 0), (.int .u8 0), (.int .u8 0), (.int .u8 0), (.int .u8 0), (.int .u8 0), (.int .u8 0), (.int .u8 0), (.int .u8 0), (.int .u8 0), (.int .u8 0), (.int .u8 0), (.int .u8 0), (.int .u8 0), (.int .u8 0), (.int .u8 0), (.int .u8 0), (.int .u8 0), (.int .u8 0), (.int .u8 0), (.int .u8 0), (.int .u8 0), (.int .u8 0), (.int .u8 0), (.int .u8 0), (.int .u8 0), (.int .u8 0), (.int .u8 0), (.int .u8 0), (.int .u8 0), (.int .u8 0), (.int .u8 0), (.int .u8 0), (.int .u8 0), (.int .u8 0), (.int .u8 0), (.int .u8 0), (.int .u8 0), (.int .u8 0), (.int .u8 0), (.int .u8 0), (.int .u8 0), (.int .u8 0), (.int .u8 0), (.int .u8 0), (.int .u32 0)], .fr 6, none⟩,
    ⟨.storen 70 (.fr 6) (.tm 0), .no, none⟩]) <|
    .seq (.seq (.reg [
    ⟨.faddr 3 (.fr 2), .tm, none⟩,
    ⟨.load1 (.tm 0), .tm, none⟩,
    ⟨.faddr 4 (.fr 2), .tm, none⟩,
    ⟨.load1 (.tm 0), .tm, none⟩,
    ⟨.build [(.int .i64 0), (.int .i64 0), (.int .u64 0), (.int .u64 0), (.int .u64 0), (.int .u8 0), (.int .u8 0), (.int .u8 0), (.int .u8 0), (.int .u8 0), (.int .u8 0), (.int .u8 0), (.int .u8 0), (.int .u8 0), (.int .u8 0), (.int .u8 0), (.int .u8 0), (.int .u8 0), (.int .u8 0), (.int .u8 0), (.int .u8 0), (.int .u8 0), (.int .u8 0), (.int .u8 0), (.int .u8 0), (.int .u8 0), (.int .u8 0), (.int .u8 0), (.int .u8 0), (.int .u8 0), (.int .u8 0), (.int .u8 0), (.int .u8 0), (.int .u8 0), (.int .u8 0), (.int .u8 0), (.int .u8 0), (.int .u8 0), (.int .u8 0), (.int .u8 0), (.int .u8 0), (.int .u8 0), (.int .u8 0), (.int .u8 0), (.int .u8 0), (.int .u8 0), (.int .u8 0), (.int .u8 0), (.int .u8 0), (.int .u8 0), (.int .u8 0), (.int .u8 0), (.int .u8 0), (.int .u8 0), (.int .u8 0), (.int .u8 0), (.int .u8 0), (.int .u8 0), (.int .u8 0), (.int .u8 0), (.int .u8 0), (.int .u8 0), (.int .u8 0), (.int .u8 0), (.int .u8 0), (.int .u8 0), (.int .u8 0), (.int .u8 0), (.int .u8 0), (.int .u32 0)] [(0, 1, (.tm 2)), (1, 1, (.tm 0))], .tm, none⟩,
    ⟨.new 54 70 [(.int .i64 0), (.int .i64 0), (.int .u64 0), (.int .u64 0), (.int .u64 0), (.int .u8 0), (.int .u8 0), (.int .u8 0), (.int .u8 0), (.int .u8 0), (.int .u8 0), (.int .u8 0), (.int .u8 0), (.int .u8 0), (.int .u8 0), (.int .u8 0), (.int .u8 0), (.int .u8 0), (.int .u8 0), (.int .u8 0), (.int .u8 0), (.int .u8 0), (.int .u8 0), (.int .u8 0), (.int .u8 0), (.int .u8 0), (.int .u8 0), (.int .u8 0), (.int .u8 0), (.int .u8 0), (.int .u8 0), (.int .u8 0), (.int .u8 0), (.int .u8 0), (.int .u8 0), (.int .u8 0), (.int .u8 0), (.int .u8 0), (.int .u8 0), (.int .u8 0), (.int .u8 0), (.int .u8 0), (.int .u8 0), (.int .u8 0), (.int .u8 0), (.int .u8 0), (.int .u8 0), (.int .u8 0), (.int .u8 0), (.int .u8 0), (.int .u8 0), (.int .u8 0), (.int .u8 0), (.int .u8 0), (.int .u8 0), (.int .u8 0), (.int .u8 0), (.int .u8 0), (.int .u8 0), (.int .u8 0), (.int .u8 0), (.int .u8 0), (.int .u8 0), (.int .u8 0), (.int .u8 0), (.int .u8 0), (.int .u8 0), (.int .u8 0), (.int .u8 0), (.int .u32 0)], .fr 7, none⟩,
    ⟨.storen 70 (.fr 7) (.tm 0), .no, none⟩]) <|
    .block 1 (.seq (.reg [
      ⟨.mov (.fr 0), .tm, none⟩,
      ⟨.nilck (.tm 0), .tm, none⟩,
      ⟨.faddr 0 (.tm 0), .tm, none⟩,
      ⟨.load1 (.tm 0), .tm, none⟩,
      ⟨.eqv 1 true (.tm 0) (.c (.pointer none)), .tm, none⟩,
      ⟨.mov (.tm 0), .tm, none⟩,
      ⟨.loadn 70 (.fr 6), .tm, some ((.tm 0), true)⟩,
      ⟨.mov (.fr 0), .tm, some ((.tm 1), true)⟩,
      ⟨.nilck (.tm 0), .tm, some ((.tm 2), true)⟩,
      ⟨.faddr 0 (.tm 0), .tm, some ((.tm 3), true)⟩,
      ⟨.load1 (.tm 0), .tm, some ((.tm 4), true)⟩,
      ⟨.nilck (.tm 0), .tm, some ((.tm 5), true)⟩,
      ⟨.loadn 70 (.tm 0), .tm, some ((.tm 6), true)⟩,
      ⟨.callf 34 [(.tm 6), (.tm 0)], .tm, some ((.tm 7), true)⟩,
      ⟨.bin .leq (.tm 0) (.c (.int .i64 0)), .tm, some ((.tm 8), true)⟩,
      ⟨.pick (.tm 9) (.tm 0) (.c (.bool false)), .tm, none⟩,
      ⟨.mov (.tm 0), .fr 10, none⟩]) <|
      .cond (.fr 10)
        (.seq (.reg [
        ⟨.mov (.fr 0), .tm, none⟩,
        ⟨.nilck (.tm 0), .tm, none⟩,
        ⟨.faddr 0 (.tm 0), .tm, none⟩,
        ⟨.load1 (.tm 0), .tm, none⟩,
        ⟨.nilck (.tm 0), .tm, none⟩,
        ⟨.faddr 0 (.tm 0), .tm, none⟩,
        ⟨.load1 (.tm 0), .tm, none⟩,
        ⟨.mov (.fr 0), .tm, none⟩,
        ⟨.nilck (.tm 0), .tm, none⟩,
        ⟨.faddr 0 (.tm 0), .tm, none⟩,
        ⟨.load1 (.tm 0), .tm, none⟩,
        ⟨.nilck (.tm 0), .tm, none⟩,
        ⟨.faddr 1 (.tm 0), .tm, none⟩,
        ⟨.load1 (.tm 0), .tm, none⟩,
        ⟨.build [(.int .u8 0), (.int .i64 0), (.int .i64 0), (.int .i64 0), (.int .i64 0), (.int .u64 0), (.int .u64 0), (.int .u64 0), (.int .u8 0), (.int .u8 0), (.int .u8 0), (.int .u8 0), (.int .u8 0), (.int .u8 0), (.int .u8 0), (.int .u8 0), (.int .u8 0), (.int .u8 0), (.int .u8 0), (.int .u8 0), (.int .u8 0), (.int .u8 0), (.int .u8 0), (.int .u8 0), (.int .u8 0), (.int .u8 0), (.int .u8 0), (.int .u8 0), (.int .u8 0), (.int .u8 0), (.int .u8 0), (.int .u8 0), (.int .u8 0), (.int .u8 0), (.int .u8 0), (.int .u8 0), (.int .u8 0), (.int .u8 0), (.int .u8 0), (.int .u8 0), (.int .u8 0), (.int .u8 0), (.int .u8 0), (.int .u8 0), (.int .u8 0), (.int .u8 0), (.int .u8 0), (.int .u8 0), (.int .u8 0), (.int .u8 0), (.int .u8 0), (.int .u8 0), (.int .u8 0), (.int .u8 0), (.int .u8 0), (.int .u8 0), (.int .u8 0), (.int .u8 0), (.int .u8 0), (.int .u8 0), (.int .u8 0), (.int .u8 0), (.int .u8 0), (.int .u8 0), (.int .u8 0), (.int .u8 0), (.int .u8 0), (.int .u8 0), (.int .u8 0), (.int .u8 0), (.int .u8 0), (.int .u8 0), (.int .u32 0), (.int .u64 0), (.int .u64 0), (.int .u64 0), (.int .u32 0), (.slice none 0 0)] [(0, 1, (.c (.int .u8 3))), (1, 1, (.tm 7)), (2, 1, (.tm 0))], .tm, none⟩,
        ⟨.storen 78 (.fr 3) (.tm 0), .no, none⟩,
        ⟨.mov (.c (.bool false)), .fr 4, none⟩,
        ⟨.mov (.c (.int .i64 0)), .fr 5, none⟩]) <|
        .ret)
        (.seq (.reg [
        ⟨.faddr 0 (.fr 2), .tm, none⟩,
        ⟨.load1 (.tm 0), .tm, none⟩,
        ⟨.bin .eql (.tm 0) (.c (.int .u8 1)), .tm, none⟩,
        ⟨.mov (.tm 0), .fr 11, none⟩]) <|
        .cond (.fr 11)
          (.skip)
          (.seq (.reg [
          ⟨.mov (.fr 0), .tm, none⟩,
          ⟨.nilck (.tm 0), .tm, none⟩,
          ⟨.faddr 0 (.tm 0), .tm, none⟩,
          ⟨.load1 (.tm 0), .tm, none⟩,
          ⟨.eqv 1 false (.tm 0) (.c (.pointer none)), .tm, none⟩,
          ⟨.mov (.tm 0), .tm, none⟩,
          ⟨.loadn 70 (.fr 7), .tm, some ((.tm 0), false)⟩,
          ⟨.mov (.fr 0), .tm, some ((.tm 1), false)⟩,
          ⟨.nilck (.tm 0), .tm, some ((.tm 2), false)⟩,
          ⟨.faddr 0 (.tm 0), .tm, some ((.tm 3), false)⟩,
          ⟨.load1 (.tm 0), .tm, some ((.tm 4), false)⟩,
          ⟨.nilck (.tm 0), .tm, some ((.tm 5), false)⟩,
          ⟨.loadn 70 (.tm 0), .tm, some ((.tm 6), false)⟩,
          ⟨.callf 34 [(.tm 6), (.tm 0)], .tm, some ((.tm 7), false)⟩,
          ⟨.bin .neq (.tm 0) (.c (.int .i64 0)), .tm, some ((.tm 8), false)⟩,
          ⟨.pick (.tm 9) (.c (.bool true)) (.tm 0), .tm, none⟩,
          ⟨.mov (.tm 0), .fr 12, none⟩]) <|
          .cond (.fr 12)
            (.seq (.reg [
            ⟨.build [(.int .u8 0), (.int .i64 0), (.int .i64 0), (.int .i64 0), (.int .i64 0), (.int .u64 0), (.int .u64 0), (.int .u64 0), (.int .u8 0), (.int .u8 0), (.int .u8 0), (.int .u8 0), (.int .u8 0), (.int .u8 0), (.int .u8 0), (.int .u8 0), (.int .u8 0), (.int .u8 0), (.int .u8 0), (.int .u8 0), (.int .u8 0), (.int .u8 0), (.int .u8 0), (.int .u8 0), (.int .u8 0), (.int .u8 0), (.int .u8 0), (.int .u8 0), (.int .u8 0), (.int .u8 0), (.int .u8 0), (.int .u8 0), (.int .u8 0), (.int .u8 0), (.int .u8 0), (.int .u8 0), (.int .u8 0), (.int .u8 0), (.int .u8 0), (.int .u8 0), (.int .u8 0), (.int .u8 0), (.int .u8 0), (.int .u8 0), (.int .u8 0), (.int .u8 0), (.int .u8 0), (.int .u8 0), (.int .u8 0), (.int .u8 0), (.int .u8 0), (.int .u8 0), (.int .u8 0), (.int .u8 0), (.int .u8 0), (.int .u8 0), (.int .u8 0), (.int .u8 0), (.int .u8 0), (.int .u8 0), (.int .u8 0), (.int .u8 0), (.int .u8 0), (.int .u8 0), (.int .u8 0), (.int .u8 0), (.int .u8 0), (.int .u8 0), (.int .u8 0), (.int .u8 0), (.int .u8 0), (.int .u8 0), (.int .u32 0), (.int .u64 0), (.int .u64 0), (.int .u64 0), (.int .u32 0), (.slice none 0 0)] [(0, 1, (.c (.int .u8 4)))], .tm, none⟩,
            ⟨.storen 78 (.fr 3) (.tm 0), .no, none⟩,
            ⟨.mov (.c (.bool false)), .fr 4, none⟩,
            ⟨.mov (.c (.int .i64 0)), .fr 5, none⟩]) <|
            .ret)
            (.reg [
            ⟨.mov (.fr 0), .tm, none⟩,
            ⟨.nilck (.tm 0), .tm, none⟩,
            ⟨.faddr 0 (.tm 0), .tm, none⟩,
            ⟨.load1 (.tm 0), .tm, none⟩,
            ⟨.nilck (.tm 0), .tm, none⟩,
            ⟨.faddr 2 (.tm 0), .tm, none⟩,
            ⟨.loadn 68 (.tm 0), .tm, none⟩,
            ⟨.faddr 73 (.fr 2), .tm, none⟩,
            ⟨.loadn 5 (.tm 0), .tm, none⟩,
            ⟨.callf 10 [(.tm 2), (.tm 0)], .tm, none⟩,
            ⟨.mov (.tm 0), .tm, none⟩,
            ⟨.extract (.tm 0) 0, .tm, none⟩,
            ⟨.extract (.tm 1) 1, .tm, none⟩,
            ⟨.faddr 2 (.fr 6), .tm, none⟩,
            ⟨.storen 68 (.tm 0) (.tm 2), .no, none⟩]))))) <|
    .seq (.reg [
    ⟨.mov (.fr 0), .tm, none⟩,
    ⟨.nilck (.tm 0), .tm, none⟩,
    ⟨.faddr 0 (.tm 0), .tm, none⟩,
    ⟨.store1 (.tm 0) (.fr 6), .no, none⟩]) <|
    .seq (.reg [
    ⟨.faddr 0 (.fr 6), .tm, none⟩,
    ⟨.load1 (.tm 0), .tm, none⟩,
    ⟨.faddr 1 (.fr 6), .tm, none⟩,
    ⟨.load1 (.tm 0), .tm, none⟩,
    ⟨.build [(.int .u8 0), (.int .i64 0), (.int .i64 0), (.int .i64 0), (.int .i64 0), (.int .u64 0), (.int .u64 0), (.int .u64 0), (.int .u8 0), (.int .u8 0), (.int .u8 0), (.int .u8 0), (.int .u8 0), (.int .u8 0), (.int .u8 0), (.int .u8 0), (.int .u8 0), (.int .u8 0), (.int .u8 0), (.int .u8 0), (.int .u8 0), (.int .u8 0), (.int .u8 0), (.int .u8 0), (.int .u8 0), (.int .u8 0), (.int .u8 0), (.int .u8 0), (.int .u8 0), (.int .u8 0), (.int .u8 0), (.int .u8 0), (.int .u8 0), (.int .u8 0), (.int .u8 0), (.int .u8 0), (.int .u8 0), (.int .u8 0), (.int .u8 0), (.int .u8 0), (.int .u8 0), (.int .u8 0), (.int .u8 0), (.int .u8 0), (.int .u8 0), (.int .u8 0), (.int .u8 0), (.int .u8 0), (.int .u8 0), (.int .u8 0), (.int .u8 0), (.int .u8 0), (.int .u8 0), (.int .u8 0), (.int .u8 0), (.int .u8 0), (.int .u8 0), (.int .u8 0), (.int .u8 0), (.int .u8 0), (.int .u8 0), (.int .u8 0), (.int .u8 0), (.int .u8 0), (.int .u8 0), (.int .u8 0), (.int .u8 0), (.int .u8 0), (.int .u8 0), (.int .u8 0), (.int .u8 0), (.int .u8 0), (.int .u32 0), (.int .u64 0), (.int .u64 0), (.int .u64 0), (.int .u32 0), (.slice none 0 0)] [(0, 1, (.c (.int .u8 3))), (1, 1, (.tm 2)), (2, 1, (.tm 0))], .tm, none⟩,
    ⟨.storen 78 (.fr 3) (.tm 0), .no, none⟩,
    ⟨.mov (.c (.bool true)), .fr 4, none⟩,
    ⟨.mov (.c (.int .i64 0)), .fr 5, none⟩]) <|
    .ret⟩
/-- (*semaphore/repl.Sender).Hear -/
def e19 : EF := ⟨2, [0, 1, 3, 4, 5, 6, 7, 10, 19, 39], [.t 3],
    .seq (.reg [
    ⟨.box 41 78 (.fr 1), .fr 2, none⟩,
    ⟨.mov (.c (.int .i64 0)), .fr 3, none⟩]) <|
    .seq (.block 0 (.seq (.reg [
      ⟨.mov (.fr 0), .tm, none⟩,
      ⟨.eqv 1 false (.tm 0) (.c (.pointer none)), .tm, none⟩,
      ⟨.mov (.tm 0), .fr 6, none⟩]) <|
      .cond (.fr 6)
        (.seq (.reg [
        ⟨.mov (.c (.int .i64 1)), .fr 3, none⟩]) <|
        .ret)
        (.seq (.reg [
        ⟨.loadn 78 (.fr 2), .tm, none⟩,
        ⟨.callf 35 [(.tm 0)], .tm, none⟩,
        ⟨.un .not (.tm 0), .tm, none⟩,
        ⟨.mov (.tm 0), .tm, none⟩,
        ⟨.faddr 0 (.fr 2), .tm, some ((.tm 0), false)⟩,
        ⟨.load1 (.tm 0), .tm, some ((.tm 1), false)⟩,
        ⟨.bin .lss (.tm 0) (.c (.int .u8 3)), .tm, some ((.tm 2), false)⟩,
        ⟨.pick (.tm 3) (.c (.bool true)) (.tm 0), .tm, none⟩,
        ⟨.mov (.tm 0), .fr 7, none⟩]) <|
        .cond (.fr 7)
          (.seq (.reg [
          ⟨.mov (.c (.int .i64 2)), .fr 3, none⟩]) <|
          .ret)
          (.seq (.reg [
          ⟨.faddr 0 (.fr 2), .tm, none⟩,
          ⟨.load1 (.tm 0), .tm, none⟩,
          ⟨.bin .eql (.tm 0) (.c (.int .u8 4)), .tm, none⟩,
          ⟨.mov (.tm 0), .fr 8, none⟩]) <|
          .cond (.fr 8)
            (.seq (.reg [
            ⟨.mov (.fr 0), .tm, none⟩,
            ⟨.nilck (.tm 0), .tm, none⟩,
            ⟨.faddr 1 (.tm 0), .tm, none⟩,
            ⟨.store1 (.tm 0) (.c (.int .i64 0)), .no, none⟩]) <|
            .seq (.reg [
            ⟨.mov (.c (.int .i64 0)), .fr 3, none⟩]) <|
            .ret)
            (.skip))))) <|
    .seq (.reg [
    ⟨.mov (.fr 0), .tm, none⟩,
    ⟨.nilck (.tm 0), .tm, none⟩,
    ⟨.faddr 0 (.tm 0), .tm, none⟩,
    ⟨.load1 (.tm 0), .tm, none⟩,
    ⟨.faddr 1 (.fr 2), .tm, none⟩,
    ⟨.load1 (.tm 0), .tm, none⟩,
    ⟨.faddr 2 (.fr 2), .tm, none⟩,
    ⟨.load1 (.tm 0), .tm, none⟩,
    ⟨.build [(.int .i64 0), (.int .i64 0), (.int .u64 0), (.int .u64 0), (.int .u64 0), (.int .u8 0), (.int .u8 0), (.int .u8 0), (.int .u8 0), (.int .u8 0), (.int .u8 0), (.int .u8 0), (.int .u8 0), (.int .u8 0), (.int .u8 0), (.int .u8 0), (.int .u8 0), (.int .u8 0), (.int .u8 0), (.int .u8 0), (.int .u8 0), (.int .u8 0), (.int .u8 0), (.int .u8 0), (.int .u8 0), (.int .u8 0), (.int .u8 0), (.int .u8 0), (.int .u8 0), (.int .u8 0), (.int .u8 0), (.int .u8 0), (.int .u8 0), (.int .u8 0), (.int .u8 0), (.int .u8 0), (.int .u8 0), (.int .u8 0), (.int .u8 0), (.int .u8 0), (.int .u8 0), (.int .u8 0), (.int .u8 0), (.int .u8 0), (.int .u8 0), (.int .u8 0), (.int .u8 0), (.int .u8 0), (.int .u8 0), (.int .u8 0), (.int .u8 0), (.int .u8 0), (.int .u8 0), (.int .u8 0), (.int .u8 0), (.int .u8 0), (.int .u8 0), (.int .u8 0), (.int .u8 0), (.int .u8 0), (.int .u8 0), (.int .u8 0), (.int .u8 0), (.int .u8 0), (.int .u8 0), (.int .u8 0), (.int .u8 0), (.int .u8 0), (.int .u8 0), (.int .u32 0)] [(0, 1, (.tm 2)), (1, 1, (.tm 0))], .tm, none⟩,
    ⟨.callf 36 [(.tm 5), (.tm 0), (.fn 34)], .tm, none⟩,
    ⟨.mov (.tm 0), .tm, none⟩,
    ⟨.extract (.tm 0) 0, .tm, none⟩,
    ⟨.extract (.tm 1) 1, .tm, none⟩,
    ⟨.mov (.tm 1), .fr 4, none⟩,
    ⟨.mov (.tm 0), .fr 5, none⟩]) <|
    .seq (.seq (.reg [
    ⟨.mov (.fr 5), .fr 9, none⟩]) <|
    .cond (.fr 9)
      (.reg [
      ⟨.mov (.fr 0), .tm, none⟩,
      ⟨.mov (.fr 0), .tm, none⟩,
      ⟨.nilck (.tm 0), .tm, none⟩,
      ⟨.faddr 1 (.tm 0), .tm, none⟩,
      ⟨.load1 (.tm 0), .tm, none⟩,
      ⟨.mov (.fr 4), .tm, none⟩,
      ⟨.bin .add (.tm 0) (.c (.int .i64 1)), .tm, none⟩,
      ⟨.mm true (.tm 2) (.tm 0), .tm, none⟩,
      ⟨.nilck (.tm 7), .tm, none⟩,
      ⟨.faddr 1 (.tm 0), .tm, none⟩,
      ⟨.store1 (.tm 0) (.tm 2), .no, none⟩])
      (.skip)) <|
    .seq (.reg [
    ⟨.mov (.c (.int .i64 0)), .fr 3, none⟩]) <|
    .ret⟩
/-- (*semaphore/repl.Receiver).Has -/
def e20 : EF := ⟨1, [0, 2, 3, 12], [.cn 70 1, .t 2],
    .seq (.reg [
    ⟨.new 54 70 [(.int .i64 0), (.int .i64 0), (.int .u64 0), (.int .u64 0), (.int .u64 0), (.int .u8 0), (.int .u8 0), (.int .u8 0), (.int .u8 0), (.int .u8 0), (.int .u8 0), (.int .u8 0), (.int .u8 0), (.int .u8 0), (.int .u8 0), (.int .u8 0), (.int .u8 0), (.int .u8 0), (.int .u8 0), (.int .u8 0), (.int .u8 0), (.int .u8 0), (.int .u8 0), (.int .u8 0), (.int .u8 0), (.int .u8 0), (.int .u8 0), (.int .u8 0), (.int .u8 0), (.int .u8 0), (.int .u8 0), (.int .u8 0), (.int .u8 0), (.int .u8 0), (.int .u8 0), (.int .u8 0), (.int .u8 0), (.int .u8 0), (.int .u8 0), (.int .u8 0), (.int .u8 0), (.int .u8 0), (.int .u8 0), (.int .u8 0), (.int .u8 0), (.int .u8 0), (.int .u8 0), (.int .u8 0), (.int .u8 0), (.int .u8 0), (.int .u8 0), (.int .u8 0), (.int .u8 0), (.int .u8 0), (.int .u8 0), (.int .u8 0), (.int .u8 0), (.int .u8 0), (.int .u8 0), (.int .u8 0), (.int .u8 0), (.int .u8 0), (.int .u8 0), (.int .u8 0), (.int .u8 0), (.int .u8 0), (.int .u8 0), (.int .u8 0), (.int .u8 0), (.int .u32 0)], .fr 1, none⟩,
    ⟨.mov (.c (.bool false)), .fr 2, none⟩]) <|
    .seq (.seq (.reg [
    ⟨.mov (.fr 0), .tm, none⟩,
    ⟨.eqv 1 false (.tm 0) (.c (.pointer none)), .tm, none⟩,
    ⟨.mov (.tm 0), .tm, none⟩,
    ⟨.mov (.fr 0), .tm, some ((.tm 0), false)⟩,
    ⟨.nilck (.tm 0), .tm, some ((.tm 1), false)⟩,
    ⟨.faddr 0 (.tm 0), .tm, some ((.tm 2), false)⟩,
    ⟨.load1 (.tm 0), .tm, some ((.tm 3), false)⟩,
    ⟨.eqv 1 false (.tm 0) (.c (.pointer none)), .tm, some ((.tm 4), false)⟩,
    ⟨.pick (.tm 5) (.c (.bool true)) (.tm 0), .fr 3, none⟩]) <|
    .cond (.fr 3)
      (.seq (.reg [
      ⟨.build [(.int .i64 0), (.int .i64 0), (.int .u64 0), (.int .u64 0), (.int .u64 0), (.int .u8 0), (.int .u8 0), (.int .u8 0), (.int .u8 0), (.int .u8 0), (.int .u8 0), (.int .u8 0), (.int .u8 0), (.int .u8 0), (.int .u8 0), (.int .u8 0), (.int .u8 0), (.int .u8 0), (.int .u8 0), (.int .u8 0), (.int .u8 0), (.int .u8 0), (.int .u8 0), (.int .u8 0), (.int .u8 0), (.int .u8 0), (.int .u8 0), (.int .u8 0), (.int .u8 0), (.int .u8 0), (.int .u8 0), (.int .u8 0), (.int .u8 0), (.int .u8 0), (.int .u8 0), (.int .u8 0), (.int .u8 0), (.int .u8 0), (.int .u8 0), (.int .u8 0), (.int .u8 0), (.int .u8 0), (.int .u8 0), (.int .u8 0), (.int .u8 0), (.int .u8 0), (.int .u8 0), (.int .u8 0), (.int .u8 0), (.int .u8 0), (.int .u8 0), (.int .u8 0), (.int .u8 0), (.int .u8 0), (.int .u8 0), (.int .u8 0), (.int .u8 0), (.int .u8 0), (.int .u8 0), (.int .u8 0), (.int .u8 0), (.int .u8 0), (.int .u8 0), (.int .u8 0), (.int .u8 0), (.int .u8 0), (.int .u8 0), (.int .u8 0), (.int .u8 0), (.int .u32 0)] [], .tm, none⟩,
      ⟨.storen 70 (.fr 1) (.tm 0), .no, none⟩,
      ⟨.mov (.c (.bool false)), .fr 2, none⟩]) <|
      .ret)
      (.skip)) <|
    .seq (.reg [
    ⟨.mov (.fr 0), .tm, none⟩,
    ⟨.nilck (.tm 0), .tm, none⟩,
    ⟨.faddr 0 (.tm 0), .tm, none⟩,
    ⟨.load1 (.tm 0), .tm, none⟩,
    ⟨.nilck (.tm 0), .tm, none⟩,
    ⟨.loadn 70 (.tm 0), .tm, none⟩,
    ⟨.storen 70 (.fr 1) (.tm 0), .no, none⟩,
    ⟨.mov (.c (.bool true)), .fr 2, none⟩]) <|
    .ret⟩
/-- (*semaphore/repl.Sender).Acked -/
def e29 : EF := ⟨1, [0, 2, 3, 12], [.cn 70 1, .t 2],
    .seq (.reg [
    ⟨.new 54 70 [(.int .i64 0), (.int .i64 0), (.int .u64 0), (.int .u64 0), (.int .u64 0), (.int .u8 0), (.int .u8 0), (.int .u8 0), (.int .u8 0), (.int .u8 0), (.int .u8 0), (.int .u8 0), (.int .u8 0), (.int .u8 0), (.int .u8 0), (.int .u8 0), (.int .u8 0), (.int .u8 0), (.int .u8 0), (.int .u8 0), (.int .u8 0), (.int .u8 0), (.int .u8 0), (.int .u8 0), (.int .u8 0), (.int .u8 0), (.int .u8 0), (.int .u8 0), (.int .u8 0), (.int .u8 0), (.int .u8 0), (.int .u8 0), (.int .u8 0), (.int .u8 0), (.int .u8 0), (.int .u8 0), (.int .u8 0), (.int .u8 0), (.int .u8 0), (.int .u8 0), (.int .u8 0), (.int .u8 0), (.int .u8 0), (.int .u8 0), (.int .u8 0), (.int .u8 0), (.int .u8 0), (.int .u8 0), (.int .u8 0), (.int .u8 0), (.int .u8 0), (.int .u8 0), (.int .u8 0), (.int .u8 0), (.int .u8 0), (.int .u8 0), (.int .u8 0), (.int .u8 0), (.int .u8 0), (.int .u8 0), (.int .u8 0), (.int .u8 0), (.int .u8 0), (.int .u8 0), (.int .u8 0), (.int .u8 0), (.int .u8 0), (.int .u8 0), (.int .u8 0), (.int .u32 0)], .fr 1, none⟩,
    ⟨.mov (.c (.bool false)), .fr 2, none⟩]) <|
    .seq (.seq (.reg [
    ⟨.mov (.fr 0), .tm, none⟩,
    ⟨.eqv 1 false (.tm 0) (.c (.pointer none)), .tm, none⟩,
    ⟨.mov (.tm 0), .tm, none⟩,
    ⟨.mov (.fr 0), .tm, some ((.tm 0), false)⟩,
    ⟨.nilck (.tm 0), .tm, some ((.tm 1), false)⟩,
    ⟨.faddr 1 (.tm 0), .tm, some ((.tm 2), false)⟩,
    ⟨.load1 (.tm 0), .tm, some ((.tm 3), false)⟩,
    ⟨.bin .eql (.tm 0) (.c (.int .i64 0)), .tm, some ((.tm 4), false)⟩,
    ⟨.pick (.tm 5) (.c (.bool true)) (.tm 0), .fr 3, none⟩]) <|
    .cond (.fr 3)
      (.seq (.reg [
      ⟨.build [(.int .i64 0), (.int .i64 0), (.int .u64 0), (.int .u64 0), (.int .u64 0), (.int .u8 0), (.int .u8 0), (.int .u8 0), (.int .u8 0), (.int .u8 0), (.int .u8 0), (.int .u8 0), (.int .u8 0), (.int .u8 0), (.int .u8 0), (.int .u8 0), (.int .u8 0), (.int .u8 0), (.int .u8 0), (.int .u8 0), (.int .u8 0), (.int .u8 0), (.int .u8 0), (.int .u8 0), (.int .u8 0), (.int .u8 0), (.int .u8 0), (.int .u8 0), (.int .u8 0), (.int .u8 0), (.int .u8 0), (.int .u8 0), (.int .u8 0), (.int .u8 0), (.int .u8 0), (.int .u8 0), (.int .u8 0), (.int .u8 0), (.int .u8 0), (.int .u8 0), (.int .u8 0), (.int .u8 0), (.int .u8 0), (.int .u8 0), (.int .u8 0), (.int .u8 0), (.int .u8 0), (.int .u8 0), (.int .u8 0), (.int .u8 0), (.int .u8 0), (.int .u8 0), (.int .u8 0), (.int .u8 0), (.int .u8 0), (.int .u8 0), (.int .u8 0), (.int .u8 0), (.int .u8 0), (.int .u8 0), (.int .u8 0), (.int .u8 0), (.int .u8 0), (.int .u8 0), (.int .u8 0), (.int .u8 0), (.int .u8 0), (.int .u8 0), (.int .u8 0), (.int .u32 0)] [], .tm, none⟩,
      ⟨.storen 70 (.fr 1) (.tm 0), .no, none⟩,
      ⟨.mov (.c (.bool false)), .fr 2, none⟩]) <|
      .ret)
      (.skip)) <|
    .seq (.reg [
    ⟨.mov (.fr 0), .tm, none⟩,
    ⟨.nilck (.tm 0), .tm, none⟩,
    ⟨.faddr 0 (.tm 0), .tm, none⟩,
    ⟨.load1 (.tm 0), .tm, none⟩,
    ⟨.mov (.fr 0), .tm, none⟩,
    ⟨.nilck (.tm 0), .tm, none⟩,
    ⟨.faddr 1 (.tm 0), .tm, none⟩,
    ⟨.load1 (.tm 0), .tm, none⟩,
    ⟨.bin .sub (.tm 0) (.c (.int .i64 1)), .tm, none⟩,
    ⟨.iaddr 70 (.tm 5) (.tm 0), .tm, none⟩,
    ⟨.loadn 70 (.tm 0), .tm, none⟩,
    ⟨.storen 70 (.fr 1) (.tm 0), .no, none⟩,
    ⟨.mov (.c (.bool true)), .fr 2, none⟩]) <|
    .ret⟩
/-- (semaphore/repl.Delta).right -/
def e31 : EF := ⟨1, [0, 1, 2, 3, 5, 7, 8, 9, 10, 21], [.t 2],
    .seq (.reg [
    ⟨.box 29 5 (.fr 0), .fr 1, none⟩,
    ⟨.mov (.c (.bool false)), .fr 2, none⟩]) <|
    .seq (.reg [
    ⟨.mov (.c (.int .i64 (-1))), .fr 3, none⟩]) <|
    .seq (.seq (.reg [
    ⟨.faddr 4 (.fr 1), .tm, none⟩,
    ⟨.load1 (.tm 0), .fr 5, none⟩,
    ⟨.len false (.fr 5), .fr 6, none⟩,
    ⟨.mov (.c (.int .i64 0)), .fr 7, none⟩]) <|
    .block 0 (.loop (.seq (.reg [
        ⟨.bin .lss (.fr 7) (.fr 6), .fr 8, none⟩]) <|
        .seq (.cond (.fr 8)
          (.skip)
          (.exit 0)) <|
        .seq (.block 1 (.seq (.reg [
          ⟨.iaddr 2 (.fr 5) (.fr 7), .tm, none⟩,
          ⟨.loadn 2 (.tm 0), .tm, none⟩,
          ⟨.new 90 2 [(.int .i64 0), (.int .u8 0)], .fr 4, none⟩,
          ⟨.storen 2 (.fr 4) (.tm 0), .no, none⟩]) <|
          .seq (.seq (.reg [
          ⟨.faddr 0 (.fr 4), .tm, none⟩,
          ⟨.load1 (.tm 0), .tm, none⟩,
          ⟨.mov (.fr 3), .tm, none⟩,
          ⟨.bin .leq (.tm 1) (.tm 0), .tm, none⟩,
          ⟨.mov (.tm 0), .tm, none⟩,
          ⟨.faddr 0 (.fr 4), .tm, some ((.tm 0), false)⟩,
          ⟨.load1 (.tm 0), .tm, some ((.tm 1), false)⟩,
          ⟨.bin .geq (.tm 0) (.c (.int .i64 64)), .tm, some ((.tm 2), false)⟩,
          ⟨.pick (.tm 3) (.c (.bool true)) (.tm 0), .fr 9, none⟩]) <|
          .cond (.fr 9)
            (.seq (.reg [
            ⟨.mov (.c (.bool false)), .fr 2, none⟩]) <|
            .ret)
            (.skip)) <|
          .reg [
          ⟨.faddr 0 (.fr 4), .tm, none⟩,
          ⟨.load1 (.tm 0), .tm, none⟩,
          ⟨.mov (.tm 0), .fr 3, none⟩])) <|
        .reg [
        ⟨.bin .add (.fr 7) (.c (.int .i64 1)), .tm, none⟩,
        ⟨.mov (.tm 0), .fr 7, none⟩]))) <|
    .seq (.reg [
    ⟨.mov (.c (.bool true)), .fr 2, none⟩]) <|
    .ret⟩
/-- semaphore/repl.in -/
def e33 : EF := ⟨1, [0, 2], [.t 1],
    .seq (.reg [
    ⟨.mov (.c (.bool false)), .fr 1, none⟩]) <|
    .seq (.reg [
    ⟨.mov (.fr 0), .tm, none⟩,
    ⟨.callf 64 [(.tm 0)], .tm, none⟩,
    ⟨.bin .geq (.tm 0) (.c (.int .i64 0)), .tm, none⟩,
    ⟨.mov (.tm 0), .tm, none⟩,
    ⟨.mov (.fr 0), .tm, some ((.tm 0), true)⟩,
    ⟨.callf 65 [(.tm 0)], .tm, some ((.tm 1), true)⟩,
    ⟨.bin .leq (.tm 0) (.c (.int .i64 1099511627776)), .tm, some ((.tm 2), true)⟩,
    ⟨.pick (.tm 3) (.tm 0) (.c (.bool false)), .tm, none⟩,
    ⟨.mov (.tm 0), .fr 1, none⟩]) <|
    .ret⟩
/-- semaphore/repl.compare -/
def e34 : EF := ⟨2, [0, 1, 2, 3, 4], [.t 4],
    .seq (.reg [
    ⟨.box 54 70 (.fr 0), .fr 2, none⟩,
    ⟨.box 54 70 (.fr 1), .fr 3, none⟩,
    ⟨.mov (.c (.int .i64 0)), .fr 4, none⟩]) <|
    .seq (.dreg [
    (⟨.faddr 0 (.fr 2), .tm, none⟩, []),
    (⟨.load1 (.tm 0), .tm, none⟩, []),
    (⟨.faddr 0 (.fr 3), .tm, none⟩, []),
    (⟨.load1 (.tm 0), .tm, none⟩, []),
    (⟨.callf 67 [(.tm 2), (.tm 0)], .tm, none⟩, []),
    (⟨.faddr 1 (.fr 2), .tm, none⟩, []),
    (⟨.load1 (.tm 0), .tm, none⟩, [4]),
    (⟨.faddr 1 (.fr 3), .tm, none⟩, []),
    (⟨.load1 (.tm 0), .tm, none⟩, [4]),
    (⟨.callf 67 [(.tm 2), (.tm 0)], .tm, none⟩, []),
    (⟨.bslice 3 1 2 [(.int .i64 0), (.int .i64 0)] [(0, 1, (.tm 5)), (1, 1, (.tm 0))], .tm, none⟩, []),
    (⟨.callf 66 [(.tm 0)], .tm, none⟩, []),
    (⟨.mov (.tm 0), .fr 4, none⟩, [])]) <|
    .ret⟩
/-- (semaphore/repl.Message).may -/
def e35 : EF := ⟨1, [0, 1, 2], [.t 2],
    .seq (.reg [
    ⟨.box 41 78 (.fr 0), .fr 1, none⟩,
    ⟨.mov (.c (.bool false)), .fr 2, none⟩]) <|
    .seq (.reg [
    ⟨.faddr 0 (.fr 1), .tm, none⟩,
    ⟨.load1 (.tm 0), .tm, none⟩,
    ⟨.bin .geq (.tm 0) (.c (.int .u8 1)), .tm, none⟩,
    ⟨.mov (.tm 0), .tm, none⟩,
    ⟨.faddr 0 (.fr 1), .tm, some ((.tm 0), true)⟩,
    ⟨.load1 (.tm 0), .tm, some ((.tm 1), true)⟩,
    ⟨.bin .leq (.tm 0) (.c (.int .u8 4)), .tm, some ((.tm 2), true)⟩,
    ⟨.pick (.tm 3) (.tm 0) (.c (.bool false)), .tm, none⟩,
    ⟨.mov (.tm 0), .tm, none⟩,
    ⟨.faddr 1 (.fr 1), .tm, some ((.tm 0), true)⟩,
    ⟨.load1 (.tm 0), .tm, some ((.tm 1), true)⟩,
    ⟨.faddr 2 (.fr 1), .tm, some ((.tm 2), true)⟩,
    ⟨.load1 (.tm 0), .tm, some ((.tm 3), true)⟩,
    ⟨.faddr 3 (.fr 1), .tm, some ((.tm 4), true)⟩,
    ⟨.load1 (.tm 0), .tm, some ((.tm 5), true)⟩,
    ⟨.faddr 4 (.fr 1), .tm, some ((.tm 6), true)⟩,
    ⟨.load1 (.tm 0), .tm, some ((.tm 7), true)⟩,
    ⟨.bslice 2 1 4 [(.int .i64 0), (.int .i64 0), (.int .i64 0), (.int .i64 0)] [(0, 1, (.tm 6)), (1, 1, (.tm 4)), (2, 1, (.tm 2)), (3, 1, (.tm 0))], .tm, some ((.tm 8), true)⟩,
    ⟨.callf 33 [(.tm 0)], .tm, some ((.tm 9), true)⟩,
    ⟨.pick (.tm 10) (.tm 0) (.c (.bool false)), .tm, none⟩,
    ⟨.mov (.tm 0), .tm, none⟩,
    ⟨.faddr 73 (.fr 1), .tm, some ((.tm 0), true)⟩,
    ⟨.loadn 5 (.tm 0), .tm, some ((.tm 1), true)⟩,
    ⟨.callf 31 [(.tm 0)], .tm, some ((.tm 2), true)⟩,
    ⟨.pick (.tm 3) (.tm 0) (.c (.bool false)), .tm, none⟩,
    ⟨.mov (.tm 0), .fr 2, none⟩]) <|
    .ret⟩
/-- slices.BinarySearchFunc[[]semaphore/frame.Log,semaphore/frame.Log,semaphore/frame.Log] -/
def e36 : EF := ⟨3, [0, 1, 2, 4, 6, 7, 8, 9, 10, 11, 17, 31], [.t 4, .t 5],
    .seq (.reg [
    ⟨.box 54 70 (.fr 1), .fr 3, none⟩,
    ⟨.mov (.c (.int .i64 0)), .fr 4, none⟩,
    ⟨.mov (.c (.bool false)), .fr 5, none⟩]) <|
    .seq (.reg [
    ⟨.mov (.fr 0), .tm, none⟩,
    ⟨.len false (.tm 0), .tm, none⟩,
    ⟨.mov (.tm 0), .fr 6, none⟩]) <|
    .seq (.reg [
    ⟨.mov (.fr 6), .tm, none⟩,
    ⟨.mov (.c (.int .i64 0)), .fr 7, none⟩,
    ⟨.mov (.tm 0), .fr 8, none⟩]) <|
    .seq (.block 0 (.loop (.seq (.seq (.reg [
        ⟨.mov (.fr 7), .tm, none⟩,
        ⟨.mov (.fr 8), .tm, none⟩,
        ⟨.bin .lss (.tm 1) (.tm 0), .fr 10, none⟩]) <|
        .cond (.fr 10)
          (.skip)
          (.exit 0)) <|
        .block 1 (.seq (.reg [
          ⟨.mov (.fr 7), .tm, none⟩,
          ⟨.mov (.fr 8), .tm, none⟩,
          ⟨.bin .add (.tm 1) (.tm 0), .tm, none⟩,
          ⟨.i2i .u64 (.tm 0), .tm, none⟩,
          ⟨.bin .shr (.tm 0) (.c (.int .u64 1)), .tm, none⟩,
          ⟨.i2i .i64 (.tm 0), .tm, none⟩,
          ⟨.mov (.tm 0), .fr 9, none⟩]) <|
          .seq (.reg [
          ⟨.mov (.fr 2), .tm, none⟩,
          ⟨.mov (.fr 0), .tm, none⟩,
          ⟨.mov (.fr 9), .tm, none⟩,
          ⟨.iaddr 70 (.tm 1) (.tm 0), .tm, none⟩,
          ⟨.loadn 70 (.tm 0), .tm, none⟩,
          ⟨.loadn 70 (.fr 3), .tm, none⟩,
          ⟨.callv (.tm 5) [(.tm 1), (.tm 0)], .tm, none⟩,
          ⟨.bin .lss (.tm 0) (.c (.int .i64 0)), .fr 11, none⟩]) <|
          .cond (.fr 11)
            (.reg [
            ⟨.mov (.fr 9), .tm, none⟩,
            ⟨.bin .add (.tm 0) (.c (.int .i64 1)), .tm, none⟩,
            ⟨.mov (.tm 0), .fr 7, none⟩])
            (.reg [
            ⟨.mov (.fr 9), .tm, none⟩,
            ⟨.mov (.tm 0), .fr 8, none⟩]))))) <|
    .seq (.reg [
    ⟨.mov (.fr 7), .tm, none⟩,
    ⟨.mov (.fr 7), .tm, none⟩,
    ⟨.mov (.fr 6), .tm, none⟩,
    ⟨.bin .lss (.tm 1) (.tm 0), .tm, none⟩,
    ⟨.mov (.tm 0), .tm, none⟩,
    ⟨.mov (.fr 2), .tm, some ((.tm 0), true)⟩,
    ⟨.mov (.fr 0), .tm, some ((.tm 1), true)⟩,
    ⟨.mov (.fr 7), .tm, some ((.tm 2), true)⟩,
    ⟨.iaddr 70 (.tm 1) (.tm 0), .tm, some ((.tm 3), true)⟩,
    ⟨.loadn 70 (.tm 0), .tm, some ((.tm 4), true)⟩,
    ⟨.loadn 70 (.fr 3), .tm, some ((.tm 5), true)⟩,
    ⟨.callv (.tm 5) [(.tm 1), (.tm 0)], .tm, some ((.tm 6), true)⟩,
    ⟨.bin .eql (.tm 0) (.c (.int .i64 0)), .tm, some ((.tm 7), true)⟩,
    ⟨.pick (.tm 8) (.tm 0) (.c (.bool false)), .tm, none⟩,
    ⟨.mov (.tm 13), .fr 4, none⟩,
    ⟨.mov (.tm 0), .fr 5, none⟩]) <|
    .ret⟩
/-- slices.Min[[]int64,int64] -/
def e64 : EF := ⟨1, [0, 2, 3, 4, 7, 15], [.t 1],
    .seq (.reg [
    ⟨.mov (.c (.int .i64 0)), .fr 1, none⟩]) <|
    .seq (.seq (.reg [
    ⟨.mov (.fr 0), .tm, none⟩,
    ⟨.len false (.tm 0), .tm, none⟩,
    ⟨.bin .lss (.tm 0) (.c (.int .i64 1)), .fr 4, none⟩]) <|
    .cond (.fr 4)
      (.reg [
      ⟨.iface 9 (.c (.string ⟨#[115, 108, 105, 99, 101, 115, 46, 77, 105, 110, 58, 32, 101, 109, 112, 116, 121, 32, 108, 105, 115, 116]⟩)), .tm, none⟩,
      ⟨.bad, .no, none⟩])
      (.skip)) <|
    .seq (.reg [
    ⟨.mov (.fr 0), .tm, none⟩,
    ⟨.iaddr 1 (.tm 0) (.c (.int .i64 0)), .tm, none⟩,
    ⟨.load1 (.tm 0), .tm, none⟩,
    ⟨.mov (.tm 0), .fr 2, none⟩]) <|
    .seq (.seq (.reg [
    ⟨.mov (.c (.int .i64 1)), .fr 3, none⟩]) <|
    .block 0 (.loop (.seq (.seq (.reg [
        ⟨.mov (.fr 3), .tm, none⟩,
        ⟨.mov (.fr 0), .tm, none⟩,
        ⟨.len false (.tm 0), .tm, none⟩,
        ⟨.bin .lss (.tm 2) (.tm 0), .fr 5, none⟩]) <|
        .cond (.fr 5)
          (.skip)
          (.exit 0)) <|
        .seq (.block 1 (.reg [
          ⟨.mov (.fr 2), .tm, none⟩,
          ⟨.mov (.fr 0), .tm, none⟩,
          ⟨.mov (.fr 3), .tm, none⟩,
          ⟨.iaddr 1 (.tm 1) (.tm 0), .tm, none⟩,
          ⟨.load1 (.tm 0), .tm, none⟩,
          ⟨.mm false (.tm 4) (.tm 0), .tm, none⟩,
          ⟨.mov (.tm 0), .fr 2, none⟩])) <|
        .reg [
        ⟨.mov (.fr 3), .tm, none⟩,
        ⟨.bin .add (.tm 0) (.c (.int .i64 1)), .tm, none⟩,
        ⟨.mov (.tm 0), .fr 3, none⟩]))) <|
    .seq (.reg [
    ⟨.mov (.fr 2), .tm, none⟩,
    ⟨.mov (.tm 0), .fr 1, none⟩]) <|
    .ret⟩
/-- slices.Max[[]int64,int64] -/
def e65 : EF := ⟨1, [0, 2, 3, 4, 7, 15], [.t 1],
    .seq (.reg [
    ⟨.mov (.c (.int .i64 0)), .fr 1, none⟩]) <|
    .seq (.seq (.reg [
    ⟨.mov (.fr 0), .tm, none⟩,
    ⟨.len false (.tm 0), .tm, none⟩,
    ⟨.bin .lss (.tm 0) (.c (.int .i64 1)), .fr 4, none⟩]) <|
    .cond (.fr 4)
      (.reg [
      ⟨.iface 9 (.c (.string ⟨#[115, 108, 105, 99, 101, 115, 46, 77, 97, 120, 58, 32, 101, 109, 112, 116, 121, 32, 108, 105, 115, 116]⟩)), .tm, none⟩,
      ⟨.bad, .no, none⟩])
      (.skip)) <|
    .seq (.reg [
    ⟨.mov (.fr 0), .tm, none⟩,
    ⟨.iaddr 1 (.tm 0) (.c (.int .i64 0)), .tm, none⟩,
    ⟨.load1 (.tm 0), .tm, none⟩,
    ⟨.mov (.tm 0), .fr 2, none⟩]) <|
    .seq (.seq (.reg [
    ⟨.mov (.c (.int .i64 1)), .fr 3, none⟩]) <|
    .block 0 (.loop (.seq (.seq (.reg [
        ⟨.mov (.fr 3), .tm, none⟩,
        ⟨.mov (.fr 0), .tm, none⟩,
        ⟨.len false (.tm 0), .tm, none⟩,
        ⟨.bin .lss (.tm 2) (.tm 0), .fr 5, none⟩]) <|
        .cond (.fr 5)
          (.skip)
          (.exit 0)) <|
        .seq (.block 1 (.reg [
          ⟨.mov (.fr 2), .tm, none⟩,
          ⟨.mov (.fr 0), .tm, none⟩,
          ⟨.mov (.fr 3), .tm, none⟩,
          ⟨.iaddr 1 (.tm 1) (.tm 0), .tm, none⟩,
          ⟨.load1 (.tm 0), .tm, none⟩,
          ⟨.mm true (.tm 4) (.tm 0), .tm, none⟩,
          ⟨.mov (.tm 0), .fr 2, none⟩])) <|
        .reg [
        ⟨.mov (.fr 3), .tm, none⟩,
        ⟨.bin .add (.tm 0) (.c (.int .i64 1)), .tm, none⟩,
        ⟨.mov (.tm 0), .fr 3, none⟩]))) <|
    .seq (.reg [
    ⟨.mov (.fr 2), .tm, none⟩,
    ⟨.mov (.tm 0), .fr 1, none⟩]) <|
    .ret⟩
/-- cmp.Or[int] -/
def e66 : EF := ⟨1, [0, 2, 3, 5, 6, 7, 8, 9, 14], [.t 1],
    .seq (.reg [
    ⟨.mov (.c (.int .i64 0)), .fr 1, none⟩]) <|
    .seq (.reg [
    ⟨.mov (.c (.int .i64 0)), .fr 2, none⟩]) <|
    .seq (.seq (.reg [
    ⟨.mov (.fr 0), .fr 4, none⟩,
    ⟨.len false (.fr 4), .fr 5, none⟩,
    ⟨.mov (.c (.int .i64 0)), .fr 6, none⟩]) <|
    .block 0 (.loop (.seq (.reg [
        ⟨.bin .lss (.fr 6) (.fr 5), .fr 7, none⟩]) <|
        .seq (.cond (.fr 7)
          (.skip)
          (.exit 0)) <|
        .seq (.block 1 (.seq (.reg [
          ⟨.iaddr 1 (.fr 4) (.fr 6), .tm, none⟩,
          ⟨.load1 (.tm 0), .tm, none⟩,
          ⟨.mov (.tm 0), .fr 3, none⟩]) <|
          .seq (.reg [
          ⟨.mov (.fr 3), .tm, none⟩,
          ⟨.mov (.fr 2), .tm, none⟩,
          ⟨.bin .neq (.tm 1) (.tm 0), .fr 8, none⟩]) <|
          .cond (.fr 8)
            (.seq (.reg [
            ⟨.mov (.fr 3), .tm, none⟩,
            ⟨.mov (.tm 0), .fr 1, none⟩]) <|
            .ret)
            (.skip))) <|
        .reg [
        ⟨.bin .add (.fr 6) (.c (.int .i64 1)), .tm, none⟩,
        ⟨.mov (.tm 0), .fr 6, none⟩]))) <|
    .seq (.reg [
    ⟨.mov (.fr 2), .tm, none⟩,
    ⟨.mov (.tm 0), .fr 1, none⟩]) <|
    .ret⟩
/-- cmp.Compare[int64] -/
def e67 : EF := ⟨2, [0, 1, 4, 5, 6, 11, 12, 13, 16, 19], [.t 2],
    .seq (.reg [
    ⟨.mov (.c (.int .i64 0)), .fr 2, none⟩]) <|
    .seq (.reg [
    ⟨.mov (.fr 0), .tm, none⟩,
    ⟨.callf 85 [(.tm 0)], .tm, none⟩,
    ⟨.mov (.tm 0), .fr 3, none⟩]) <|
    .seq (.reg [
    ⟨.mov (.fr 1), .tm, none⟩,
    ⟨.callf 85 [(.tm 0)], .tm, none⟩,
    ⟨.mov (.tm 0), .fr 4, none⟩]) <|
    .seq (.seq (.reg [
    ⟨.mov (.fr 3), .fr 5, none⟩]) <|
    .cond (.fr 5)
      (.seq (.seq (.reg [
      ⟨.mov (.fr 4), .fr 6, none⟩]) <|
      .cond (.fr 6)
        (.seq (.reg [
        ⟨.mov (.c (.int .i64 0)), .fr 2, none⟩]) <|
        .ret)
        (.skip)) <|
      .seq (.reg [
      ⟨.mov (.c (.int .i64 (-1))), .fr 2, none⟩]) <|
      .ret)
      (.skip)) <|
    .seq (.seq (.reg [
    ⟨.mov (.fr 4), .fr 7, none⟩]) <|
    .cond (.fr 7)
      (.seq (.reg [
      ⟨.mov (.c (.int .i64 1)), .fr 2, none⟩]) <|
      .ret)
      (.skip)) <|
    .seq (.seq (.reg [
    ⟨.mov (.fr 0), .tm, none⟩,
    ⟨.mov (.fr 1), .tm, none⟩,
    ⟨.bin .lss (.tm 1) (.tm 0), .fr 8, none⟩]) <|
    .cond (.fr 8)
      (.seq (.reg [
      ⟨.mov (.c (.int .i64 (-1))), .fr 2, none⟩]) <|
      .ret)
      (.skip)) <|
    .seq (.seq (.reg [
    ⟨.mov (.fr 0), .tm, none⟩,
    ⟨.mov (.fr 1), .tm, none⟩,
    ⟨.bin .gtr (.tm 1) (.tm 0), .fr 9, none⟩]) <|
    .cond (.fr 9)
      (.seq (.reg [
      ⟨.mov (.c (.int .i64 1)), .fr 2, none⟩]) <|
      .ret)
      (.skip)) <|
    .seq (.reg [
    ⟨.mov (.c (.int .i64 0)), .fr 2, none⟩]) <|
    .ret⟩
/-- cmp.isNaN[int64] -/
def e85 : EF := ⟨1, [0, 2], [.t 1],
    .seq (.reg [
    ⟨.mov (.c (.bool false)), .fr 1, none⟩]) <|
    .seq (.reg [
    ⟨.mov (.fr 0), .tm, none⟩,
    ⟨.mov (.fr 0), .tm, none⟩,
    ⟨.bin .neq (.tm 1) (.tm 0), .tm, none⟩,
    ⟨.mov (.tm 0), .fr 1, none⟩]) <|
    .ret⟩
theorem e8_ok : e8.ok Go.Proofs.Try.prog 0 8 := ok_of (by unfold EFok; kernel_rfl) (by kernel_rfl)
theorem e9_ok : e9.ok Go.Proofs.Try.prog 0 9 := ok_of (by unfold EFok; kernel_rfl) (by kernel_rfl)
theorem e10_ok : e10.ok Go.Proofs.Try.prog 0 10 := ok_of (by unfold EFok; kernel_rfl) (by kernel_rfl)
theorem e15_ok : e15.ok Go.Proofs.Try.prog 0 15 := ok_of (by unfold EFok; kernel_rfl) (by kernel_rfl)
theorem e16_ok : e16.ok Go.Proofs.Try.prog 0 16 := ok_of (by unfold EFok; kernel_rfl) (by kernel_rfl)
theorem e17_ok : e17.ok Go.Proofs.Try.prog 0 17 := ok_of (by unfold EFok; kernel_rfl) (by kernel_rfl)
theorem e19_ok : e19.ok Go.Proofs.Try.prog 0 19 := ok_of (by unfold EFok; kernel_rfl) (by kernel_rfl)
theorem e20_ok : e20.ok Go.Proofs.Try.prog 0 20 := ok_of (by unfold EFok; kernel_rfl) (by kernel_rfl)
theorem e29_ok : e29.ok Go.Proofs.Try.prog 0 29 := ok_of (by unfold EFok; kernel_rfl) (by kernel_rfl)
theorem e31_ok : e31.ok Go.Proofs.Try.prog 0 31 := ok_of (by unfold EFok; kernel_rfl) (by kernel_rfl)
theorem e33_ok : e33.ok Go.Proofs.Try.prog 0 33 := ok_of (by unfold EFok; kernel_rfl) (by kernel_rfl)
theorem e34_ok : e34.ok Go.Proofs.Try.prog 0 34 := ok_of (by unfold EFok; kernel_rfl) (by kernel_rfl)
theorem e35_ok : e35.ok Go.Proofs.Try.prog 0 35 := ok_of (by unfold EFok; kernel_rfl) (by kernel_rfl)
theorem e36_ok : e36.ok Go.Proofs.Try.prog 0 36 := ok_of (by unfold EFok; kernel_rfl) (by kernel_rfl)
theorem e64_ok : e64.ok Go.Proofs.Try.prog 0 64 := ok_of (by unfold EFok; kernel_rfl) (by kernel_rfl)
theorem e65_ok : e65.ok Go.Proofs.Try.prog 0 65 := ok_of (by unfold EFok; kernel_rfl) (by kernel_rfl)
theorem e66_ok : e66.ok Go.Proofs.Try.prog 0 66 := ok_of (by unfold EFok; kernel_rfl) (by kernel_rfl)
theorem e67_ok : e67.ok Go.Proofs.Try.prog 0 67 := ok_of (by unfold EFok; kernel_rfl) (by kernel_rfl)
theorem e85_ok : e85.ok Go.Proofs.Try.prog 0 85 := ok_of (by unfold EFok; kernel_rfl) (by kernel_rfl)
def tab : FT := (.node 31 e31 (.node 16 e16 (.node 10 e10 (.node 9 e9 (.node 8 e8 .leaf .leaf) .leaf) (.node 15 e15 .leaf .leaf)) (.node 20 e20 (.node 19 e19 (.node 17 e17 .leaf .leaf) .leaf) (.node 29 e29 .leaf .leaf))) (.node 64 e64 (.node 35 e35 (.node 34 e34 (.node 33 e33 .leaf .leaf) .leaf) (.node 36 e36 .leaf .leaf)) (.node 67 e67 (.node 66 e66 (.node 65 e65 .leaf .leaf) .leaf) (.node 85 e85 .leaf .leaf))))
theorem tab_ok : tab.ok Go.Proofs.Try.prog 0 := ⟨e31_ok, ⟨e16_ok, ⟨e10_ok, ⟨e9_ok, ⟨e8_ok, trivial, trivial⟩, trivial⟩, ⟨e15_ok, trivial, trivial⟩⟩, ⟨e20_ok, ⟨e19_ok, ⟨e17_ok, trivial, trivial⟩, trivial⟩, ⟨e29_ok, trivial, trivial⟩⟩⟩, ⟨e64_ok, ⟨e35_ok, ⟨e34_ok, ⟨e33_ok, trivial, trivial⟩, trivial⟩, ⟨e36_ok, trivial, trivial⟩⟩, ⟨e67_ok, ⟨e66_ok, ⟨e65_ok, trivial, trivial⟩, trivial⟩, ⟨e85_ok, trivial, trivial⟩⟩⟩⟩
end Go.AM.RpT
