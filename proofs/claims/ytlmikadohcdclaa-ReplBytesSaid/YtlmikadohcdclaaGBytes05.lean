/- Part of the proof. -/
import Derived.Test.YtlmikadohcdclaaGBytes04
set_option linter.unusedSimpArgs false
set_option linter.unusedVariables false
set_option maxRecDepth 100000
namespace Go.AM.RpT
open Go.Proofs
def EFok (P : Program) (ng k : Nat) (f : EF) : Prop := ((compF P ng f.sl k).map fun af => (af.sl, af.res, simpC af.body)) = some (f.sl, f.res, f.body)
theorem ok_of {P : Program} {ng k : Nat} {f : EF} (h : EFok P ng k f) (ha : argsOK P k f.na = true) : f.ok P ng k := by
  unfold EFok at h
  simp only [Option.map_eq_some_iff, Prod.mk.injEq] at h
  obtain ⟨af, h1, h2, h3, h4⟩ := h
  exact ⟨af, h1, h2, h3, h4, ha⟩
def e8 : EF := ⟨0, [0, 1, 2, 3, 4, 5, 6, 7, 8, 9, 10, 11, 13, 14, 15, 16], [.t 0],
 .seq (.reg [
 ⟨.mov (.c (.bool false)), .fr 0, none⟩]) <|
 .seq (.reg [
 ⟨.new 48 2 [(.slice none 0 0), (.int .i64 0)], .fr 1, none⟩]) <|
 .seq (.reg [
 ⟨.new 51 1 [(.pointer none)], .fr 2, none⟩]) <|
 .seq (.reg [
 ⟨.build [(.int .u64 0), (.int .u64 0), (.int .u64 0), (.int .u8 0), (.int .u8 0), (.int .u8 0), (.int .u8 0), (.int .u8 0), (.int .u8 0), (.int .u8 0), (.int .u8 0), (.int .u8 0), (.int .u8 0), (.int .u8 0), (.int .u8 0), (.int .u8 0), (.int .u8 0), (.int .u8 0), (.int .u8 0), (.int .u8 0), (.int .u8 0), (.int .u8 0), (.int .u8 0), (.int .u8 0), (.int .u8 0), (.int .u8 0), (.int .u8 0), (.int .u8 0), (.int .u8 0), (.int .u8 0), (.int .u8 0), (.int .u8 0), (.int .u8 0), (.int .u8 0), (.int .u8 0), (.int .u8 0), (.int .u8 0), (.int .u8 0), (.int .u8 0), (.int .u8 0), (.int .u8 0), (.int .u8 0), (.int .u8 0), (.int .u8 0), (.int .u8 0), (.int .u8 0), (.int .u8 0), (.int .u8 0), (.int .u8 0), (.int .u8 0), (.int .u8 0), (.int .u8 0), (.int .u8 0), (.int .u8 0), (.int .u8 0), (.int .u8 0), (.int .u8 0), (.int .u8 0), (.int .u8 0), (.int .u8 0), (.int .u8 0), (.int .u8 0), (.int .u8 0), (.int .u8 0), (.int .u8 0), (.int .u8 0), (.int .u8 0), (.int .u32 0)] [(0, 1, (.c (.int .u64 3)))], .tm, none⟩,
 ⟨.build [(.int .i64 0), (.int .i64 0), (.int .u64 0), (.int .u64 0), (.int .u64 0), (.int .u8 0), (.int .u8 0), (.int .u8 0), (.int .u8 0), (.int .u8 0), (.int .u8 0), (.int .u8 0), (.int .u8 0), (.int .u8 0), (.int .u8 0), (.int .u8 0), (.int .u8 0), (.int .u8 0), (.int .u8 0), (.int .u8 0), (.int .u8 0), (.int .u8 0), (.int .u8 0), (.int .u8 0), (.int .u8 0), (.int .u8 0), (.int .u8 0), (.int .u8 0), (.int .u8 0), (.int .u8 0), (.int .u8 0), (.int .u8 0), (.int .u8 0), (.int .u8 0), (.int .u8 0), (.int .u8 0), (.int .u8 0), (.int .u8 0), (.int .u8 0), (.int .u8 0), (.int .u8 0), (.int .u8 0), (.int .u8 0), (.int .u8 0), (.int .u8 0), (.int .u8 0), (.int .u8 0), (.int .u8 0), (.int .u8 0), (.int .u8 0), (.int .u8 0), (.int .u8 0), (.int .u8 0), (.int .u8 0), (.int .u8 0), (.int .u8 0), (.int .u8 0), (.int .u8 0), (.int .u8 0), (.int .u8 0), (.int .u8 0), (.int .u8 0), (.int .u8 0), (.int .u8 0), (.int .u8 0), (.int .u8 0), (.int .u8 0), (.int .u8 0), (.int .u8 0), (.int .u32 0)] [(0, 1, (.c (.int .i64 1))), (1, 1, (.c (.int .i64 5))), (2, 68, (.tm 0))], .tm, none⟩,
 ⟨.callf 15 [(.fr 1), (.tm 0)], .tm, none⟩,
 ⟨.mov (.tm 0), .fr 3, none⟩]) <|
 .seq (.reg [
 ⟨.callf 16 [(.fr 1)], .tm, none⟩,
 ⟨.mov (.tm 0), .tm, none⟩,
 ⟨.extract (.tm 0) 0, .tm, none⟩,
 ⟨.extract (.tm 1) 1, .tm, none⟩,
 ⟨.new 41 78 [(.int .u8 0), (.int .i64 0), (.int .i64 0), (.int .i64 0), (.int .i64 0), (.int .u64 0), (.int .u64 0), (.int .u64 0), (.int .u8 0), (.int .u8 0), (.int .u8 0), (.int .u8 0), (.int .u8 0), (.int .u8 0), (.int .u8 0), (.int .u8 0), (.int .u8 0), (.int .u8 0), (.int .u8 0), (.int .u8 0), (.int .u8 0), (.int .u8 0), (.int .u8 0), (.int .u8 0), (.int .u8 0), (.int .u8 0), (.int .u8 0), (.int .u8 0), (.int .u8 0), (.int .u8 0), (.int .u8 0), (.int .u8 0), (.int .u8 0), (.int .u8 0), (.int .u8 0), (.int .u8 0), (.int .u8 0), (.int .u8 0), (.int .u8 0), (.int .u8 0), (.int .u8 0), (.int .u8 0), (.int .u8 0), (.int .u8 0), (.int .u8 0), (.int .u8 0), (.int .u8 0), (.int .u8 0), (.int .u8 0), (.int .u8 0), (.int .u8 0), (.int .u8 0), (.int .u8 0), (.int .u8 0), (.int .u8 0), (.int .u8 0), (.int .u8 0), (.int .u8 0), (.int .u8 0), (.int .u8 0), (.int .u8 0), (.int .u8 0), (.int .u8 0), (.int .u8 0), (.int .u8 0), (.int .u8 0), (.int .u8 0), (.int .u8 0), (.int .u8 0), (.int .u8 0), (.int .u8 0), (.int .u8 0), (.int .u32 0), (.int .u64 0), (.int .u64 0), (.int .u64 0), (.int .u32 0), (.slice none 0 0)], .fr 4, none⟩,
 ⟨.storen 78 (.fr 4) (.tm 1), .no, none⟩,
 ⟨.mov (.tm 0), .fr 5, none⟩]) <|
 .seq (.reg [
 ⟨.loadn 78 (.fr 4), .tm, none⟩,
 ⟨.callf 17 [(.fr 2), (.tm 0)], .tm, none⟩,
 ⟨.mov (.tm 0), .tm, none⟩,
 ⟨.extract (.tm 0) 0, .tm, none⟩,
 ⟨.extract (.tm 1) 1, .tm, none⟩,
 ⟨.extract (.tm 2) 2, .tm, none⟩,
 ⟨.new 41 78 [(.int .u8 0), (.int .i64 0), (.int .i64 0), (.int .i64 0), (.int .i64 0), (.int .u64 0), (.int .u64 0), (.int .u64 0), (.int .u8 0), (.int .u8 0), (.int .u8 0), (.int .u8 0), (.int .u8 0), (.int .u8 0), (.int .u8 0), (.int .u8 0), (.int .u8 0), (.int .u8 0), (.int .u8 0), (.int .u8 0), (.int .u8 0), (.int .u8 0), (.int .u8 0), (.int .u8 0), (.int .u8 0), (.int .u8 0), (.int .u8 0), (.int .u8 0), (.int .u8 0), (.int .u8 0), (.int .u8 0), (.int .u8 0), (.int .u8 0), (.int .u8 0), (.int .u8 0), (.int .u8 0), (.int .u8 0), (.int .u8 0), (.int .u8 0), (.int .u8 0), (.int .u8 0), (.int .u8 0), (.int .u8 0), (.int .u8 0), (.int .u8 0), (.int .u8 0), (.int .u8 0), (.int .u8 0), (.int .u8 0), (.int .u8 0), (.int .u8 0), (.int .u8 0), (.int .u8 0), (.int .u8 0), (.int .u8 0), (.int .u8 0), (.int .u8 0), (.int .u8 0), (.int .u8 0), (.int .u8 0), (.int .u8 0), (.int .u8 0), (.int .u8 0), (.int .u8 0), (.int .u8 0), (.int .u8 0), (.int .u8 0), (.int .u8 0), (.int .u8 0), (.int .u8 0), (.int .u8 0), (.int .u8 0), (.int .u32 0), (.int .u64 0), (.int .u64 0), (.int .u64 0), (.int .u32 0), (.slice none 0 0)], .fr 6, none⟩,
 ⟨.storen 78 (.fr 6) (.tm 2), .no, none⟩,
 ⟨.mov (.tm 1), .fr 7, none⟩,
 ⟨.mov (.tm 0), .fr 8, none⟩]) <|
 .seq (.reg [
 ⟨.loadn 78 (.fr 6), .tm, none⟩,
 ⟨.callf 19 [(.fr 1), (.tm 0)], .tm, none⟩,
 ⟨.mov (.tm 0), .fr 9, none⟩]) <|
 .seq (.reg [
 ⟨.build [(.int .u64 0), (.int .u64 0), (.int .u64 0), (.int .u8 0), (.int .u8 0), (.int .u8 0), (.int .u8 0), (.int .u8 0), (.int .u8 0), (.int .u8 0), (.int .u8 0), (.int .u8 0), (.int .u8 0), (.int .u8 0), (.int .u8 0), (.int .u8 0), (.int .u8 0), (.int .u8 0), (.int .u8 0), (.int .u8 0), (.int .u8 0), (.int .u8 0), (.int .u8 0), (.int .u8 0), (.int .u8 0), (.int .u8 0), (.int .u8 0), (.int .u8 0), (.int .u8 0), (.int .u8 0), (.int .u8 0), (.int .u8 0), (.int .u8 0), (.int .u8 0), (.int .u8 0), (.int .u8 0), (.int .u8 0), (.int .u8 0), (.int .u8 0), (.int .u8 0), (.int .u8 0), (.int .u8 0), (.int .u8 0), (.int .u8 0), (.int .u8 0), (.int .u8 0), (.int .u8 0), (.int .u8 0), (.int .u8 0), (.int .u8 0), (.int .u8 0), (.int .u8 0), (.int .u8 0), (.int .u8 0), (.int .u8 0), (.int .u8 0), (.int .u8 0), (.int .u8 0), (.int .u8 0), (.int .u8 0), (.int .u8 0), (.int .u8 0), (.int .u8 0), (.int .u8 0), (.int .u8 0), (.int .u8 0), (.int .u8 0), (.int .u32 0)] [(0, 1, (.c (.int .u64 7)))], .tm, none⟩,
 ⟨.build [(.int .i64 0), (.int .i64 0), (.int .u64 0), (.int .u64 0), (.int .u64 0), (.int .u8 0), (.int .u8 0), (.int .u8 0), (.int .u8 0), (.int .u8 0), (.int .u8 0), (.int .u8 0), (.int .u8 0), (.int .u8 0), (.int .u8 0), (.int .u8 0), (.int .u8 0), (.int .u8 0), (.int .u8 0), (.int .u8 0), (.int .u8 0), (.int .u8 0), (.int .u8 0), (.int .u8 0), (.int .u8 0), (.int .u8 0), (.int .u8 0), (.int .u8 0), (.int .u8 0), (.int .u8 0), (.int .u8 0), (.int .u8 0), (.int .u8 0), (.int .u8 0), (.int .u8 0), (.int .u8 0), (.int .u8 0), (.int .u8 0), (.int .u8 0), (.int .u8 0), (.int .u8 0), (.int .u8 0), (.int .u8 0), (.int .u8 0), (.int .u8 0), (.int .u8 0), (.int .u8 0), (.int .u8 0), (.int .u8 0), (.int .u8 0), (.int .u8 0), (.int .u8 0), (.int .u8 0), (.int .u8 0), (.int .u8 0), (.int .u8 0), (.int .u8 0), (.int .u8 0), (.int .u8 0), (.int .u8 0), (.int .u8 0), (.int .u8 0), (.int .u8 0), (.int .u8 0), (.int .u8 0), (.int .u8 0), (.int .u8 0), (.int .u8 0), (.int .u8 0), (.int .u32 0)] [(0, 1, (.c (.int .i64 1))), (1, 1, (.c (.int .i64 6))), (2, 68, (.tm 0))], .tm, none⟩,
 ⟨.callf 15 [(.fr 1), (.tm 0)], .tm, none⟩]) <|
 .seq (.reg [
 ⟨.callf 16 [(.fr 1)], .tm, none⟩,
 ⟨.mov (.tm 0), .tm, none⟩,
 ⟨.extract (.tm 0) 0, .tm, none⟩,
 ⟨.extract (.tm 1) 1, .tm, none⟩,
 ⟨.new 41 78 [(.int .u8 0), (.int .i64 0), (.int .i64 0), (.int .i64 0), (.int .i64 0), (.int .u64 0), (.int .u64 0), (.int .u64 0), (.int .u8 0), (.int .u8 0), (.int .u8 0), (.int .u8 0), (.int .u8 0), (.int .u8 0), (.int .u8 0), (.int .u8 0), (.int .u8 0), (.int .u8 0), (.int .u8 0), (.int .u8 0), (.int .u8 0), (.int .u8 0), (.int .u8 0), (.int .u8 0), (.int .u8 0), (.int .u8 0), (.int .u8 0), (.int .u8 0), (.int .u8 0), (.int .u8 0), (.int .u8 0), (.int .u8 0), (.int .u8 0), (.int .u8 0), (.int .u8 0), (.int .u8 0), (.int .u8 0), (.int .u8 0), (.int .u8 0), (.int .u8 0), (.int .u8 0), (.int .u8 0), (.int .u8 0), (.int .u8 0), (.int .u8 0), (.int .u8 0), (.int .u8 0), (.int .u8 0), (.int .u8 0), (.int .u8 0), (.int .u8 0), (.int .u8 0), (.int .u8 0), (.int .u8 0), (.int .u8 0), (.int .u8 0), (.int .u8 0), (.int .u8 0), (.int .u8 0), (.int .u8 0), (.int .u8 0), (.int .u8 0), (.int .u8 0), (.int .u8 0), (.int .u8 0), (.int .u8 0), (.int .u8 0), (.int .u8 0), (.int .u8 0), (.int .u8 0), (.int .u8 0), (.int .u8 0), (.int .u32 0), (.int .u64 0), (.int .u64 0), (.int .u64 0), (.int .u32 0), (.slice none 0 0)], .fr 10, none⟩,
 ⟨.storen 78 (.fr 10) (.tm 1), .no, none⟩,
 ⟨.mov (.tm 0), .fr 11, none⟩]) <|
 .seq (.reg [
 ⟨.loadn 78 (.fr 10), .tm, none⟩,
 ⟨.callf 17 [(.fr 2), (.tm 0)], .tm, none⟩,
 ⟨.mov (.tm 0), .tm, none⟩,
 ⟨.extract (.tm 0) 0, .tm, none⟩,
 ⟨.extract (.tm 1) 1, .tm, none⟩,
 ⟨.extract (.tm 2) 2, .tm, none⟩,
 ⟨.new 41 78 [(.int .u8 0), (.int .i64 0), (.int .i64 0), (.int .i64 0), (.int .i64 0), (.int .u64 0), (.int .u64 0), (.int .u64 0), (.int .u8 0), (.int .u8 0), (.int .u8 0), (.int .u8 0), (.int .u8 0), (.int .u8 0), (.int .u8 0), (.int .u8 0), (.int .u8 0), (.int .u8 0), (.int .u8 0), (.int .u8 0), (.int .u8 0), (.int .u8 0), (.int .u8 0), (.int .u8 0), (.int .u8 0), (.int .u8 0), (.int .u8 0), (.int .u8 0), (.int .u8 0), (.int .u8 0), (.int .u8 0), (.int .u8 0), (.int .u8 0), (.int .u8 0), (.int .u8 0), (.int .u8 0), (.int .u8 0), (.int .u8 0), (.int .u8 0), (.int .u8 0), (.int .u8 0), (.int .u8 0), (.int .u8 0), (.int .u8 0), (.int .u8 0), (.int .u8 0), (.int .u8 0), (.int .u8 0), (.int .u8 0), (.int .u8 0), (.int .u8 0), (.int .u8 0), (.int .u8 0), (.int .u8 0), (.int .u8 0), (.int .u8 0), (.int .u8 0), (.int .u8 0), (.int .u8 0), (.int .u8 0), (.int .u8 0), (.int .u8 0), (.int .u8 0), (.int .u8 0), (.int .u8 0), (.int .u8 0), (.int .u8 0), (.int .u8 0), (.int .u8 0), (.int .u8 0), (.int .u8 0), (.int .u8 0), (.int .u32 0), (.int .u64 0), (.int .u64 0), (.int .u64 0), (.int .u32 0), (.slice none 0 0)], .tm, none⟩,
 ⟨.storen 78 (.tm 0) (.tm 3), .no, none⟩,
 ⟨.mov (.tm 2), .fr 12, none⟩,
 ⟨.mov (.tm 1), .fr 13, none⟩]) <|
 .seq (.reg [
 ⟨.callf 20 [(.fr 2)], .tm, none⟩,
 ⟨.mov (.tm 0), .tm, none⟩,
 ⟨.extract (.tm 0) 0, .tm, none⟩,
 ⟨.extract (.tm 1) 1, .tm, none⟩,
 ⟨.new 54 70 [(.int .i64 0), (.int .i64 0), (.int .u64 0), (.int .u64 0), (.int .u64 0), (.int .u8 0), (.int .u8 0), (.int .u8 0), (.int .u8 0), (.int .u8 0), (.int .u8 0), (.int .u8 0), (.int .u8 0), (.int .u8 0), (.int .u8 0), (.int .u8 0), (.int .u8 0), (.int .u8 0), (.int .u8 0), (.int .u8 0), (.int .u8 0), (.int .u8 0), (.int .u8 0), (.int .u8 0), (.int .u8 0), (.int .u8 0), (.int .u8 0), (.int .u8 0), (.int .u8 0), (.int .u8 0), (.int .u8 0), (.int .u8 0), (.int .u8 0), (.int .u8 0), (.int .u8 0), (.int .u8 0), (.int .u8 0), (.int .u8 0), (.int .u8 0), (.int .u8 0), (.int .u8 0), (.int .u8 0), (.int .u8 0), (.int .u8 0), (.int .u8 0), (.int .u8 0), (.int .u8 0), (.int .u8 0), (.int .u8 0), (.int .u8 0), (.int .u8 0), (.int .u8 0), (.int .u8 0), (.int .u8 0), (.int .u8 0), (.int .u8 0), (.int .u8 0), (.int .u8 0), (.int .u8 0), (.int .u8 0), (.int .u8 0), (.int .u8 0), (.int .u8 0), (.int .u8 0), (.int .u8 0), (.int .u8 0), (.int .u8 0), (.int .u8 0), (.int .u8 0), (.int .u32 0)], .fr 14, none⟩,
 ⟨.storen 70 (.fr 14) (.tm 1), .no, none⟩,
 ⟨.mov (.tm 0), .fr 15, none⟩]) <|
 .seq (.reg [
 ⟨.mov (.fr 3), .tm, none⟩,
 ⟨.bin .eql (.tm 0) (.c (.int .i64 0)), .tm, none⟩,
 ⟨.mov (.tm 0), .tm, none⟩,
 ⟨.mov (.fr 5), .tm, some ((.tm 0), true)⟩,
 ⟨.pick (.tm 1) (.tm 0) (.c (.bool false)), .tm, none⟩,
 ⟨.mov (.tm 0), .tm, none⟩,
 ⟨.faddr 0 (.fr 4), .tm, some ((.tm 0), true)⟩,
 ⟨.load1 (.tm 0), .tm, some ((.tm 1), true)⟩,
 ⟨.bin .eql (.tm 0) (.c (.int .u8 1)), .tm, some ((.tm 2), true)⟩,
 ⟨.pick (.tm 3) (.tm 0) (.c (.bool false)), .tm, none⟩,
 ⟨.mov (.tm 0), .tm, none⟩,
 ⟨.mov (.fr 7), .tm, some ((.tm 0), true)⟩,
 ⟨.pick (.tm 1) (.tm 0) (.c (.bool false)), .tm, none⟩,
 ⟨.mov (.tm 0), .tm, none⟩,
 ⟨.mov (.fr 8), .tm, some ((.tm 0), true)⟩,
 ⟨.bin .eql (.tm 0) (.c (.int .i64 0)), .tm, some ((.tm 1), true)⟩,
 ⟨.pick (.tm 2) (.tm 0) (.c (.bool false)), .tm, none⟩,
 ⟨.mov (.tm 0), .tm, none⟩,
 ⟨.faddr 0 (.fr 6), .tm, some ((.tm 0), true)⟩,
 ⟨.load1 (.tm 0), .tm, some ((.tm 1), true)⟩,
 ⟨.bin .eql (.tm 0) (.c (.int .u8 3)), .tm, some ((.tm 2), true)⟩,
 ⟨.pick (.tm 3) (.tm 0) (.c (.bool false)), .tm, none⟩,
 ⟨.mov (.tm 0), .tm, none⟩,
 ⟨.mov (.fr 9), .tm, some ((.tm 0), true)⟩,
 ⟨.bin .eql (.tm 0) (.c (.int .i64 0)), .tm, some ((.tm 1), true)⟩,
 ⟨.pick (.tm 2) (.tm 0) (.c (.bool false)), .tm, none⟩,
 ⟨.mov (.tm 0), .tm, none⟩,
 ⟨.mov (.fr 11), .tm, some ((.tm 0), true)⟩,
 ⟨.pick (.tm 1) (.tm 0) (.c (.bool false)), .tm, none⟩,
 ⟨.mov (.tm 0), .tm, none⟩,
 ⟨.faddr 0 (.fr 10), .tm, some ((.tm 0), true)⟩,
 ⟨.load1 (.tm 0), .tm, some ((.tm 1), true)⟩,
 ⟨.bin .eql (.tm 0) (.c (.int .u8 2)), .tm, some ((.tm 2), true)⟩,
 ⟨.pick (.tm 3) (.tm 0) (.c (.bool false)), .tm, none⟩,
 ⟨.mov (.tm 0), .tm, none⟩,
 ⟨.faddr 73 (.fr 10), .tm, some ((.tm 0), true)⟩,
 ⟨.faddr 0 (.tm 0), .tm, some ((.tm 1), true)⟩,
 ⟨.load1 (.tm 0), .tm, some ((.tm 2), true)⟩,
 ⟨.bin .eql (.tm 0) (.c (.int .u64 4)), .tm, some ((.tm 3), true)⟩,
 ⟨.pick (.tm 4) (.tm 0) (.c (.bool false)), .tm, none⟩,
 ⟨.mov (.tm 0), .tm, none⟩,
 ⟨.faddr 4 (.fr 10), .tm, some ((.tm 0), true)⟩,
 ⟨.load1 (.tm 0), .tm, some ((.tm 1), true)⟩,
 ⟨.bin .eql (.tm 0) (.c (.int .i64 5)), .tm, some ((.tm 2), true)⟩,
 ⟨.pick (.tm 3) (.tm 0) (.c (.bool false)), .tm, none⟩,
 ⟨.mov (.tm 0), .tm, none⟩,
 ⟨.mov (.fr 12), .tm, some ((.tm 0), true)⟩,
 ⟨.pick (.tm 1) (.tm 0) (.c (.bool false)), .tm, none⟩,
 ⟨.mov (.tm 0), .tm, none⟩,
 ⟨.mov (.fr 13), .tm, some ((.tm 0), true)⟩,
 ⟨.bin .eql (.tm 0) (.c (.int .i64 0)), .tm, some ((.tm 1), true)⟩,
 ⟨.pick (.tm 2) (.tm 0) (.c (.bool false)), .tm, none⟩,
 ⟨.mov (.tm 0), .tm, none⟩,
 ⟨.mov (.fr 15), .tm, some ((.tm 0), true)⟩,
 ⟨.pick (.tm 1) (.tm 0) (.c (.bool false)), .tm, none⟩,
 ⟨.mov (.tm 0), .tm, none⟩,
 ⟨.faddr 1 (.fr 14), .tm, some ((.tm 0), true)⟩,
 ⟨.load1 (.tm 0), .tm, some ((.tm 1), true)⟩,
 ⟨.bin .eql (.tm 0) (.c (.int .i64 6)), .tm, some ((.tm 2), true)⟩,
 ⟨.pick (.tm 3) (.tm 0) (.c (.bool false)), .tm, none⟩,
 ⟨.mov (.tm 0), .tm, none⟩,
 ⟨.faddr 2 (.fr 14), .tm, some ((.tm 0), true)⟩,
 ⟨.faddr 0 (.tm 0), .tm, some ((.tm 1), true)⟩,
 ⟨.load1 (.tm 0), .tm, some ((.tm 2), true)⟩,
 ⟨.bin .eql (.tm 0) (.c (.int .u64 7)), .tm, some ((.tm 3), true)⟩,
 ⟨.pick (.tm 4) (.tm 0) (.c (.bool false)), .tm, none⟩,
 ⟨.mov (.tm 0), .fr 0, none⟩]) <|
 .ret⟩
def e9 : EF := ⟨2, [0, 1, 2, 3, 4, 5, 6, 7, 30, 31, 32, 40], [.cn 5 4],
 .seq (.reg [
 ⟨.box 26 68 (.fr 0), .fr 2, none⟩,
 ⟨.box 26 68 (.fr 1), .fr 3, none⟩,
 ⟨.new 29 5 [(.int .u64 0), (.int .u64 0), (.int .u64 0), (.int .u32 0), (.slice none 0 0)], .fr 4, none⟩]) <|
 .seq (.reg [
 ⟨.faddr 0 (.fr 2), .tm, none⟩,
 ⟨.load1 (.tm 0), .tm, none⟩,
 ⟨.faddr 0 (.fr 3), .tm, none⟩,
 ⟨.load1 (.tm 0), .tm, none⟩,
 ⟨.bin .xor (.tm 2) (.tm 0), .tm, none⟩,
 ⟨.faddr 1 (.fr 2), .tm, none⟩,
 ⟨.load1 (.tm 0), .tm, none⟩,
 ⟨.faddr 1 (.fr 3), .tm, none⟩,
 ⟨.load1 (.tm 0), .tm, none⟩,
 ⟨.bin .xor (.tm 2) (.tm 0), .tm, none⟩,
 ⟨.faddr 2 (.fr 2), .tm, none⟩,
 ⟨.load1 (.tm 0), .tm, none⟩,
 ⟨.faddr 2 (.fr 3), .tm, none⟩,
 ⟨.load1 (.tm 0), .tm, none⟩,
 ⟨.bin .xor (.tm 2) (.tm 0), .tm, none⟩,
 ⟨.faddr 67 (.fr 2), .tm, none⟩,
 ⟨.load1 (.tm 0), .tm, none⟩,
 ⟨.faddr 67 (.fr 3), .tm, none⟩,
 ⟨.load1 (.tm 0), .tm, none⟩,
 ⟨.bin .xor (.tm 2) (.tm 0), .tm, none⟩,
 ⟨.build [(.int .u64 0), (.int .u64 0), (.int .u64 0), (.int .u32 0), (.slice none 0 0)] [(0, 1, (.tm 15)), (1, 1, (.tm 10)), (2, 1, (.tm 5)), (3, 1, (.tm 0))], .tm, none⟩,
 ⟨.new 29 5 [(.int .u64 0), (.int .u64 0), (.int .u64 0), (.int .u32 0), (.slice none 0 0)], .fr 5, none⟩,
 ⟨.storen 5 (.fr 5) (.tm 0), .no, none⟩]) <|
 .seq (.seq (.reg [
 ⟨.faddr 3 (.fr 3), .tm, none⟩,
 ⟨.loadn 64 (.tm 0), .fr 8, none⟩,
 ⟨.mov (.c (.int .i64 0)), .fr 9, none⟩]) <|
 .block 0 (.loop (.seq (.reg [
 ⟨.bin .lss (.fr 9) (.c (.int .i64 64)), .fr 10, none⟩]) <|
 .seq (.cond (.fr 10)
 (.skip)
 (.exit 0)) <|
 .seq (.block 1 (.seq (.reg [
 ⟨.mov (.fr 9), .tm, none⟩,
 ⟨.idxa false 1 64 (.fr 8) (.fr 9), .tm, none⟩,
 ⟨.mov (.tm 1), .fr 6, none⟩,
 ⟨.mov (.tm 0), .fr 7, none⟩]) <|
 .seq (.reg [
 ⟨.mov (.fr 7), .tm, none⟩,
 ⟨.mov (.fr 6), .tm, none⟩,
 ⟨.faddr 3 (.fr 2), .tm, none⟩,
 ⟨.iaddrp 1 64 (.tm 0) (.tm 1), .tm, none⟩,
 ⟨.load1 (.tm 0), .tm, none⟩,
 ⟨.bin .neq (.tm 4) (.tm 0), .fr 11, none⟩]) <|
 .cond (.fr 11)
 (.reg [
 ⟨.faddr 4 (.fr 5), .tm, none⟩,
 ⟨.load1 (.tm 0), .tm, none⟩,
 ⟨.mov (.fr 6), .tm, none⟩,
 ⟨.mov (.fr 7), .tm, none⟩,
 ⟨.build [(.int .i64 0), (.int .u8 0)] [(0, 1, (.tm 1)), (1, 1, (.tm 0))], .tm, none⟩,
 ⟨.bslice 90 2 1 [(.int .i64 0), (.int .u8 0)] [(0, 2, (.tm 0))], .tm, none⟩,
 ⟨.app 90 2 16 (.tm 4) (.tm 0), .tm, none⟩,
 ⟨.faddr 4 (.fr 5), .tm, none⟩,
 ⟨.store1 (.tm 0) (.tm 1), .no, none⟩])
 (.skip))) <|
 .reg [
 ⟨.bin .add (.fr 9) (.c (.int .i64 1)), .tm, none⟩,
 ⟨.mov (.tm 0), .fr 9, none⟩]))) <|
 .seq (.reg [
 ⟨.loadn 5 (.fr 5), .tm, none⟩,
 ⟨.storen 5 (.fr 4) (.tm 0), .no, none⟩]) <|
 .ret⟩
def e10 : EF := ⟨2, [0, 1, 2, 3, 4, 5, 7, 10, 37, 38, 39, 40], [.cn 68 4, .t 5],
 .seq (.reg [
 ⟨.box 26 68 (.fr 0), .fr 2, none⟩,
 ⟨.box 29 5 (.fr 1), .fr 3, none⟩,
 ⟨.new 26 68 [(.int .u64 0), (.int .u64 0), (.int .u64 0), (.int .u8 0), (.int .u8 0), (.int .u8 0), (.int .u8 0), (.int .u8 0), (.int .u8 0), (.int .u8 0), (.int .u8 0), (.int .u8 0), (.int .u8 0), (.int .u8 0), (.int .u8 0), (.int .u8 0), (.int .u8 0), (.int .u8 0), (.int .u8 0), (.int .u8 0), (.int .u8 0), (.int .u8 0), (.int .u8 0), (.int .u8 0), (.int .u8 0), (.int .u8 0), (.int .u8 0), (.int .u8 0), (.int .u8 0), (.int .u8 0), (.int .u8 0), (.int .u8 0), (.int .u8 0), (.int .u8 0), (.int .u8 0), (.int .u8 0), (.int .u8 0), (.int .u8 0), (.int .u8 0), (.int .u8 0), (.int .u8 0), (.int .u8 0), (.int .u8 0), (.int .u8 0), (.int .u8 0), (.int .u8 0), (.int .u8 0), (.int .u8 0), (.int .u8 0), (.int .u8 0), (.int .u8 0), (.int .u8 0), (.int .u8 0), (.int .u8 0), (.int .u8 0), (.int .u8 0), (.int .u8 0), (.int .u8 0), (.int .u8 0), (.int .u8 0), (.int .u8 0), (.int .u8 0), (.int .u8 0), (.int .u8 0), (.int .u8 0), (.int .u8 0), (.int .u8 0), (.int .u32 0)], .fr 4, none⟩,
 ⟨.mov (.c (.int .i64 0)), .fr 5, none⟩]) <|
 .seq (.seq (.reg [
 ⟨.loadn 5 (.fr 3), .tm, none⟩,
 ⟨.callf 31 [(.tm 0)], .tm, none⟩,
 ⟨.un .not (.tm 0), .fr 7, none⟩]) <|
 .cond (.fr 7)
 (.seq (.reg [
 ⟨.build [(.int .u64 0), (.int .u64 0), (.int .u64 0), (.int .u8 0), (.int .u8 0), (.int .u8 0), (.int .u8 0), (.int .u8 0), (.int .u8 0), (.int .u8 0), (.int .u8 0), (.int .u8 0), (.int .u8 0), (.int .u8 0), (.int .u8 0), (.int .u8 0), (.int .u8 0), (.int .u8 0), (.int .u8 0), (.int .u8 0), (.int .u8 0), (.int .u8 0), (.int .u8 0), (.int .u8 0), (.int .u8 0), (.int .u8 0), (.int .u8 0), (.int .u8 0), (.int .u8 0), (.int .u8 0), (.int .u8 0), (.int .u8 0), (.int .u8 0), (.int .u8 0), (.int .u8 0), (.int .u8 0), (.int .u8 0), (.int .u8 0), (.int .u8 0), (.int .u8 0), (.int .u8 0), (.int .u8 0), (.int .u8 0), (.int .u8 0), (.int .u8 0), (.int .u8 0), (.int .u8 0), (.int .u8 0), (.int .u8 0), (.int .u8 0), (.int .u8 0), (.int .u8 0), (.int .u8 0), (.int .u8 0), (.int .u8 0), (.int .u8 0), (.int .u8 0), (.int .u8 0), (.int .u8 0), (.int .u8 0), (.int .u8 0), (.int .u8 0), (.int .u8 0), (.int .u8 0), (.int .u8 0), (.int .u8 0), (.int .u8 0), (.int .u32 0)] [], .tm, none⟩,
 ⟨.storen 68 (.fr 4) (.tm 0), .no, none⟩,
 ⟨.mov (.c (.int .i64 2)), .fr 5, none⟩]) <|
 .ret)
 (.skip)) <|
 .seq (.reg [
 ⟨.faddr 0 (.fr 2), .tm, none⟩,
 ⟨.load1 (.tm 0), .tm, none⟩,
 ⟨.faddr 0 (.fr 3), .tm, none⟩,
 ⟨.load1 (.tm 0), .tm, none⟩,
 ⟨.bin .xor (.tm 2) (.tm 0), .tm, none⟩,
 ⟨.faddr 0 (.fr 2), .tm, none⟩,
 ⟨.store1 (.tm 0) (.tm 1), .no, none⟩]) <|
 .seq (.reg [
 ⟨.faddr 1 (.fr 2), .tm, none⟩,
 ⟨.load1 (.tm 0), .tm, none⟩,
 ⟨.faddr 1 (.fr 3), .tm, none⟩,
 ⟨.load1 (.tm 0), .tm, none⟩,
 ⟨.bin .xor (.tm 2) (.tm 0), .tm, none⟩,
 ⟨.faddr 1 (.fr 2), .tm, none⟩,
 ⟨.store1 (.tm 0) (.tm 1), .no, none⟩]) <|
 .seq (.reg [
 ⟨.faddr 2 (.fr 2), .tm, none⟩,
 ⟨.load1 (.tm 0), .tm, none⟩,
 ⟨.faddr 2 (.fr 3), .tm, none⟩,
 ⟨.load1 (.tm 0), .tm, none⟩,
 ⟨.bin .xor (.tm 2) (.tm 0), .tm, none⟩,
 ⟨.faddr 2 (.fr 2), .tm, none⟩,
 ⟨.store1 (.tm 0) (.tm 1), .no, none⟩]) <|
 .seq (.reg [
 ⟨.faddr 67 (.fr 2), .tm, none⟩,
 ⟨.load1 (.tm 0), .tm, none⟩,
 ⟨.faddr 3 (.fr 3), .tm, none⟩,
 ⟨.load1 (.tm 0), .tm, none⟩,
 ⟨.bin .xor (.tm 2) (.tm 0), .tm, none⟩,
 ⟨.faddr 67 (.fr 2), .tm, none⟩,
 ⟨.store1 (.tm 0) (.tm 1), .no, none⟩]) <|
 .seq (.seq (.reg [
 ⟨.faddr 4 (.fr 3), .tm, none⟩,
 ⟨.load1 (.tm 0), .fr 8, none⟩,
 ⟨.len false (.fr 8), .fr 9, none⟩,
 ⟨.mov (.c (.int .i64 0)), .fr 10, none⟩]) <|
 .block 0 (.loop (.seq (.reg [
 ⟨.bin .lss (.fr 10) (.fr 9), .fr 11, none⟩]) <|
 .seq (.cond (.fr 11)
 (.skip)
 (.exit 0)) <|
 .seq (.block 1 (.seq (.reg [
 ⟨.iaddr 2 (.fr 8) (.fr 10), .tm, none⟩,
 ⟨.loadn 2 (.tm 0), .tm, none⟩,
 ⟨.new 90 2 [(.int .i64 0), (.int .u8 0)], .fr 6, none⟩,
 ⟨.storen 2 (.fr 6) (.tm 0), .no, none⟩]) <|
 .reg [
 ⟨.faddr 0 (.fr 6), .tm, none⟩,
 ⟨.load1 (.tm 0), .tm, none⟩,
 ⟨.faddr 1 (.fr 6), .tm, none⟩,
 ⟨.load1 (.tm 0), .tm, none⟩,
 ⟨.faddr 3 (.fr 2), .tm, none⟩,
 ⟨.iaddrp 1 64 (.tm 0) (.tm 3), .tm, none⟩,
 ⟨.store1 (.tm 0) (.tm 2), .no, none⟩])) <|
 .reg [
 ⟨.bin .add (.fr 10) (.c (.int .i64 1)), .tm, none⟩,
 ⟨.mov (.tm 0), .fr 10, none⟩]))) <|
 .seq (.reg [
 ⟨.loadn 68 (.fr 2), .tm, none⟩,
 ⟨.storen 68 (.fr 4) (.tm 0), .no, none⟩,
 ⟨.mov (.c (.int .i64 0)), .fr 5, none⟩]) <|
 .ret⟩
def e15 : EF := ⟨2, [0, 1, 3, 4, 5, 8, 56], [.t 3],
 .seq (.reg [
 ⟨.box 54 70 (.fr 1), .fr 2, none⟩,
 ⟨.mov (.c (.int .i64 0)), .fr 3, none⟩]) <|
 .seq (.block 0 (.seq (.reg [
 ⟨.mov (.fr 0), .tm, none⟩,
 ⟨.eqv 1 false (.tm 0) (.c (.pointer none)), .tm, none⟩,
 ⟨.mov (.tm 0), .fr 4, none⟩]) <|
 .cond (.fr 4)
 (.seq (.reg [
 ⟨.mov (.c (.int .i64 1)), .fr 3, none⟩]) <|
 .ret)
 (.seq (.reg [
 ⟨.faddr 0 (.fr 2), .tm, none⟩,
 ⟨.load1 (.tm 0), .tm, none⟩,
 ⟨.faddr 1 (.fr 2), .tm, none⟩,
 ⟨.load1 (.tm 0), .tm, none⟩,
 ⟨.bslice 2 1 2 [(.int .i64 0), (.int .i64 0)] [(0, 1, (.tm 2)), (1, 1, (.tm 0))], .tm, none⟩,
 ⟨.callf 33 [(.tm 0)], .tm, none⟩,
 ⟨.un .not (.tm 0), .tm, none⟩,
 ⟨.mov (.tm 0), .tm, none⟩,
 ⟨.mov (.fr 0), .tm, some ((.tm 0), false)⟩,
 ⟨.nilck (.tm 0), .tm, some ((.tm 1), false)⟩,
 ⟨.faddr 0 (.tm 0), .tm, some ((.tm 2), false)⟩,
 ⟨.load1 (.tm 0), .tm, some ((.tm 3), false)⟩,
 ⟨.len false (.tm 0), .tm, some ((.tm 4), false)⟩,
 ⟨.bin .gtr (.tm 0) (.c (.int .i64 0)), .tm, some ((.tm 5), false)⟩,
 ⟨.mov (.tm 0), .tm, some ((.tm 6), false)⟩,
 ⟨.loadn 70 (.fr 2), .tm, some ((.tm 0), true)⟩,
 ⟨.mov (.fr 0), .tm, some ((.tm 1), true)⟩,
 ⟨.nilck (.tm 0), .tm, some ((.tm 2), true)⟩,
 ⟨.faddr 0 (.tm 0), .tm, some ((.tm 3), true)⟩,
 ⟨.load1 (.tm 0), .tm, some ((.tm 4), true)⟩,
 ⟨.mov (.fr 0), .tm, some ((.tm 5), true)⟩,
 ⟨.nilck (.tm 0), .tm, some ((.tm 6), true)⟩,
 ⟨.faddr 0 (.tm 0), .tm, some ((.tm 7), true)⟩,
 ⟨.load1 (.tm 0), .tm, some ((.tm 8), true)⟩,
 ⟨.len false (.tm 0), .tm, some ((.tm 9), true)⟩,
 ⟨.bin .sub (.tm 0) (.c (.int .i64 1)), .tm, some ((.tm 10), true)⟩,
 ⟨.iaddr 70 (.tm 6) (.tm 0), .tm, some ((.tm 11), true)⟩,
 ⟨.loadn 70 (.tm 0), .tm, some ((.tm 12), true)⟩,
 ⟨.callf 34 [(.tm 12), (.tm 0)], .tm, some ((.tm 13), true)⟩,
 ⟨.bin .leq (.tm 0) (.c (.int .i64 0)), .tm, some ((.tm 14), true)⟩,
 ⟨.pick (.tm 15) (.tm 0) (.c (.bool false)), .tm, some ((.tm 22), false)⟩,
 ⟨.pick (.tm 23) (.c (.bool true)) (.tm 0), .tm, none⟩,
 ⟨.mov (.tm 0), .fr 5, none⟩]) <|
 .cond (.fr 5)
 (.seq (.reg [
 ⟨.mov (.c (.int .i64 2)), .fr 3, none⟩]) <|
 .ret)
 (.skip)))) <|
 .seq (.reg [
 ⟨.mov (.fr 0), .tm, none⟩,
 ⟨.mov (.fr 0), .tm, none⟩,
 ⟨.nilck (.tm 0), .tm, none⟩,
 ⟨.faddr 0 (.tm 0), .tm, none⟩,
 ⟨.load1 (.tm 0), .tm, none⟩,
 ⟨.loadn 70 (.fr 2), .tm, none⟩,
 ⟨.bslice 54 70 1 [(.int .i64 0), (.int .i64 0), (.int .u64 0), (.int .u64 0), (.int .u64 0), (.int .u8 0), (.int .u8 0), (.int .u8 0), (.int .u8 0), (.int .u8 0), (.int .u8 0), (.int .u8 0), (.int .u8 0), (.int .u8 0), (.int .u8 0), (.int .u8 0), (.int .u8 0), (.int .u8 0), (.int .u8 0), (.int .u8 0), (.int .u8 0), (.int .u8 0), (.int .u8 0), (.int .u8 0), (.int .u8 0), (.int .u8 0), (.int .u8 0), (.int .u8 0), (.int .u8 0), (.int .u8 0), (.int .u8 0), (.int .u8 0), (.int .u8 0), (.int .u8 0), (.int .u8 0), (.int .u8 0), (.int .u8 0), (.int .u8 0), (.int .u8 0), (.int .u8 0), (.int .u8 0), (.int .u8 0), (.int .u8 0), (.int .u8 0), (.int .u8 0), (.int .u8 0), (.int .u8 0), (.int .u8 0), (.int .u8 0), (.int .u8 0), (.int .u8 0), (.int .u8 0), (.int .u8 0), (.int .u8 0), (.int .u8 0), (.int .u8 0), (.int .u8 0), (.int .u8 0), (.int .u8 0), (.int .u8 0), (.int .u8 0), (.int .u8 0), (.int .u8 0), (.int .u8 0), (.int .u8 0), (.int .u8 0), (.int .u8 0), (.int .u8 0), (.int .u8 0), (.int .u32 0)] [(0, 70, (.tm 0))], .tm, none⟩,
 ⟨.app 54 70 112 (.tm 2) (.tm 0), .tm, none⟩,
 ⟨.nilck (.tm 7), .tm, none⟩,
 ⟨.faddr 0 (.tm 0), .tm, none⟩,
 ⟨.store1 (.tm 0) (.tm 2), .no, none⟩]) <|
 .seq (.seq (.reg [
 ⟨.mov (.fr 0), .tm, none⟩,
 ⟨.nilck (.tm 0), .tm, none⟩,
 ⟨.faddr 0 (.tm 0), .tm, none⟩,
 ⟨.load1 (.tm 0), .tm, none⟩,
 ⟨.len false (.tm 0), .tm, none⟩,
 ⟨.bin .gtr (.tm 0) (.c (.int .i64 8)), .fr 6, none⟩]) <|
 .cond (.fr 6)
 (.reg [
 ⟨.mov (.fr 0), .tm, none⟩,
 ⟨.mov (.fr 0), .tm, none⟩,
 ⟨.mov (.fr 0), .tm, none⟩,
 ⟨.nilck (.tm 0), .tm, none⟩,
 ⟨.faddr 0 (.tm 0), .tm, none⟩,
 ⟨.load1 (.tm 0), .tm, none⟩,
 ⟨.slsl 70 (.tm 0) (some (.c (.int .i64 1))) none none, .tm, none⟩,
 ⟨.mov (.fr 0), .tm, none⟩,
 ⟨.nilck (.tm 0), .tm, none⟩,
 ⟨.faddr 1 (.tm 0), .tm, none⟩,
 ⟨.load1 (.tm 0), .tm, none⟩,
 ⟨.bin .sub (.tm 0) (.c (.int .i64 1)), .tm, none⟩,
 ⟨.mm true (.c (.int .i64 0)) (.tm 0), .tm, none⟩,
 ⟨.nilck (.tm 12), .tm, none⟩,
 ⟨.faddr 0 (.tm 0), .tm, none⟩,
 ⟨.store1 (.tm 0) (.tm 8), .no, none⟩,
 ⟨.nilck (.tm 13), .tm, none⟩,
 ⟨.faddr 1 (.tm 0), .tm, none⟩,
 ⟨.store1 (.tm 0) (.tm 4), .no, none⟩])
 (.skip)) <|
 .seq (.reg [
 ⟨.mov (.c (.int .i64 0)), .fr 3, none⟩]) <|
 .ret⟩
def e16 : EF := ⟨1, [0, 2, 3, 4, 5, 6, 20, 39], [.cn 78 1, .t 2],
 .seq (.reg [
 ⟨.new 41 78 [(.int .u8 0), (.int .i64 0), (.int .i64 0), (.int .i64 0), (.int .i64 0), (.int .u64 0), (.int .u64 0), (.int .u64 0), (.int .u8 0), (.int .u8 0), (.int .u8 0), (.int .u8 0), (.int .u8 0), (.int .u8 0), (.int .u8 0), (.int .u8 0), (.int .u8 0), (.int .u8 0), (.int .u8 0), (.int .u8 0), (.int .u8 0), (.int .u8 0), (.int .u8 0), (.int .u8 0), (.int .u8 0), (.int .u8 0), (.int .u8 0), (.int .u8 0), (.int .u8 0), (.int .u8 0), (.int .u8 0), (.int .u8 0), (.int .u8 0), (.int .u8 0), (.int .u8 0), (.int .u8 0), (.int .u8 0), (.int .u8 0), (.int .u8 0), (.int .u8 0), (.int .u8 0), (.int .u8 0), (.int .u8 0), (.int .u8 0), (.int .u8 0), (.int .u8 0), (.int .u8 0), (.int .u8 0), (.int .u8 0), (.int .u8 0), (.int .u8 0), (.int .u8 0), (.int .u8 0), (.int .u8 0), (.int .u8 0), (.int .u8 0), (.int .u8 0), (.int .u8 0), (.int .u8 0), (.int .u8 0), (.int .u8 0), (.int .u8 0), (.int .u8 0), (.int .u8 0), (.int .u8 0), (.int .u8 0), (.int .u8 0), (.int .u8 0), (.int .u8 0), (.int .u8 0), (.int .u8 0), (.int .u8 0), (.int .u32 0), (.int .u64 0), (.int .u64 0), (.int .u64 0), (.int .u32 0), (.slice none 0 0)], .fr 1, none⟩,
 ⟨.mov (.c (.bool false)), .fr 2, none⟩]) <|
 .seq (.seq (.reg [
 ⟨.mov (.fr 0), .tm, none⟩,
 ⟨.eqv 1 false (.tm 0) (.c (.pointer none)), .tm, none⟩,
 ⟨.mov (.tm 0), .tm, none⟩,
 ⟨.mov (.fr 0), .tm, some ((.tm 0), false)⟩,
 ⟨.nilck (.tm 0), .tm, some ((.tm 1), false)⟩,
 ⟨.faddr 1 (.tm 0), .tm, some ((.tm 2), false)⟩,
 ⟨.load1 (.tm 0), .tm, some ((.tm 3), false)⟩,
 ⟨.mov (.fr 0), .tm, some ((.tm 4), false)⟩,
 ⟨.nilck (.tm 0), .tm, some ((.tm 5), false)⟩,
 ⟨.faddr 0 (.tm 0), .tm, some ((.tm 6), false)⟩,
 ⟨.load1 (.tm 0), .tm, some ((.tm 7), false)⟩,
 ⟨.len false (.tm 0), .tm, some ((.tm 8), false)⟩,
 ⟨.bin .eql (.tm 5) (.tm 0), .tm, some ((.tm 9), false)⟩,
 ⟨.pick (.tm 10) (.c (.bool true)) (.tm 0), .fr 6, none⟩]) <|
 .cond (.fr 6)
 (.seq (.reg [
 ⟨.build [(.int .u8 0), (.int .i64 0), (.int .i64 0), (.int .i64 0), (.int .i64 0), (.int .u64 0), (.int .u64 0), (.int .u64 0), (.int .u8 0), (.int .u8 0), (.int .u8 0), (.int .u8 0), (.int .u8 0), (.int .u8 0), (.int .u8 0), (.int .u8 0), (.int .u8 0), (.int .u8 0), (.int .u8 0), (.int .u8 0), (.int .u8 0), (.int .u8 0), (.int .u8 0), (.int .u8 0), (.int .u8 0), (.int .u8 0), (.int .u8 0), (.int .u8 0), (.int .u8 0), (.int .u8 0), (.int .u8 0), (.int .u8 0), (.int .u8 0), (.int .u8 0), (.int .u8 0), (.int .u8 0), (.int .u8 0), (.int .u8 0), (.int .u8 0), (.int .u8 0), (.int .u8 0), (.int .u8 0), (.int .u8 0), (.int .u8 0), (.int .u8 0), (.int .u8 0), (.int .u8 0), (.int .u8 0), (.int .u8 0), (.int .u8 0), (.int .u8 0), (.int .u8 0), (.int .u8 0), (.int .u8 0), (.int .u8 0), (.int .u8 0), (.int .u8 0), (.int .u8 0), (.int .u8 0), (.int .u8 0), (.int .u8 0), (.int .u8 0), (.int .u8 0), (.int .u8 0), (.int .u8 0), (.int .u8 0), (.int .u8 0), (.int .u8 0), (.int .u8 0), (.int .u8 0), (.int .u8 0), (.int .u8 0), (.int .u32 0), (.int .u64 0), (.int .u64 0), (.int .u64 0), (.int .u32 0), (.slice none 0 0)] [], .tm, none⟩,
 ⟨.storen 78 (.fr 1) (.tm 0), .no, none⟩,
 ⟨.mov (.c (.bool false)), .fr 2, none⟩]) <|
 .ret)
 (.skip)) <|
 .seq (.reg [
 ⟨.mov (.fr 0), .tm, none⟩,
 ⟨.nilck (.tm 0), .tm, none⟩,
 ⟨.faddr 0 (.tm 0), .tm, none⟩,
 ⟨.load1 (.tm 0), .tm, none⟩,
 ⟨.mov (.fr 0), .tm, none⟩,
 ⟨.nilck (.tm 0), .tm, none⟩,
 ⟨.faddr 0 (.tm 0), .tm, none⟩,
 ⟨.load1 (.tm 0), .tm, none⟩,
 ⟨.len false (.tm 0), .tm, none⟩,
 ⟨.bin .sub (.tm 0) (.c (.int .i64 1)), .tm, none⟩,
 ⟨.iaddr 70 (.tm 6) (.tm 0), .tm, none⟩,
 ⟨.loadn 70 (.tm 0), .tm, none⟩,
 ⟨.new 54 70 [(.int .i64 0), (.int .i64 0), (.int .u64 0), (.int .u64 0), (.int .u64 0), (.int .u8 0), (.int .u8 0), (.int .u8 0), (.int .u8 0), (.int .u8 0), (.int .u8 0), (.int .u8 0), (.int .u8 0), (.int .u8 0), (.int .u8 0), (.int .u8 0), (.int .u8 0), (.int .u8 0), (.int .u8 0), (.int .u8 0), (.int .u8 0), (.int .u8 0), (.int .u8 0), (.int .u8 0), (.int .u8 0), (.int .u8 0), (.int .u8 0), (.int .u8 0), (.int .u8 0), (.int .u8 0), (.int .u8 0), (.int .u8 0), (.int .u8 0), (.int .u8 0), (.int .u8 0), (.int .u8 0), (.int .u8 0), (.int .u8 0), (.int .u8 0), (.int .u8 0), (.int .u8 0), (.int .u8 0), (.int .u8 0), (.int .u8 0), (.int .u8 0), (.int .u8 0), (.int .u8 0), (.int .u8 0), (.int .u8 0), (.int .u8 0), (.int .u8 0), (.int .u8 0), (.int .u8 0), (.int .u8 0), (.int .u8 0), (.int .u8 0), (.int .u8 0), (.int .u8 0), (.int .u8 0), (.int .u8 0), (.int .u8 0), (.int .u8 0), (.int .u8 0), (.int .u8 0), (.int .u8 0), (.int .u8 0), (.int .u8 0), (.int .u8 0), (.int .u8 0), (.int .u32 0)], .fr 3, none⟩,
 ⟨.storen 70 (.fr 3) (.tm 0), .no, none⟩]) <|
 .seq (.seq (.reg [
 ⟨.mov (.fr 0), .tm, none⟩,
 ⟨.callf 29 [(.tm 0)], .tm, none⟩,
 ⟨.mov (.tm 0), .tm, none⟩,
 ⟨.extract (.tm 0) 0, .tm, none⟩,
 ⟨.extract (.tm 1) 1, .tm, none⟩,
 ⟨.new 54 70 [(.int .i64 0), (.int .i64 0), (.int .u64 0), (.int .u64 0), (.int .u64 0), (.int .u8 0), (.int .u8 0), (.int .u8 0), (.int .u8 0), (.int .u8 0), (.int .u8 0), (.int .u8 0), (.int .u8 0), (.int .u8 0), (.int .u8 0), (.int .u8 0), (.int .u8 0), (.int .u8 0), (.int .u8 0), (.int .u8 0), (.int .u8 0), (.int .u8 0), (.int .u8 0), (.int .u8 0), (.int .u8 0), (.int .u8 0), (.int .u8 0), (.int .u8 0), (.int .u8 0), (.int .u8 0), (.int .u8 0), (.int .u8 0), (.int .u8 0), (.int .u8 0), (.int .u8 0), (.int .u8 0), (.int .u8 0), (.int .u8 0), (.int .u8 0), (.int .u8 0), (.int .u8 0), (.int .u8 0), (.int .u8 0), (.int .u8 0), (.int .u8 0), (.int .u8 0), (.int .u8 0), (.int .u8 0), (.int .u8 0), (.int .u8 0), (.int .u8 0), (.int .u8 0), (.int .u8 0), (.int .u8 0), (.int .u8 0), (.int .u8 0), (.int .u8 0), (.int .u8 0), (.int .u8 0), (.int .u8 0), (.int .u8 0), (.int .u8 0), (.int .u8 0), (.int .u8 0), (.int .u8 0), (.int .u8 0), (.int .u8 0), (.int .u8 0), (.int .u8 0), (.int .u32 0)], .fr 4, none⟩,
 ⟨.storen 70 (.fr 4) (.tm 1), .no, none⟩,
 ⟨.mov (.tm 0), .fr 5, none⟩]) <|
 .seq (.reg [
 ⟨.mov (.fr 5), .fr 7, none⟩]) <|
 .cond (.fr 7)
 (.seq (.dreg [
 (⟨.faddr 0 (.fr 3), .tm, none⟩, []),
 (⟨.load1 (.tm 0), .tm, none⟩, []),
 (⟨.faddr 1 (.fr 3), .tm, none⟩, []),
 (⟨.load1 (.tm 0), .tm, none⟩, []),
 (⟨.faddr 0 (.fr 4), .tm, none⟩, []),
 (⟨.load1 (.tm 0), .tm, none⟩, []),
 (⟨.faddr 1 (.fr 4), .tm, none⟩, []),
 (⟨.load1 (.tm 0), .tm, none⟩, []),
 (⟨.faddr 2 (.fr 4), .tm, none⟩, []),
 (⟨.loadn 68 (.tm 0), .tm, none⟩, []),
 (⟨.faddr 2 (.fr 3), .tm, none⟩, []),
 (⟨.loadn 68 (.tm 0), .tm, none⟩, []),
 (⟨.callf 9 [(.tm 2), (.tm 0)], .tm, none⟩, [1, 3, 5, 7]),
 (⟨.build [(.int .u8 0), (.int .i64 0), (.int .i64 0), (.int .i64 0), (.int .i64 0), (.int .u64 0), (.int .u64 0), (.int .u64 0), (.int .u8 0), (.int .u8 0), (.int .u8 0), (.int .u8 0), (.int .u8 0), (.int .u8 0), (.int .u8 0), (.int .u8 0), (.int .u8 0), (.int .u8 0), (.int .u8 0), (.int .u8 0), (.int .u8 0), (.int .u8 0), (.int .u8 0), (.int .u8 0), (.int .u8 0), (.int .u8 0), (.int .u8 0), (.int .u8 0), (.int .u8 0), (.int .u8 0), (.int .u8 0), (.int .u8 0), (.int .u8 0), (.int .u8 0), (.int .u8 0), (.int .u8 0), (.int .u8 0), (.int .u8 0), (.int .u8 0), (.int .u8 0), (.int .u8 0), (.int .u8 0), (.int .u8 0), (.int .u8 0), (.int .u8 0), (.int .u8 0), (.int .u8 0), (.int .u8 0), (.int .u8 0), (.int .u8 0), (.int .u8 0), (.int .u8 0), (.int .u8 0), (.int .u8 0), (.int .u8 0), (.int .u8 0), (.int .u8 0), (.int .u8 0), (.int .u8 0), (.int .u8 0), (.int .u8 0), (.int .u8 0), (.int .u8 0), (.int .u8 0), (.int .u8 0), (.int .u8 0), (.int .u8 0), (.int .u8 0), (.int .u8 0), (.int .u8 0), (.int .u8 0), (.int .u8 0), (.int .u32 0), (.int .u64 0), (.int .u64 0), (.int .u64 0), (.int .u32 0), (.slice none 0 0)] [(0, 1, (.c (.int .u8 2))), (1, 1, (.tm 11)), (2, 1, (.tm 9)), (3, 1, (.tm 7)), (4, 1, (.tm 5)), (73, 5, (.tm 0))], .tm, none⟩, []),
 (⟨.storen 78 (.fr 1) (.tm 0), .no, none⟩, []),
 (⟨.mov (.c (.bool true)), .fr 2, none⟩, [])]) <|
 .ret)
 (.skip)) <|
 .seq (.reg [
 ⟨.faddr 0 (.fr 3), .tm, none⟩,
 ⟨.load1 (.tm 0), .tm, none⟩,
 ⟨.faddr 1 (.fr 3), .tm, none⟩,
 ⟨.load1 (.tm 0), .tm, none⟩,
 ⟨.faddr 2 (.fr 3), .tm, none⟩,
 ⟨.loadn 68 (.tm 0), .tm, none⟩,
 ⟨.build [(.int .u8 0), (.int .i64 0), (.int .i64 0), (.int .i64 0), (.int .i64 0), (.int .u64 0), (.int .u64 0), (.int .u64 0), (.int .u8 0), (.int .u8 0), (.int .u8 0), (.int .u8 0), (.int .u8 0), (.int .u8 0), (.int .u8 0), (.int .u8 0), (.int .u8 0), (.int .u8 0), (.int .u8 0), (.int .u8 0), (.int .u8 0), (.int .u8 0), (.int .u8 0), (.int .u8 0), (.int .u8 0), (.int .u8 0), (.int .u8 0), (.int .u8 0), (.int .u8 0), (.int .u8 0), (.int .u8 0), (.int .u8 0), (.int .u8 0), (.int .u8 0), (.int .u8 0), (.int .u8 0), (.int .u8 0), (.int .u8 0), (.int .u8 0), (.int .u8 0), (.int .u8 0), (.int .u8 0), (.int .u8 0), (.int .u8 0), (.int .u8 0), (.int .u8 0), (.int .u8 0), (.int .u8 0), (.int .u8 0), (.int .u8 0), (.int .u8 0), (.int .u8 0), (.int .u8 0), (.int .u8 0), (.int .u8 0), (.int .u8 0), (.int .u8 0), (.int .u8 0), (.int .u8 0), (.int .u8 0), (.int .u8 0), (.int .u8 0), (.int .u8 0), (.int .u8 0), (.int .u8 0), (.int .u8 0), (.int .u8 0), (.int .u8 0), (.int .u8 0), (.int .u8 0), (.int .u8 0), (.int .u8 0), (.int .u32 0), (.int .u64 0), (.int .u64 0), (.int .u64 0), (.int .u32 0), (.slice none 0 0)] [(0, 1, (.c (.int .u8 1))), (1, 1, (.tm 4)), (2, 1, (.tm 2)), (5, 68, (.tm 0))], .tm, none⟩,
 ⟨.storen 78 (.fr 1) (.tm 0), .no, none⟩,
 ⟨.mov (.c (.bool true)), .fr 2, none⟩]) <|
 .ret⟩
def e17 : EF := ⟨2, [0, 1, 3, 4, 5, 6, 7, 8, 9, 13, 49, 81, 85], [.cn 78 3, .t 4, .t 5],
 .seq (.reg [
 ⟨.box 41 78 (.fr 1), .fr 2, none⟩,
 ⟨.new 41 78 [(.int .u8 0), (.int .i64 0), (.int .i64 0), (.int .i64 0), (.int .i64 0), (.int .u64 0), (.int .u64 0), (.int .u64 0), (.int .u8 0), (.int .u8 0), (.int .u8 0), (.int .u8 0), (.int .u8 0), (.int .u8 0), (.int .u8 0), (.int .u8 0), (.int .u8 0), (.int .u8 0), (.int .u8 0), (.int .u8 0), (.int .u8 0), (.int .u8 0), (.int .u8 0), (.int .u8 0), (.int .u8 0), (.int .u8 0), (.int .u8 0), (.int .u8 0), (.int .u8 0), (.int .u8 0), (.int .u8 0), (.int .u8 0), (.int .u8 0), (.int .u8 0), (.int .u8 0), (.int .u8 0), (.int .u8 0), (.int .u8 0), (.int .u8 0), (.int .u8 0), (.int .u8 0), (.int .u8 0), (.int .u8 0), (.int .u8 0), (.int .u8 0), (.int .u8 0), (.int .u8 0), (.int .u8 0), (.int .u8 0), (.int .u8 0), (.int .u8 0), (.int .u8 0), (.int .u8 0), (.int .u8 0), (.int .u8 0), (.int .u8 0), (.int .u8 0), (.int .u8 0), (.int .u8 0), (.int .u8 0), (.int .u8 0), (.int .u8 0), (.int .u8 0), (.int .u8 0), (.int .u8 0), (.int .u8 0), (.int .u8 0), (.int .u8 0), (.int .u8 0), (.int .u8 0), (.int .u8 0), (.int .u8 0), (.int .u32 0), (.int .u64 0), (.int .u64 0), (.int .u64 0), (.int .u32 0), (.slice none 0 0)], .fr 3, none⟩,
 ⟨.mov (.c (.bool false)), .fr 4, none⟩,
 ⟨.mov (.c (.int .i64 0)), .fr 5, none⟩]) <|
 .seq (.block 0 (.seq (.reg [
 ⟨.mov (.fr 0), .tm, none⟩,
 ⟨.eqv 1 false (.tm 0) (.c (.pointer none)), .tm, none⟩,
 ⟨.mov (.tm 0), .fr 8, none⟩]) <|
 .cond (.fr 8)
 (.seq (.reg [
 ⟨.build [(.int .u8 0), (.int .i64 0), (.int .i64 0), (.int .i64 0), (.int .i64 0), (.int .u64 0), (.int .u64 0), (.int .u64 0), (.int .u8 0), (.int .u8 0), (.int .u8 0), (.int .u8 0), (.int .u8 0), (.int .u8 0), (.int .u8 0), (.int .u8 0), (.int .u8 0), (.int .u8 0), (.int .u8 0), (.int .u8 0), (.int .u8 0), (.int .u8 0), (.int .u8 0), (.int .u8 0), (.int .u8 0), (.int .u8 0), (.int .u8 0), (.int .u8 0), (.int .u8 0), (.int .u8 0), (.int .u8 0), (.int .u8 0), (.int .u8 0), (.int .u8 0), (.int .u8 0), (.int .u8 0), (.int .u8 0), (.int .u8 0), (.int .u8 0), (.int .u8 0), (.int .u8 0), (.int .u8 0), (.int .u8 0), (.int .u8 0), (.int .u8 0), (.int .u8 0), (.int .u8 0), (.int .u8 0), (.int .u8 0), (.int .u8 0), (.int .u8 0), (.int .u8 0), (.int .u8 0), (.int .u8 0), (.int .u8 0), (.int .u8 0), (.int .u8 0), (.int .u8 0), (.int .u8 0), (.int .u8 0), (.int .u8 0), (.int .u8 0), (.int .u8 0), (.int .u8 0), (.int .u8 0), (.int .u8 0), (.int .u8 0), (.int .u8 0), (.int .u8 0), (.int .u8 0), (.int .u8 0), (.int .u8 0), (.int .u32 0), (.int .u64 0), (.int .u64 0), (.int .u64 0), (.int .u32 0), (.slice none 0 0)] [], .tm, none⟩,
 ⟨.storen 78 (.fr 3) (.tm 0), .no, none⟩,
 ⟨.mov (.c (.bool false)), .fr 4, none⟩,
 ⟨.mov (.c (.int .i64 1)), .fr 5, none⟩]) <|
 .ret)
 (.seq (.reg [
 ⟨.loadn 78 (.fr 2), .tm, none⟩,
 ⟨.callf 35 [(.tm 0)], .tm, none⟩,
 ⟨.un .not (.tm 0), .tm, none⟩,
 ⟨.mov (.tm 0), .tm, none⟩,
 ⟨.faddr 0 (.fr 2), .tm, some ((.tm 0), false)⟩,
 ⟨.load1 (.tm 0), .tm, some ((.tm 1), false)⟩,
 ⟨.bin .gtr (.tm 0) (.c (.int .u8 2)), .tm, some ((.tm 2), false)⟩,
 ⟨.pick (.tm 3) (.c (.bool true)) (.tm 0), .tm, none⟩,
 ⟨.mov (.tm 0), .fr 9, none⟩]) <|
 .cond (.fr 9)
 (.seq (.reg [
 ⟨.build [(.int .u8 0), (.int .i64 0), (.int .i64 0), (.int .i64 0), (.int .i64 0), (.int .u64 0), (.int .u64 0), (.int .u64 0), (.int .u8 0), (.int .u8 0), (.int .u8 0), (.int .u8 0), (.int .u8 0), (.int .u8 0), (.int .u8 0), (.int .u8 0), (.int .u8 0), (.int .u8 0), (.int .u8 0), (.int .u8 0), (.int .u8 0), (.int .u8 0), (.int .u8 0), (.int .u8 0), (.int .u8 0), (.int .u8 0), (.int .u8 0), (.int .u8 0), (.int .u8 0), (.int .u8 0), (.int .u8 0), (.int .u8 0), (.int .u8 0), (.int .u8 0), (.int .u8 0), (.int .u8 0), (.int .u8 0), (.int .u8 0), (.int .u8 0), (.int .u8 0), (.int .u8 0), (.int .u8 0), (.int .u8 0), (.int .u8 0), (.int .u8 0), (.int .u8 0), (.int .u8 0), (.int .u8 0), (.int .u8 0), (.int .u8 0), (.int .u8 0), (.int .u8 0), (.int .u8 0), (.int .u8 0), (.int .u8 0), (.int .u8 0), (.int .u8 0), (.int .u8 0), (.int .u8 0), (.int .u8 0), (.int .u8 0), (.int .u8 0), (.int .u8 0), (.int .u8 0), (.int .u8 0), (.int .u8 0), (.int .u8 0), (.int .u8 0), (.int .u8 0), (.int .u8 0), (.int .u8 0), (.int .u8 0), (.int .u32 0), (.int .u64 0), (.int .u64 0), (.int .u64 0), (.int .u32 0), (.slice none 0 0)] [], .tm, none⟩,
 ⟨.storen 78 (.fr 3) (.tm 0), .no, none⟩,
 ⟨.mov (.c (.bool false)), .fr 4, none⟩,
 ⟨.mov (.c (.int .i64 2)), .fr 5, none⟩]) <|
 .ret)
 (.skip)))) <|
 .seq (.reg [
 ⟨.faddr 1 (.fr 2), .tm, none⟩,
 ⟨.load1 (.tm 0), .tm, none⟩,
 ⟨.faddr 2 (.fr 2), .tm, none⟩,
 ⟨.load1 (.tm 0), .tm, none⟩,
 ⟨.faddr 5 (.fr 2), .tm, none⟩,
 ⟨.loadn 68 (.tm 0), .tm, none⟩,
 ⟨.build [(.int .i64 0), (.int .i64 0), (.int .u64 0), (.int .u64 0), (.int .u64 0), (.int .u8 0), (.int .u8 0), (.int .u8 0), (.int .u8 0), (.int .u8 0), (.int .u8 0), (.int .u8 0), (.int .u8 0), (.int .u8 0), (.int .u8 0), (.int .u8 0), (.int .u8 0), (.int .u8 0), (.int .u8 0), (.int .u8 0), (.int .u8 0), (.int .u8 0), (.int .u8 0), (.int .u8 0), (.int .u8 0), (.int .u8 0), (.int .u8 0), (.int .u8 0), (.int .u8 0), (.int .u8 0), (.int .u8 0), (.int .u8 0), (.int .u8 0), (.int .u8 0), (.int .u8 0), (.int .u8 0), (.int .u8 0), (.int .u8 0), (.int .u8 0), (.int .u8 0), (.int .u8 0), (.int .u8 0), (.int .u8 0), (.int .u8 0), (.int .u8 0), (.int .u8 0), (.int .u8 0), (.int .u8 0), (.int .u8 0), (.int .u8 0), (.int .u8 0), (.int .u8 0), (.int .u8 0), (.int .u8 0), (.int .u8 0), (.int .u8 0), (.int .u8 0), (.int .u8 0), (.int .u8 0), (.int .u8 0), (.int .u8 0), (.int .u8 0), (.int .u8 0), (.int .u8 0), (.int .u8 0), (.int .u8 0), (.int .u8 0), (.int .u8 0), (.int .u8 0), (.int .u32 0)] [(0, 1, (.tm 4)), (1, 1, (.tm 2)), (2, 68, (.tm 0))], .tm, none⟩,
 ⟨.new 54 70 [(.int .i64 0), (.int .i64 0), (.int .u64 0), (.int .u64 0), (.int .u64 0), (.int .u8 0), (.int .u8 0), (.int .u8 0), (.int .u8 0), (.int .u8 0), (.int .u8 0), (.int .u8 0), (.int .u8 0), (.int .u8 0), (.int .u8 0), (.int .u8 0), (.int .u8 0), (.int .u8 0), (.int .u8 0), (.int .u8 0), (.int .u8 0), (.int .u8 0), (.int .u8 0), (.int .u8 0), (.int .u8 0), (.int .u8 0), (.int .u8 0), (.int .u8 0), (.int .u8 0), (.int .u8 0), (.int .u8 0), (.int .u8 0), (.int .u8 0), (.int .u8 0), (.int .u8 0), (.int .u8 0), (.int .u8 0), (.int .u8 0), (.int .u8 0), (.int .u8 0), (.int .u8 0), (.int .u8 0), (.int .u8 0), (.int .u8 0), (.int .u8 0), (.int .u8 0), (.int .u8 0), (.int .u8 0), (.int .u8 0), (.int .u8 0), (.int .u8 0), (.int .u8 0), (.int .u8 0), (.int .u8 0), (.int .u8 0), (.int .u8 0), (.int .u8 0), (.int .u8 0), (.int .u8 0), (.int .u8 0), (.int .u8 0), (.int .u8 0), (.int .u8 0), (.int .u8 0), (.int .u8 0), (.int .u8 0), (.int .u8 0), (.int .u8 0), (.int .u8 0), (.int .u32 0)], .fr 6, none⟩,
 ⟨.storen 70 (.fr 6) (.tm 0), .no, none⟩]) <|
 .seq (.seq (.reg [
 ⟨.faddr 3 (.fr 2), .tm, none⟩,
 ⟨.load1 (.tm 0), .tm, none⟩,
 ⟨.faddr 4 (.fr 2), .tm, none⟩,
 ⟨.load1 (.tm 0), .tm, none⟩,
 ⟨.build [(.int .i64 0), (.int .i64 0), (.int .u64 0), (.int .u64 0), (.int .u64 0), (.int .u8 0), (.int .u8 0), (.int .u8 0), (.int .u8 0), (.int .u8 0), (.int .u8 0), (.int .u8 0), (.int .u8 0), (.int .u8 0), (.int .u8 0), (.int .u8 0), (.int .u8 0), (.int .u8 0), (.int .u8 0), (.int .u8 0), (.int .u8 0), (.int .u8 0), (.int .u8 0), (.int .u8 0), (.int .u8 0), (.int .u8 0), (.int .u8 0), (.int .u8 0), (.int .u8 0), (.int .u8 0), (.int .u8 0), (.int .u8 0), (.int .u8 0), (.int .u8 0), (.int .u8 0), (.int .u8 0), (.int .u8 0), (.int .u8 0), (.int .u8 0), (.int .u8 0), (.int .u8 0), (.int .u8 0), (.int .u8 0), (.int .u8 0), (.int .u8 0), (.int .u8 0), (.int .u8 0), (.int .u8 0), (.int .u8 0), (.int .u8 0), (.int .u8 0), (.int .u8 0), (.int .u8 0), (.int .u8 0), (.int .u8 0), (.int .u8 0), (.int .u8 0), (.int .u8 0), (.int .u8 0), (.int .u8 0), (.int .u8 0), (.int .u8 0), (.int .u8 0), (.int .u8 0), (.int .u8 0), (.int .u8 0), (.int .u8 0), (.int .u8 0), (.int .u8 0), (.int .u32 0)] [(0, 1, (.tm 2)), (1, 1, (.tm 0))], .tm, none⟩,
 ⟨.new 54 70 [(.int .i64 0), (.int .i64 0), (.int .u64 0), (.int .u64 0), (.int .u64 0), (.int .u8 0), (.int .u8 0), (.int .u8 0), (.int .u8 0), (.int .u8 0), (.int .u8 0), (.int .u8 0), (.int .u8 0), (.int .u8 0), (.int .u8 0), (.int .u8 0), (.int .u8 0), (.int .u8 0), (.int .u8 0), (.int .u8 0), (.int .u8 0), (.int .u8 0), (.int .u8 0), (.int .u8 0), (.int .u8 0), (.int .u8 0), (.int .u8 0), (.int .u8 0), (.int .u8 0), (.int .u8 0), (.int .u8 0), (.int .u8 0), (.int .u8 0), (.int .u8 0), (.int .u8 0), (.int .u8 0), (.int .u8 0), (.int .u8 0), (.int .u8 0), (.int .u8 0), (.int .u8 0), (.int .u8 0), (.int .u8 0), (.int .u8 0), (.int .u8 0), (.int .u8 0), (.int .u8 0), (.int .u8 0), (.int .u8 0), (.int .u8 0), (.int .u8 0), (.int .u8 0), (.int .u8 0), (.int .u8 0), (.int .u8 0), (.int .u8 0), (.int .u8 0), (.int .u8 0), (.int .u8 0), (.int .u8 0), (.int .u8 0), (.int .u8 0), (.int .u8 0), (.int .u8 0), (.int .u8 0), (.int .u8 0), (.int .u8 0), (.int .u8 0), (.int .u8 0), (.int .u32 0)], .fr 7, none⟩,
 ⟨.storen 70 (.fr 7) (.tm 0), .no, none⟩]) <|
 .block 1 (.seq (.reg [
 ⟨.mov (.fr 0), .tm, none⟩,
 ⟨.nilck (.tm 0), .tm, none⟩,
 ⟨.faddr 0 (.tm 0), .tm, none⟩,
 ⟨.load1 (.tm 0), .tm, none⟩,
 ⟨.eqv 1 true (.tm 0) (.c (.pointer none)), .tm, none⟩,
 ⟨.mov (.tm 0), .tm, none⟩,
 ⟨.loadn 70 (.fr 6), .tm, some ((.tm 0), true)⟩,
 ⟨.mov (.fr 0), .tm, some ((.tm 1), true)⟩,
 ⟨.nilck (.tm 0), .tm, some ((.tm 2), true)⟩,
 ⟨.faddr 0 (.tm 0), .tm, some ((.tm 3), true)⟩,
 ⟨.load1 (.tm 0), .tm, some ((.tm 4), true)⟩,
 ⟨.nilck (.tm 0), .tm, some ((.tm 5), true)⟩,
 ⟨.loadn 70 (.tm 0), .tm, some ((.tm 6), true)⟩,
 ⟨.callf 34 [(.tm 6), (.tm 0)], .tm, some ((.tm 7), true)⟩,
 ⟨.bin .leq (.tm 0) (.c (.int .i64 0)), .tm, some ((.tm 8), true)⟩,
 ⟨.pick (.tm 9) (.tm 0) (.c (.bool false)), .tm, none⟩,
 ⟨.mov (.tm 0), .fr 10, none⟩]) <|
 .cond (.fr 10)
 (.seq (.reg [
 ⟨.mov (.fr 0), .tm, none⟩,
 ⟨.nilck (.tm 0), .tm, none⟩,
 ⟨.faddr 0 (.tm 0), .tm, none⟩,
 ⟨.load1 (.tm 0), .tm, none⟩,
 ⟨.nilck (.tm 0), .tm, none⟩,
 ⟨.faddr 0 (.tm 0), .tm, none⟩,
 ⟨.load1 (.tm 0), .tm, none⟩,
 ⟨.mov (.fr 0), .tm, none⟩,
 ⟨.nilck (.tm 0), .tm, none⟩,
 ⟨.faddr 0 (.tm 0), .tm, none⟩,
 ⟨.load1 (.tm 0), .tm, none⟩,
 ⟨.nilck (.tm 0), .tm, none⟩,
 ⟨.faddr 1 (.tm 0), .tm, none⟩,
 ⟨.load1 (.tm 0), .tm, none⟩,
 ⟨.build [(.int .u8 0), (.int .i64 0), (.int .i64 0), (.int .i64 0), (.int .i64 0), (.int .u64 0), (.int .u64 0), (.int .u64 0), (.int .u8 0), (.int .u8 0), (.int .u8 0), (.int .u8 0), (.int .u8 0), (.int .u8 0), (.int .u8 0), (.int .u8 0), (.int .u8 0), (.int .u8 0), (.int .u8 0), (.int .u8 0), (.int .u8 0), (.int .u8 0), (.int .u8 0), (.int .u8 0), (.int .u8 0), (.int .u8 0), (.int .u8 0), (.int .u8 0), (.int .u8 0), (.int .u8 0), (.int .u8 0), (.int .u8 0), (.int .u8 0), (.int .u8 0), (.int .u8 0), (.int .u8 0), (.int .u8 0), (.int .u8 0), (.int .u8 0), (.int .u8 0), (.int .u8 0), (.int .u8 0), (.int .u8 0), (.int .u8 0), (.int .u8 0), (.int .u8 0), (.int .u8 0), (.int .u8 0), (.int .u8 0), (.int .u8 0), (.int .u8 0), (.int .u8 0), (.int .u8 0), (.int .u8 0), (.int .u8 0), (.int .u8 0), (.int .u8 0), (.int .u8 0), (.int .u8 0), (.int .u8 0), (.int .u8 0), (.int .u8 0), (.int .u8 0), (.int .u8 0), (.int .u8 0), (.int .u8 0), (.int .u8 0), (.int .u8 0), (.int .u8 0), (.int .u8 0), (.int .u8 0), (.int .u8 0), (.int .u32 0), (.int .u64 0), (.int .u64 0), (.int .u64 0), (.int .u32 0), (.slice none 0 0)] [(0, 1, (.c (.int .u8 3))), (1, 1, (.tm 7)), (2, 1, (.tm 0))], .tm, none⟩,
 ⟨.storen 78 (.fr 3) (.tm 0), .no, none⟩,
 ⟨.mov (.c (.bool false)), .fr 4, none⟩,
 ⟨.mov (.c (.int .i64 0)), .fr 5, none⟩]) <|
 .ret)
 (.seq (.reg [
 ⟨.faddr 0 (.fr 2), .tm, none⟩,
 ⟨.load1 (.tm 0), .tm, none⟩,
 ⟨.bin .eql (.tm 0) (.c (.int .u8 1)), .tm, none⟩,
 ⟨.mov (.tm 0), .fr 11, none⟩]) <|
 .cond (.fr 11)
 (.skip)
 (.seq (.reg [
 ⟨.mov (.fr 0), .tm, none⟩,
 ⟨.nilck (.tm 0), .tm, none⟩,
 ⟨.faddr 0 (.tm 0), .tm, none⟩,
 ⟨.load1 (.tm 0), .tm, none⟩,
 ⟨.eqv 1 false (.tm 0) (.c (.pointer none)), .tm, none⟩,
 ⟨.mov (.tm 0), .tm, none⟩,
 ⟨.loadn 70 (.fr 7), .tm, some ((.tm 0), false)⟩,
 ⟨.mov (.fr 0), .tm, some ((.tm 1), false)⟩,
 ⟨.nilck (.tm 0), .tm, some ((.tm 2), false)⟩,
 ⟨.faddr 0 (.tm 0), .tm, some ((.tm 3), false)⟩,
 ⟨.load1 (.tm 0), .tm, some ((.tm 4), false)⟩,
 ⟨.nilck (.tm 0), .tm, some ((.tm 5), false)⟩,
 ⟨.loadn 70 (.tm 0), .tm, some ((.tm 6), false)⟩,
 ⟨.callf 34 [(.tm 6), (.tm 0)], .tm, some ((.tm 7), false)⟩,
 ⟨.bin .neq (.tm 0) (.c (.int .i64 0)), .tm, some ((.tm 8), false)⟩,
 ⟨.pick (.tm 9) (.c (.bool true)) (.tm 0), .tm, none⟩,
 ⟨.mov (.tm 0), .fr 12, none⟩]) <|
 .cond (.fr 12)
 (.seq (.reg [
 ⟨.build [(.int .u8 0), (.int .i64 0), (.int .i64 0), (.int .i64 0), (.int .i64 0), (.int .u64 0), (.int .u64 0), (.int .u64 0), (.int .u8 0), (.int .u8 0), (.int .u8 0), (.int .u8 0), (.int .u8 0), (.int .u8 0), (.int .u8 0), (.int .u8 0), (.int .u8 0), (.int .u8 0), (.int .u8 0), (.int .u8 0), (.int .u8 0), (.int .u8 0), (.int .u8 0), (.int .u8 0), (.int .u8 0), (.int .u8 0), (.int .u8 0), (.int .u8 0), (.int .u8 0), (.int .u8 0), (.int .u8 0), (.int .u8 0), (.int .u8 0), (.int .u8 0), (.int .u8 0), (.int .u8 0), (.int .u8 0), (.int .u8 0), (.int .u8 0), (.int .u8 0), (.int .u8 0), (.int .u8 0), (.int .u8 0), (.int .u8 0), (.int .u8 0), (.int .u8 0), (.int .u8 0), (.int .u8 0), (.int .u8 0), (.int .u8 0), (.int .u8 0), (.int .u8 0), (.int .u8 0), (.int .u8 0), (.int .u8 0), (.int .u8 0), (.int .u8 0), (.int .u8 0), (.int .u8 0), (.int .u8 0), (.int .u8 0), (.int .u8 0), (.int .u8 0), (.int .u8 0), (.int .u8 0), (.int .u8 0), (.int .u8 0), (.int .u8 0), (.int .u8 0), (.int .u8 0), (.int .u8 0), (.int .u8 0), (.int .u32 0), (.int .u64 0), (.int .u64 0), (.int .u64 0), (.int .u32 0), (.slice none 0 0)] [(0, 1, (.c (.int .u8 4)))], .tm, none⟩,
 ⟨.storen 78 (.fr 3) (.tm 0), .no, none⟩,
 ⟨.mov (.c (.bool false)), .fr 4, none⟩,
 ⟨.mov (.c (.int .i64 0)), .fr 5, none⟩]) <|
 .ret)
 (.reg [
 ⟨.mov (.fr 0), .tm, none⟩,
 ⟨.nilck (.tm 0), .tm, none⟩,
 ⟨.faddr 0 (.tm 0), .tm, none⟩,
 ⟨.load1 (.tm 0), .tm, none⟩,
 ⟨.nilck (.tm 0), .tm, none⟩,
 ⟨.faddr 2 (.tm 0), .tm, none⟩,
 ⟨.loadn 68 (.tm 0), .tm, none⟩,
 ⟨.faddr 73 (.fr 2), .tm, none⟩,
 ⟨.loadn 5 (.tm 0), .tm, none⟩,
 ⟨.callf 10 [(.tm 2), (.tm 0)], .tm, none⟩,
 ⟨.mov (.tm 0), .tm, none⟩,
 ⟨.extract (.tm 0) 0, .tm, none⟩,
 ⟨.extract (.tm 1) 1, .tm, none⟩,
 ⟨.faddr 2 (.fr 6), .tm, none⟩,
 ⟨.storen 68 (.tm 0) (.tm 2), .no, none⟩]))))) <|
 .seq (.reg [
 ⟨.mov (.fr 0), .tm, none⟩,
 ⟨.nilck (.tm 0), .tm, none⟩,
 ⟨.faddr 0 (.tm 0), .tm, none⟩,
 ⟨.store1 (.tm 0) (.fr 6), .no, none⟩]) <|
 .seq (.reg [
 ⟨.faddr 0 (.fr 6), .tm, none⟩,
 ⟨.load1 (.tm 0), .tm, none⟩,
 ⟨.faddr 1 (.fr 6), .tm, none⟩,
 ⟨.load1 (.tm 0), .tm, none⟩,
 ⟨.build [(.int .u8 0), (.int .i64 0), (.int .i64 0), (.int .i64 0), (.int .i64 0), (.int .u64 0), (.int .u64 0), (.int .u64 0), (.int .u8 0), (.int .u8 0), (.int .u8 0), (.int .u8 0), (.int .u8 0), (.int .u8 0), (.int .u8 0), (.int .u8 0), (.int .u8 0), (.int .u8 0), (.int .u8 0), (.int .u8 0), (.int .u8 0), (.int .u8 0), (.int .u8 0), (.int .u8 0), (.int .u8 0), (.int .u8 0), (.int .u8 0), (.int .u8 0), (.int .u8 0), (.int .u8 0), (.int .u8 0), (.int .u8 0), (.int .u8 0), (.int .u8 0), (.int .u8 0), (.int .u8 0), (.int .u8 0), (.int .u8 0), (.int .u8 0), (.int .u8 0), (.int .u8 0), (.int .u8 0), (.int .u8 0), (.int .u8 0), (.int .u8 0), (.int .u8 0), (.int .u8 0), (.int .u8 0), (.int .u8 0), (.int .u8 0), (.int .u8 0), (.int .u8 0), (.int .u8 0), (.int .u8 0), (.int .u8 0), (.int .u8 0), (.int .u8 0), (.int .u8 0), (.int .u8 0), (.int .u8 0), (.int .u8 0), (.int .u8 0), (.int .u8 0), (.int .u8 0), (.int .u8 0), (.int .u8 0), (.int .u8 0), (.int .u8 0), (.int .u8 0), (.int .u8 0), (.int .u8 0), (.int .u8 0), (.int .u32 0), (.int .u64 0), (.int .u64 0), (.int .u64 0), (.int .u32 0), (.slice none 0 0)] [(0, 1, (.c (.int .u8 3))), (1, 1, (.tm 2)), (2, 1, (.tm 0))], .tm, none⟩,
 ⟨.storen 78 (.fr 3) (.tm 0), .no, none⟩,
 ⟨.mov (.c (.bool true)), .fr 4, none⟩,
 ⟨.mov (.c (.int .i64 0)), .fr 5, none⟩]) <|
 .ret⟩
def e19 : EF := ⟨2, [0, 1, 3, 4, 5, 6, 7, 10, 19, 39], [.t 3],
 .seq (.reg [
 ⟨.box 41 78 (.fr 1), .fr 2, none⟩,
 ⟨.mov (.c (.int .i64 0)), .fr 3, none⟩]) <|
 .seq (.block 0 (.seq (.reg [
 ⟨.mov (.fr 0), .tm, none⟩,
 ⟨.eqv 1 false (.tm 0) (.c (.pointer none)), .tm, none⟩,
 ⟨.mov (.tm 0), .fr 6, none⟩]) <|
 .cond (.fr 6)
 (.seq (.reg [
 ⟨.mov (.c (.int .i64 1)), .fr 3, none⟩]) <|
 .ret)
 (.seq (.reg [
 ⟨.loadn 78 (.fr 2), .tm, none⟩,
 ⟨.callf 35 [(.tm 0)], .tm, none⟩,
 ⟨.un .not (.tm 0), .tm, none⟩,
 ⟨.mov (.tm 0), .tm, none⟩,
 ⟨.faddr 0 (.fr 2), .tm, some ((.tm 0), false)⟩,
 ⟨.load1 (.tm 0), .tm, some ((.tm 1), false)⟩,
 ⟨.bin .lss (.tm 0) (.c (.int .u8 3)), .tm, some ((.tm 2), false)⟩,
 ⟨.pick (.tm 3) (.c (.bool true)) (.tm 0), .tm, none⟩,
 ⟨.mov (.tm 0), .fr 7, none⟩]) <|
 .cond (.fr 7)
 (.seq (.reg [
 ⟨.mov (.c (.int .i64 2)), .fr 3, none⟩]) <|
 .ret)
 (.seq (.reg [
 ⟨.faddr 0 (.fr 2), .tm, none⟩,
 ⟨.load1 (.tm 0), .tm, none⟩,
 ⟨.bin .eql (.tm 0) (.c (.int .u8 4)), .tm, none⟩,
 ⟨.mov (.tm 0), .fr 8, none⟩]) <|
 .cond (.fr 8)
 (.seq (.reg [
 ⟨.mov (.fr 0), .tm, none⟩,
 ⟨.nilck (.tm 0), .tm, none⟩,
 ⟨.faddr 1 (.tm 0), .tm, none⟩,
 ⟨.store1 (.tm 0) (.c (.int .i64 0)), .no, none⟩]) <|
 .seq (.reg [
 ⟨.mov (.c (.int .i64 0)), .fr 3, none⟩]) <|
 .ret)
 (.skip))))) <|
 .seq (.reg [
 ⟨.mov (.fr 0), .tm, none⟩,
 ⟨.nilck (.tm 0), .tm, none⟩,
 ⟨.faddr 0 (.tm 0), .tm, none⟩,
 ⟨.load1 (.tm 0), .tm, none⟩,
 ⟨.faddr 1 (.fr 2), .tm, none⟩,
 ⟨.load1 (.tm 0), .tm, none⟩,
 ⟨.faddr 2 (.fr 2), .tm, none⟩,
 ⟨.load1 (.tm 0), .tm, none⟩,
 ⟨.build [(.int .i64 0), (.int .i64 0), (.int .u64 0), (.int .u64 0), (.int .u64 0), (.int .u8 0), (.int .u8 0), (.int .u8 0), (.int .u8 0), (.int .u8 0), (.int .u8 0), (.int .u8 0), (.int .u8 0), (.int .u8 0), (.int .u8 0), (.int .u8 0), (.int .u8 0), (.int .u8 0), (.int .u8 0), (.int .u8 0), (.int .u8 0), (.int .u8 0), (.int .u8 0), (.int .u8 0), (.int .u8 0), (.int .u8 0), (.int .u8 0), (.int .u8 0), (.int .u8 0), (.int .u8 0), (.int .u8 0), (.int .u8 0), (.int .u8 0), (.int .u8 0), (.int .u8 0), (.int .u8 0), (.int .u8 0), (.int .u8 0), (.int .u8 0), (.int .u8 0), (.int .u8 0), (.int .u8 0), (.int .u8 0), (.int .u8 0), (.int .u8 0), (.int .u8 0), (.int .u8 0), (.int .u8 0), (.int .u8 0), (.int .u8 0), (.int .u8 0), (.int .u8 0), (.int .u8 0), (.int .u8 0), (.int .u8 0), (.int .u8 0), (.int .u8 0), (.int .u8 0), (.int .u8 0), (.int .u8 0), (.int .u8 0), (.int .u8 0), (.int .u8 0), (.int .u8 0), (.int .u8 0), (.int .u8 0), (.int .u8 0), (.int .u8 0), (.int .u8 0), (.int .u32 0)] [(0, 1, (.tm 2)), (1, 1, (.tm 0))], .tm, none⟩,
 ⟨.callf 36 [(.tm 5), (.tm 0), (.fn 34)], .tm, none⟩,
 ⟨.mov (.tm 0), .tm, none⟩,
 ⟨.extract (.tm 0) 0, .tm, none⟩,
 ⟨.extract (.tm 1) 1, .tm, none⟩,
 ⟨.mov (.tm 1), .fr 4, none⟩,
 ⟨.mov (.tm 0), .fr 5, none⟩]) <|
 .seq (.seq (.reg [
 ⟨.mov (.fr 5), .fr 9, none⟩]) <|
 .cond (.fr 9)
 (.reg [
 ⟨.mov (.fr 0), .tm, none⟩,
 ⟨.mov (.fr 0), .tm, none⟩,
 ⟨.nilck (.tm 0), .tm, none⟩,
 ⟨.faddr 1 (.tm 0), .tm, none⟩,
 ⟨.load1 (.tm 0), .tm, none⟩,
 ⟨.mov (.fr 4), .tm, none⟩,
 ⟨.bin .add (.tm 0) (.c (.int .i64 1)), .tm, none⟩,
 ⟨.mm true (.tm 2) (.tm 0), .tm, none⟩,
 ⟨.nilck (.tm 7), .tm, none⟩,
 ⟨.faddr 1 (.tm 0), .tm, none⟩,
 ⟨.store1 (.tm 0) (.tm 2), .no, none⟩])
 (.skip)) <|
 .seq (.reg [
 ⟨.mov (.c (.int .i64 0)), .fr 3, none⟩]) <|
 .ret⟩
def e20 : EF := ⟨1, [0, 2, 3, 12], [.cn 70 1, .t 2],
 .seq (.reg [
 ⟨.new 54 70 [(.int .i64 0), (.int .i64 0), (.int .u64 0), (.int .u64 0), (.int .u64 0), (.int .u8 0), (.int .u8 0), (.int .u8 0), (.int .u8 0), (.int .u8 0), (.int .u8 0), (.int .u8 0), (.int .u8 0), (.int .u8 0), (.int .u8 0), (.int .u8 0), (.int .u8 0), (.int .u8 0), (.int .u8 0), (.int .u8 0), (.int .u8 0), (.int .u8 0), (.int .u8 0), (.int .u8 0), (.int .u8 0), (.int .u8 0), (.int .u8 0), (.int .u8 0), (.int .u8 0), (.int .u8 0), (.int .u8 0), (.int .u8 0), (.int .u8 0), (.int .u8 0), (.int .u8 0), (.int .u8 0), (.int .u8 0), (.int .u8 0), (.int .u8 0), (.int .u8 0), (.int .u8 0), (.int .u8 0), (.int .u8 0), (.int .u8 0), (.int .u8 0), (.int .u8 0), (.int .u8 0), (.int .u8 0), (.int .u8 0), (.int .u8 0), (.int .u8 0), (.int .u8 0), (.int .u8 0), (.int .u8 0), (.int .u8 0), (.int .u8 0), (.int .u8 0), (.int .u8 0), (.int .u8 0), (.int .u8 0), (.int .u8 0), (.int .u8 0), (.int .u8 0), (.int .u8 0), (.int .u8 0), (.int .u8 0), (.int .u8 0), (.int .u8 0), (.int .u8 0), (.int .u32 0)], .fr 1, none⟩,
 ⟨.mov (.c (.bool false)), .fr 2, none⟩]) <|
 .seq (.seq (.reg [
 ⟨.mov (.fr 0), .tm, none⟩,
 ⟨.eqv 1 false (.tm 0) (.c (.pointer none)), .tm, none⟩,
 ⟨.mov (.tm 0), .tm, none⟩,
 ⟨.mov (.fr 0), .tm, some ((.tm 0), false)⟩,
 ⟨.nilck (.tm 0), .tm, some ((.tm 1), false)⟩,
 ⟨.faddr 0 (.tm 0), .tm, some ((.tm 2), false)⟩,
 ⟨.load1 (.tm 0), .tm, some ((.tm 3), false)⟩,
 ⟨.eqv 1 false (.tm 0) (.c (.pointer none)), .tm, some ((.tm 4), false)⟩,
 ⟨.pick (.tm 5) (.c (.bool true)) (.tm 0), .fr 3, none⟩]) <|
 .cond (.fr 3)
 (.seq (.reg [
 ⟨.build [(.int .i64 0), (.int .i64 0), (.int .u64 0), (.int .u64 0), (.int .u64 0), (.int .u8 0), (.int .u8 0), (.int .u8 0), (.int .u8 0), (.int .u8 0), (.int .u8 0), (.int .u8 0), (.int .u8 0), (.int .u8 0), (.int .u8 0), (.int .u8 0), (.int .u8 0), (.int .u8 0), (.int .u8 0), (.int .u8 0), (.int .u8 0), (.int .u8 0), (.int .u8 0), (.int .u8 0), (.int .u8 0), (.int .u8 0), (.int .u8 0), (.int .u8 0), (.int .u8 0), (.int .u8 0), (.int .u8 0), (.int .u8 0), (.int .u8 0), (.int .u8 0), (.int .u8 0), (.int .u8 0), (.int .u8 0), (.int .u8 0), (.int .u8 0), (.int .u8 0), (.int .u8 0), (.int .u8 0), (.int .u8 0), (.int .u8 0), (.int .u8 0), (.int .u8 0), (.int .u8 0), (.int .u8 0), (.int .u8 0), (.int .u8 0), (.int .u8 0), (.int .u8 0), (.int .u8 0), (.int .u8 0), (.int .u8 0), (.int .u8 0), (.int .u8 0), (.int .u8 0), (.int .u8 0), (.int .u8 0), (.int .u8 0), (.int .u8 0), (.int .u8 0), (.int .u8 0), (.int .u8 0), (.int .u8 0), (.int .u8 0), (.int .u8 0), (.int .u8 0), (.int .u32 0)] [], .tm, none⟩,
 ⟨.storen 70 (.fr 1) (.tm 0), .no, none⟩,
 ⟨.mov (.c (.bool false)), .fr 2, none⟩]) <|
 .ret)
 (.skip)) <|
 .seq (.reg [
 ⟨.mov (.fr 0), .tm, none⟩,
 ⟨.nilck (.tm 0), .tm, none⟩,
 ⟨.faddr 0 (.tm 0), .tm, none⟩,
 ⟨.load1 (.tm 0), .tm, none⟩,
 ⟨.nilck (.tm 0), .tm, none⟩,
 ⟨.loadn 70 (.tm 0), .tm, none⟩,
 ⟨.storen 70 (.fr 1) (.tm 0), .no, none⟩,
 ⟨.mov (.c (.bool true)), .fr 2, none⟩]) <|
 .ret⟩
def e29 : EF := ⟨1, [0, 2, 3, 12], [.cn 70 1, .t 2],
 .seq (.reg [
 ⟨.new 54 70 [(.int .i64 0), (.int .i64 0), (.int .u64 0), (.int .u64 0), (.int .u64 0), (.int .u8 0), (.int .u8 0), (.int .u8 0), (.int .u8 0), (.int .u8 0), (.int .u8 0), (.int .u8 0), (.int .u8 0), (.int .u8 0), (.int .u8 0), (.int .u8 0), (.int .u8 0), (.int .u8 0), (.int .u8 0), (.int .u8 0), (.int .u8 0), (.int .u8 0), (.int .u8 0), (.int .u8 0), (.int .u8 0), (.int .u8 0), (.int .u8 0), (.int .u8 0), (.int .u8 0), (.int .u8 0), (.int .u8 0), (.int .u8 0), (.int .u8 0), (.int .u8 0), (.int .u8 0), (.int .u8 0), (.int .u8 0), (.int .u8 0), (.int .u8 0), (.int .u8 0), (.int .u8 0), (.int .u8 0), (.int .u8 0), (.int .u8 0), (.int .u8 0), (.int .u8 0), (.int .u8 0), (.int .u8 0), (.int .u8 0), (.int .u8 0), (.int .u8 0), (.int .u8 0), (.int .u8 0), (.int .u8 0), (.int .u8 0), (.int .u8 0), (.int .u8 0), (.int .u8 0), (.int .u8 0), (.int .u8 0), (.int .u8 0), (.int .u8 0), (.int .u8 0), (.int .u8 0), (.int .u8 0), (.int .u8 0), (.int .u8 0), (.int .u8 0), (.int .u8 0), (.int .u32 0)], .fr 1, none⟩,
 ⟨.mov (.c (.bool false)), .fr 2, none⟩]) <|
 .seq (.seq (.reg [
 ⟨.mov (.fr 0), .tm, none⟩,
 ⟨.eqv 1 false (.tm 0) (.c (.pointer none)), .tm, none⟩,
 ⟨.mov (.tm 0), .tm, none⟩,
 ⟨.mov (.fr 0), .tm, some ((.tm 0), false)⟩,
 ⟨.nilck (.tm 0), .tm, some ((.tm 1), false)⟩,
 ⟨.faddr 1 (.tm 0), .tm, some ((.tm 2), false)⟩,
 ⟨.load1 (.tm 0), .tm, some ((.tm 3), false)⟩,
 ⟨.bin .eql (.tm 0) (.c (.int .i64 0)), .tm, some ((.tm 4), false)⟩,
 ⟨.pick (.tm 5) (.c (.bool true)) (.tm 0), .fr 3, none⟩]) <|
 .cond (.fr 3)
 (.seq (.reg [
 ⟨.build [(.int .i64 0), (.int .i64 0), (.int .u64 0), (.int .u64 0), (.int .u64 0), (.int .u8 0), (.int .u8 0), (.int .u8 0), (.int .u8 0), (.int .u8 0), (.int .u8 0), (.int .u8 0), (.int .u8 0), (.int .u8 0), (.int .u8 0), (.int .u8 0), (.int .u8 0), (.int .u8 0), (.int .u8 0), (.int .u8 0), (.int .u8 0), (.int .u8 0), (.int .u8 0), (.int .u8 0), (.int .u8 0), (.int .u8 0), (.int .u8 0), (.int .u8 0), (.int .u8 0), (.int .u8 0), (.int .u8 0), (.int .u8 0), (.int .u8 0), (.int .u8 0), (.int .u8 0), (.int .u8 0), (.int .u8 0), (.int .u8 0), (.int .u8 0), (.int .u8 0), (.int .u8 0), (.int .u8 0), (.int .u8 0), (.int .u8 0), (.int .u8 0), (.int .u8 0), (.int .u8 0), (.int .u8 0), (.int .u8 0), (.int .u8 0), (.int .u8 0), (.int .u8 0), (.int .u8 0), (.int .u8 0), (.int .u8 0), (.int .u8 0), (.int .u8 0), (.int .u8 0), (.int .u8 0), (.int .u8 0), (.int .u8 0), (.int .u8 0), (.int .u8 0), (.int .u8 0), (.int .u8 0), (.int .u8 0), (.int .u8 0), (.int .u8 0), (.int .u8 0), (.int .u32 0)] [], .tm, none⟩,
 ⟨.storen 70 (.fr 1) (.tm 0), .no, none⟩,
 ⟨.mov (.c (.bool false)), .fr 2, none⟩]) <|
 .ret)
 (.skip)) <|
 .seq (.reg [
 ⟨.mov (.fr 0), .tm, none⟩,
 ⟨.nilck (.tm 0), .tm, none⟩,
 ⟨.faddr 0 (.tm 0), .tm, none⟩,
 ⟨.load1 (.tm 0), .tm, none⟩,
 ⟨.mov (.fr 0), .tm, none⟩,
 ⟨.nilck (.tm 0), .tm, none⟩,
 ⟨.faddr 1 (.tm 0), .tm, none⟩,
 ⟨.load1 (.tm 0), .tm, none⟩,
 ⟨.bin .sub (.tm 0) (.c (.int .i64 1)), .tm, none⟩,
 ⟨.iaddr 70 (.tm 5) (.tm 0), .tm, none⟩,
 ⟨.loadn 70 (.tm 0), .tm, none⟩,
 ⟨.storen 70 (.fr 1) (.tm 0), .no, none⟩,
 ⟨.mov (.c (.bool true)), .fr 2, none⟩]) <|
 .ret⟩
def e31 : EF := ⟨1, [0, 1, 2, 3, 5, 7, 8, 9, 10, 21], [.t 2],
 .seq (.reg [
 ⟨.box 29 5 (.fr 0), .fr 1, none⟩,
 ⟨.mov (.c (.bool false)), .fr 2, none⟩]) <|
 .seq (.reg [
 ⟨.mov (.c (.int .i64 (-1))), .fr 3, none⟩]) <|
 .seq (.seq (.reg [
 ⟨.faddr 4 (.fr 1), .tm, none⟩,
 ⟨.load1 (.tm 0), .fr 5, none⟩,
 ⟨.len false (.fr 5), .fr 6, none⟩,
 ⟨.mov (.c (.int .i64 0)), .fr 7, none⟩]) <|
 .block 0 (.loop (.seq (.reg [
 ⟨.bin .lss (.fr 7) (.fr 6), .fr 8, none⟩]) <|
 .seq (.cond (.fr 8)
 (.skip)
 (.exit 0)) <|
 .seq (.block 1 (.seq (.reg [
 ⟨.iaddr 2 (.fr 5) (.fr 7), .tm, none⟩,
 ⟨.loadn 2 (.tm 0), .tm, none⟩,
 ⟨.new 90 2 [(.int .i64 0), (.int .u8 0)], .fr 4, none⟩,
 ⟨.storen 2 (.fr 4) (.tm 0), .no, none⟩]) <|
 .seq (.seq (.reg [
 ⟨.faddr 0 (.fr 4), .tm, none⟩,
 ⟨.load1 (.tm 0), .tm, none⟩,
 ⟨.mov (.fr 3), .tm, none⟩,
 ⟨.bin .leq (.tm 1) (.tm 0), .tm, none⟩,
 ⟨.mov (.tm 0), .tm, none⟩,
 ⟨.faddr 0 (.fr 4), .tm, some ((.tm 0), false)⟩,
 ⟨.load1 (.tm 0), .tm, some ((.tm 1), false)⟩,
 ⟨.bin .geq (.tm 0) (.c (.int .i64 64)), .tm, some ((.tm 2), false)⟩,
 ⟨.pick (.tm 3) (.c (.bool true)) (.tm 0), .fr 9, none⟩]) <|
 .cond (.fr 9)
 (.seq (.reg [
 ⟨.mov (.c (.bool false)), .fr 2, none⟩]) <|
 .ret)
 (.skip)) <|
 .reg [
 ⟨.faddr 0 (.fr 4), .tm, none⟩,
 ⟨.load1 (.tm 0), .tm, none⟩,
 ⟨.mov (.tm 0), .fr 3, none⟩])) <|
 .reg [
 ⟨.bin .add (.fr 7) (.c (.int .i64 1)), .tm, none⟩,
 ⟨.mov (.tm 0), .fr 7, none⟩]))) <|
 .seq (.reg [
 ⟨.mov (.c (.bool true)), .fr 2, none⟩]) <|
 .ret⟩
def e33 : EF := ⟨1, [0, 2], [.t 1],
 .seq (.reg [
 ⟨.mov (.c (.bool false)), .fr 1, none⟩]) <|
 .seq (.reg [
 ⟨.mov (.fr 0), .tm, none⟩,
 ⟨.callf 64 [(.tm 0)], .tm, none⟩,
 ⟨.bin .geq (.tm 0) (.c (.int .i64 0)), .tm, none⟩,
 ⟨.mov (.tm 0), .tm, none⟩,
 ⟨.mov (.fr 0), .tm, some ((.tm 0), true)⟩,
 ⟨.callf 65 [(.tm 0)], .tm, some ((.tm 1), true)⟩,
 ⟨.bin .leq (.tm 0) (.c (.int .i64 1099511627776)), .tm, some ((.tm 2), true)⟩,
 ⟨.pick (.tm 3) (.tm 0) (.c (.bool false)), .tm, none⟩,
 ⟨.mov (.tm 0), .fr 1, none⟩]) <|
 .ret⟩
def e34 : EF := ⟨2, [0, 1, 2, 3, 4], [.t 4],
 .seq (.reg [
 ⟨.box 54 70 (.fr 0), .fr 2, none⟩,
 ⟨.box 54 70 (.fr 1), .fr 3, none⟩,
 ⟨.mov (.c (.int .i64 0)), .fr 4, none⟩]) <|
 .seq (.dreg [
 (⟨.faddr 0 (.fr 2), .tm, none⟩, []),
 (⟨.load1 (.tm 0), .tm, none⟩, []),
 (⟨.faddr 0 (.fr 3), .tm, none⟩, []),
 (⟨.load1 (.tm 0), .tm, none⟩, []),
 (⟨.callf 67 [(.tm 2), (.tm 0)], .tm, none⟩, []),
 (⟨.faddr 1 (.fr 2), .tm, none⟩, []),
 (⟨.load1 (.tm 0), .tm, none⟩, [4]),
 (⟨.faddr 1 (.fr 3), .tm, none⟩, []),
 (⟨.load1 (.tm 0), .tm, none⟩, [4]),
 (⟨.callf 67 [(.tm 2), (.tm 0)], .tm, none⟩, []),
 (⟨.bslice 3 1 2 [(.int .i64 0), (.int .i64 0)] [(0, 1, (.tm 5)), (1, 1, (.tm 0))], .tm, none⟩, []),
 (⟨.callf 66 [(.tm 0)], .tm, none⟩, []),
 (⟨.mov (.tm 0), .fr 4, none⟩, [])]) <|
 .ret⟩
def e35 : EF := ⟨1, [0, 1, 2], [.t 2],
 .seq (.reg [
 ⟨.box 41 78 (.fr 0), .fr 1, none⟩,
 ⟨.mov (.c (.bool false)), .fr 2, none⟩]) <|
 .seq (.reg [
 ⟨.faddr 0 (.fr 1), .tm, none⟩,
 ⟨.load1 (.tm 0), .tm, none⟩,
 ⟨.bin .geq (.tm 0) (.c (.int .u8 1)), .tm, none⟩,
 ⟨.mov (.tm 0), .tm, none⟩,
 ⟨.faddr 0 (.fr 1), .tm, some ((.tm 0), true)⟩,
 ⟨.load1 (.tm 0), .tm, some ((.tm 1), true)⟩,
 ⟨.bin .leq (.tm 0) (.c (.int .u8 4)), .tm, some ((.tm 2), true)⟩,
 ⟨.pick (.tm 3) (.tm 0) (.c (.bool false)), .tm, none⟩,
 ⟨.mov (.tm 0), .tm, none⟩,
 ⟨.faddr 1 (.fr 1), .tm, some ((.tm 0), true)⟩,
 ⟨.load1 (.tm 0), .tm, some ((.tm 1), true)⟩,
 ⟨.faddr 2 (.fr 1), .tm, some ((.tm 2), true)⟩,
 ⟨.load1 (.tm 0), .tm, some ((.tm 3), true)⟩,
 ⟨.faddr 3 (.fr 1), .tm, some ((.tm 4), true)⟩,
 ⟨.load1 (.tm 0), .tm, some ((.tm 5), true)⟩,
 ⟨.faddr 4 (.fr 1), .tm, some ((.tm 6), true)⟩,
 ⟨.load1 (.tm 0), .tm, some ((.tm 7), true)⟩,
 ⟨.bslice 2 1 4 [(.int .i64 0), (.int .i64 0), (.int .i64 0), (.int .i64 0)] [(0, 1, (.tm 6)), (1, 1, (.tm 4)), (2, 1, (.tm 2)), (3, 1, (.tm 0))], .tm, some ((.tm 8), true)⟩,
 ⟨.callf 33 [(.tm 0)], .tm, some ((.tm 9), true)⟩,
 ⟨.pick (.tm 10) (.tm 0) (.c (.bool false)), .tm, none⟩,
 ⟨.mov (.tm 0), .tm, none⟩,
 ⟨.faddr 73 (.fr 1), .tm, some ((.tm 0), true)⟩,
 ⟨.loadn 5 (.tm 0), .tm, some ((.tm 1), true)⟩,
 ⟨.callf 31 [(.tm 0)], .tm, some ((.tm 2), true)⟩,
 ⟨.pick (.tm 3) (.tm 0) (.c (.bool false)), .tm, none⟩,
 ⟨.mov (.tm 0), .fr 2, none⟩]) <|
 .ret⟩
def e36 : EF := ⟨3, [0, 1, 2, 4, 6, 7, 8, 9, 10, 11, 17, 31], [.t 4, .t 5],
 .seq (.reg [
 ⟨.box 54 70 (.fr 1), .fr 3, none⟩,
 ⟨.mov (.c (.int .i64 0)), .fr 4, none⟩,
 ⟨.mov (.c (.bool false)), .fr 5, none⟩]) <|
 .seq (.reg [
 ⟨.mov (.fr 0), .tm, none⟩,
 ⟨.len false (.tm 0), .tm, none⟩,
 ⟨.mov (.tm 0), .fr 6, none⟩]) <|
 .seq (.reg [
 ⟨.mov (.fr 6), .tm, none⟩,
 ⟨.mov (.c (.int .i64 0)), .fr 7, none⟩,
 ⟨.mov (.tm 0), .fr 8, none⟩]) <|
 .seq (.block 0 (.loop (.seq (.seq (.reg [
 ⟨.mov (.fr 7), .tm, none⟩,
 ⟨.mov (.fr 8), .tm, none⟩,
 ⟨.bin .lss (.tm 1) (.tm 0), .fr 10, none⟩]) <|
 .cond (.fr 10)
 (.skip)
 (.exit 0)) <|
 .block 1 (.seq (.reg [
 ⟨.mov (.fr 7), .tm, none⟩,
 ⟨.mov (.fr 8), .tm, none⟩,
 ⟨.bin .add (.tm 1) (.tm 0), .tm, none⟩,
 ⟨.i2i .u64 (.tm 0), .tm, none⟩,
 ⟨.bin .shr (.tm 0) (.c (.int .u64 1)), .tm, none⟩,
 ⟨.i2i .i64 (.tm 0), .tm, none⟩,
 ⟨.mov (.tm 0), .fr 9, none⟩]) <|
 .seq (.reg [
 ⟨.mov (.fr 2), .tm, none⟩,
 ⟨.mov (.fr 0), .tm, none⟩,
 ⟨.mov (.fr 9), .tm, none⟩,
 ⟨.iaddr 70 (.tm 1) (.tm 0), .tm, none⟩,
 ⟨.loadn 70 (.tm 0), .tm, none⟩,
 ⟨.loadn 70 (.fr 3), .tm, none⟩,
 ⟨.callv (.tm 5) [(.tm 1), (.tm 0)], .tm, none⟩,
 ⟨.bin .lss (.tm 0) (.c (.int .i64 0)), .fr 11, none⟩]) <|
 .cond (.fr 11)
 (.reg [
 ⟨.mov (.fr 9), .tm, none⟩,
 ⟨.bin .add (.tm 0) (.c (.int .i64 1)), .tm, none⟩,
 ⟨.mov (.tm 0), .fr 7, none⟩])
 (.reg [
 ⟨.mov (.fr 9), .tm, none⟩,
 ⟨.mov (.tm 0), .fr 8, none⟩]))))) <|
 .seq (.reg [
 ⟨.mov (.fr 7), .tm, none⟩,
 ⟨.mov (.fr 7), .tm, none⟩,
 ⟨.mov (.fr 6), .tm, none⟩,
 ⟨.bin .lss (.tm 1) (.tm 0), .tm, none⟩,
 ⟨.mov (.tm 0), .tm, none⟩,
 ⟨.mov (.fr 2), .tm, some ((.tm 0), true)⟩,
 ⟨.mov (.fr 0), .tm, some ((.tm 1), true)⟩,
 ⟨.mov (.fr 7), .tm, some ((.tm 2), true)⟩,
 ⟨.iaddr 70 (.tm 1) (.tm 0), .tm, some ((.tm 3), true)⟩,
 ⟨.loadn 70 (.tm 0), .tm, some ((.tm 4), true)⟩,
 ⟨.loadn 70 (.fr 3), .tm, some ((.tm 5), true)⟩,
 ⟨.callv (.tm 5) [(.tm 1), (.tm 0)], .tm, some ((.tm 6), true)⟩,
 ⟨.bin .eql (.tm 0) (.c (.int .i64 0)), .tm, some ((.tm 7), true)⟩,
 ⟨.pick (.tm 8) (.tm 0) (.c (.bool false)), .tm, none⟩,
 ⟨.mov (.tm 13), .fr 4, none⟩,
 ⟨.mov (.tm 0), .fr 5, none⟩]) <|
 .ret⟩
def e64 : EF := ⟨1, [0, 2, 3, 4, 7, 15], [.t 1],
 .seq (.reg [
 ⟨.mov (.c (.int .i64 0)), .fr 1, none⟩]) <|
 .seq (.seq (.reg [
 ⟨.mov (.fr 0), .tm, none⟩,
 ⟨.len false (.tm 0), .tm, none⟩,
 ⟨.bin .lss (.tm 0) (.c (.int .i64 1)), .fr 4, none⟩]) <|
 .cond (.fr 4)
 (.reg [
 ⟨.iface 9 (.c (.string ⟨#[115, 108, 105, 99, 101, 115, 46, 77, 105, 110, 58, 32, 101, 109, 112, 116, 121, 32, 108, 105, 115, 116]⟩)), .tm, none⟩,
 ⟨.bad, .no, none⟩])
 (.skip)) <|
 .seq (.reg [
 ⟨.mov (.fr 0), .tm, none⟩,
 ⟨.iaddr 1 (.tm 0) (.c (.int .i64 0)), .tm, none⟩,
 ⟨.load1 (.tm 0), .tm, none⟩,
 ⟨.mov (.tm 0), .fr 2, none⟩]) <|
 .seq (.seq (.reg [
 ⟨.mov (.c (.int .i64 1)), .fr 3, none⟩]) <|
 .block 0 (.loop (.seq (.seq (.reg [
 ⟨.mov (.fr 3), .tm, none⟩,
 ⟨.mov (.fr 0), .tm, none⟩,
 ⟨.len false (.tm 0), .tm, none⟩,
 ⟨.bin .lss (.tm 2) (.tm 0), .fr 5, none⟩]) <|
 .cond (.fr 5)
 (.skip)
 (.exit 0)) <|
 .seq (.block 1 (.reg [
 ⟨.mov (.fr 2), .tm, none⟩,
 ⟨.mov (.fr 0), .tm, none⟩,
 ⟨.mov (.fr 3), .tm, none⟩,
 ⟨.iaddr 1 (.tm 1) (.tm 0), .tm, none⟩,
 ⟨.load1 (.tm 0), .tm, none⟩,
 ⟨.mm false (.tm 4) (.tm 0), .tm, none⟩,
 ⟨.mov (.tm 0), .fr 2, none⟩])) <|
 .reg [
 ⟨.mov (.fr 3), .tm, none⟩,
 ⟨.bin .add (.tm 0) (.c (.int .i64 1)), .tm, none⟩,
 ⟨.mov (.tm 0), .fr 3, none⟩]))) <|
 .seq (.reg [
 ⟨.mov (.fr 2), .tm, none⟩,
 ⟨.mov (.tm 0), .fr 1, none⟩]) <|
 .ret⟩
def e65 : EF := ⟨1, [0, 2, 3, 4, 7, 15], [.t 1],
 .seq (.reg [
 ⟨.mov (.c (.int .i64 0)), .fr 1, none⟩]) <|
 .seq (.seq (.reg [
 ⟨.mov (.fr 0), .tm, none⟩,
 ⟨.len false (.tm 0), .tm, none⟩,
 ⟨.bin .lss (.tm 0) (.c (.int .i64 1)), .fr 4, none⟩]) <|
 .cond (.fr 4)
 (.reg [
 ⟨.iface 9 (.c (.string ⟨#[115, 108, 105, 99, 101, 115, 46, 77, 97, 120, 58, 32, 101, 109, 112, 116, 121, 32, 108, 105, 115, 116]⟩)), .tm, none⟩,
 ⟨.bad, .no, none⟩])
 (.skip)) <|
 .seq (.reg [
 ⟨.mov (.fr 0), .tm, none⟩,
 ⟨.iaddr 1 (.tm 0) (.c (.int .i64 0)), .tm, none⟩,
 ⟨.load1 (.tm 0), .tm, none⟩,
 ⟨.mov (.tm 0), .fr 2, none⟩]) <|
 .seq (.seq (.reg [
 ⟨.mov (.c (.int .i64 1)), .fr 3, none⟩]) <|
 .block 0 (.loop (.seq (.seq (.reg [
 ⟨.mov (.fr 3), .tm, none⟩,
 ⟨.mov (.fr 0), .tm, none⟩,
 ⟨.len false (.tm 0), .tm, none⟩,
 ⟨.bin .lss (.tm 2) (.tm 0), .fr 5, none⟩]) <|
 .cond (.fr 5)
 (.skip)
 (.exit 0)) <|
 .seq (.block 1 (.reg [
 ⟨.mov (.fr 2), .tm, none⟩,
 ⟨.mov (.fr 0), .tm, none⟩,
 ⟨.mov (.fr 3), .tm, none⟩,
 ⟨.iaddr 1 (.tm 1) (.tm 0), .tm, none⟩,
 ⟨.load1 (.tm 0), .tm, none⟩,
 ⟨.mm true (.tm 4) (.tm 0), .tm, none⟩,
 ⟨.mov (.tm 0), .fr 2, none⟩])) <|
 .reg [
 ⟨.mov (.fr 3), .tm, none⟩,
 ⟨.bin .add (.tm 0) (.c (.int .i64 1)), .tm, none⟩,
 ⟨.mov (.tm 0), .fr 3, none⟩]))) <|
 .seq (.reg [
 ⟨.mov (.fr 2), .tm, none⟩,
 ⟨.mov (.tm 0), .fr 1, none⟩]) <|
 .ret⟩
def e66 : EF := ⟨1, [0, 2, 3, 5, 6, 7, 8, 9, 14], [.t 1],
 .seq (.reg [
 ⟨.mov (.c (.int .i64 0)), .fr 1, none⟩]) <|
 .seq (.reg [
 ⟨.mov (.c (.int .i64 0)), .fr 2, none⟩]) <|
 .seq (.seq (.reg [
 ⟨.mov (.fr 0), .fr 4, none⟩,
 ⟨.len false (.fr 4), .fr 5, none⟩,
 ⟨.mov (.c (.int .i64 0)), .fr 6, none⟩]) <|
 .block 0 (.loop (.seq (.reg [
 ⟨.bin .lss (.fr 6) (.fr 5), .fr 7, none⟩]) <|
 .seq (.cond (.fr 7)
 (.skip)
 (.exit 0)) <|
 .seq (.block 1 (.seq (.reg [
 ⟨.iaddr 1 (.fr 4) (.fr 6), .tm, none⟩,
 ⟨.load1 (.tm 0), .tm, none⟩,
 ⟨.mov (.tm 0), .fr 3, none⟩]) <|
 .seq (.reg [
 ⟨.mov (.fr 3), .tm, none⟩,
 ⟨.mov (.fr 2), .tm, none⟩,
 ⟨.bin .neq (.tm 1) (.tm 0), .fr 8, none⟩]) <|
 .cond (.fr 8)
 (.seq (.reg [
 ⟨.mov (.fr 3), .tm, none⟩,
 ⟨.mov (.tm 0), .fr 1, none⟩]) <|
 .ret)
 (.skip))) <|
 .reg [
 ⟨.bin .add (.fr 6) (.c (.int .i64 1)), .tm, none⟩,
 ⟨.mov (.tm 0), .fr 6, none⟩]))) <|
 .seq (.reg [
 ⟨.mov (.fr 2), .tm, none⟩,
 ⟨.mov (.tm 0), .fr 1, none⟩]) <|
 .ret⟩
def e67 : EF := ⟨2, [0, 1, 4, 5, 6, 11, 12, 13, 16, 19], [.t 2],
 .seq (.reg [
 ⟨.mov (.c (.int .i64 0)), .fr 2, none⟩]) <|
 .seq (.reg [
 ⟨.mov (.fr 0), .tm, none⟩,
 ⟨.callf 85 [(.tm 0)], .tm, none⟩,
 ⟨.mov (.tm 0), .fr 3, none⟩]) <|
 .seq (.reg [
 ⟨.mov (.fr 1), .tm, none⟩,
 ⟨.callf 85 [(.tm 0)], .tm, none⟩,
 ⟨.mov (.tm 0), .fr 4, none⟩]) <|
 .seq (.seq (.reg [
 ⟨.mov (.fr 3), .fr 5, none⟩]) <|
 .cond (.fr 5)
 (.seq (.seq (.reg [
 ⟨.mov (.fr 4), .fr 6, none⟩]) <|
 .cond (.fr 6)
 (.seq (.reg [
 ⟨.mov (.c (.int .i64 0)), .fr 2, none⟩]) <|
 .ret)
 (.skip)) <|
 .seq (.reg [
 ⟨.mov (.c (.int .i64 (-1))), .fr 2, none⟩]) <|
 .ret)
 (.skip)) <|
 .seq (.seq (.reg [
 ⟨.mov (.fr 4), .fr 7, none⟩]) <|
 .cond (.fr 7)
 (.seq (.reg [
 ⟨.mov (.c (.int .i64 1)), .fr 2, none⟩]) <|
 .ret)
 (.skip)) <|
 .seq (.seq (.reg [
 ⟨.mov (.fr 0), .tm, none⟩,
 ⟨.mov (.fr 1), .tm, none⟩,
 ⟨.bin .lss (.tm 1) (.tm 0), .fr 8, none⟩]) <|
 .cond (.fr 8)
 (.seq (.reg [
 ⟨.mov (.c (.int .i64 (-1))), .fr 2, none⟩]) <|
 .ret)
 (.skip)) <|
 .seq (.seq (.reg [
 ⟨.mov (.fr 0), .tm, none⟩,
 ⟨.mov (.fr 1), .tm, none⟩,
 ⟨.bin .gtr (.tm 1) (.tm 0), .fr 9, none⟩]) <|
 .cond (.fr 9)
 (.seq (.reg [
 ⟨.mov (.c (.int .i64 1)), .fr 2, none⟩]) <|
 .ret)
 (.skip)) <|
 .seq (.reg [
 ⟨.mov (.c (.int .i64 0)), .fr 2, none⟩]) <|
 .ret⟩
def e85 : EF := ⟨1, [0, 2], [.t 1],
 .seq (.reg [
 ⟨.mov (.c (.bool false)), .fr 1, none⟩]) <|
 .seq (.reg [
 ⟨.mov (.fr 0), .tm, none⟩,
 ⟨.mov (.fr 0), .tm, none⟩,
 ⟨.bin .neq (.tm 1) (.tm 0), .tm, none⟩,
 ⟨.mov (.tm 0), .fr 1, none⟩]) <|
 .ret⟩
theorem e8_ok : e8.ok Go.Proofs.Try.prog 0 8 := ok_of (by unfold EFok; kernel_rfl) (by kernel_rfl)
theorem e9_ok : e9.ok Go.Proofs.Try.prog 0 9 := ok_of (by unfold EFok; kernel_rfl) (by kernel_rfl)
theorem e10_ok : e10.ok Go.Proofs.Try.prog 0 10 := ok_of (by unfold EFok; kernel_rfl) (by kernel_rfl)
theorem e15_ok : e15.ok Go.Proofs.Try.prog 0 15 := ok_of (by unfold EFok; kernel_rfl) (by kernel_rfl)
theorem e16_ok : e16.ok Go.Proofs.Try.prog 0 16 := ok_of (by unfold EFok; kernel_rfl) (by kernel_rfl)
theorem e17_ok : e17.ok Go.Proofs.Try.prog 0 17 := ok_of (by unfold EFok; kernel_rfl) (by kernel_rfl)
theorem e19_ok : e19.ok Go.Proofs.Try.prog 0 19 := ok_of (by unfold EFok; kernel_rfl) (by kernel_rfl)
theorem e20_ok : e20.ok Go.Proofs.Try.prog 0 20 := ok_of (by unfold EFok; kernel_rfl) (by kernel_rfl)
theorem e29_ok : e29.ok Go.Proofs.Try.prog 0 29 := ok_of (by unfold EFok; kernel_rfl) (by kernel_rfl)
theorem e31_ok : e31.ok Go.Proofs.Try.prog 0 31 := ok_of (by unfold EFok; kernel_rfl) (by kernel_rfl)
theorem e33_ok : e33.ok Go.Proofs.Try.prog 0 33 := ok_of (by unfold EFok; kernel_rfl) (by kernel_rfl)
theorem e34_ok : e34.ok Go.Proofs.Try.prog 0 34 := ok_of (by unfold EFok; kernel_rfl) (by kernel_rfl)
theorem e35_ok : e35.ok Go.Proofs.Try.prog 0 35 := ok_of (by unfold EFok; kernel_rfl) (by kernel_rfl)
theorem e36_ok : e36.ok Go.Proofs.Try.prog 0 36 := ok_of (by unfold EFok; kernel_rfl) (by kernel_rfl)
theorem e64_ok : e64.ok Go.Proofs.Try.prog 0 64 := ok_of (by unfold EFok; kernel_rfl) (by kernel_rfl)
theorem e65_ok : e65.ok Go.Proofs.Try.prog 0 65 := ok_of (by unfold EFok; kernel_rfl) (by kernel_rfl)
theorem e66_ok : e66.ok Go.Proofs.Try.prog 0 66 := ok_of (by unfold EFok; kernel_rfl) (by kernel_rfl)
theorem e67_ok : e67.ok Go.Proofs.Try.prog 0 67 := ok_of (by unfold EFok; kernel_rfl) (by kernel_rfl)
theorem e85_ok : e85.ok Go.Proofs.Try.prog 0 85 := ok_of (by unfold EFok; kernel_rfl) (by kernel_rfl)
def tab : FT := (.node 31 e31 (.node 16 e16 (.node 10 e10 (.node 9 e9 (.node 8 e8 .leaf .leaf) .leaf) (.node 15 e15 .leaf .leaf)) (.node 20 e20 (.node 19 e19 (.node 17 e17 .leaf .leaf) .leaf) (.node 29 e29 .leaf .leaf))) (.node 64 e64 (.node 35 e35 (.node 34 e34 (.node 33 e33 .leaf .leaf) .leaf) (.node 36 e36 .leaf .leaf)) (.node 67 e67 (.node 66 e66 (.node 65 e65 .leaf .leaf) .leaf) (.node 85 e85 .leaf .leaf))))
theorem tab_ok : tab.ok Go.Proofs.Try.prog 0 := ⟨e31_ok, ⟨e16_ok, ⟨e10_ok, ⟨e9_ok, ⟨e8_ok, trivial, trivial⟩, trivial⟩, ⟨e15_ok, trivial, trivial⟩⟩, ⟨e20_ok, ⟨e19_ok, ⟨e17_ok, trivial, trivial⟩, trivial⟩, ⟨e29_ok, trivial, trivial⟩⟩⟩, ⟨e64_ok, ⟨e35_ok, ⟨e34_ok, ⟨e33_ok, trivial, trivial⟩, trivial⟩, ⟨e36_ok, trivial, trivial⟩⟩, ⟨e67_ok, ⟨e66_ok, ⟨e65_ok, trivial, trivial⟩, trivial⟩, ⟨e85_ok, trivial, trivial⟩⟩⟩⟩
end Go.AM.RpT

set_option linter.unusedSimpArgs false
set_option linter.unusedVariables false
namespace Go.AM.Rp
open Go.Proofs
theorem works_ev : runF RpT.tab 100000 8 [] 0 .leaf isTrue = true := by kernel_rfl
theorem works_any (H : AHeap) : ARun Try.prog 0 8 [] H (.bool true) H := closed_any RpT.tab_ok works_ev H
theorem z68 : Z68.all Value.oneCell' = true := rfl
theorem D5_one (x y z w : Nat) {v : Value} (h : v.oneCell' = true) : (D5 x y z w v).all Value.oneCell' = true := by simp [D5, one_int, h]
end Go.AM.Rp

set_option maxRecDepth 100000
namespace Go.AM.Rp
def O70 : List Nat := [1, 1, 1, 1, 1, 1, 1, 1, 1, 1, 1, 1, 1, 1, 1, 1, 1, 1, 1, 1, 1, 1, 1, 1, 1, 1, 1, 1, 1, 1, 1, 1, 1, 1, 1, 1, 1, 1, 1, 1, 1, 1, 1, 1, 1, 1, 1, 1, 1, 1, 1, 1, 1, 1, 1, 1, 1, 1, 1, 1, 1, 1, 1, 1, 1, 1, 1, 1, 1, 1]
def Z70 : List Value := [(.int .i64 0), (.int .i64 0), (.int .u64 0), (.int .u64 0), (.int .u64 0), (.int .u8 0), (.int .u8 0), (.int .u8 0), (.int .u8 0), (.int .u8 0), (.int .u8 0), (.int .u8 0), (.int .u8 0), (.int .u8 0), (.int .u8 0), (.int .u8 0), (.int .u8 0), (.int .u8 0), (.int .u8 0), (.int .u8 0), (.int .u8 0), (.int .u8 0), (.int .u8 0), (.int .u8 0), (.int .u8 0), (.int .u8 0), (.int .u8 0), (.int .u8 0), (.int .u8 0), (.int .u8 0), (.int .u8 0), (.int .u8 0), (.int .u8 0), (.int .u8 0), (.int .u8 0), (.int .u8 0), (.int .u8 0), (.int .u8 0), (.int .u8 0), (.int .u8 0), (.int .u8 0), (.int .u8 0), (.int .u8 0), (.int .u8 0), (.int .u8 0), (.int .u8 0), (.int .u8 0), (.int .u8 0), (.int .u8 0), (.int .u8 0), (.int .u8 0), (.int .u8 0), (.int .u8 0), (.int .u8 0), (.int .u8 0), (.int .u8 0), (.int .u8 0), (.int .u8 0), (.int .u8 0), (.int .u8 0), (.int .u8 0), (.int .u8 0), (.int .u8 0), (.int .u8 0), (.int .u8 0), (.int .u8 0), (.int .u8 0), (.int .u8 0), (.int .u8 0), (.int .u32 0)]
def Z71 : List Value := [(.int .i64 0), (.int .i64 0), (.int .u64 0), (.int .u64 0), (.int .u64 0), (.int .u8 0), (.int .u8 0), (.int .u8 0), (.int .u8 0), (.int .u8 0), (.int .u8 0), (.int .u8 0), (.int .u8 0), (.int .u8 0), (.int .u8 0), (.int .u8 0), (.int .u8 0), (.int .u8 0), (.int .u8 0), (.int .u8 0), (.int .u8 0), (.int .u8 0), (.int .u8 0), (.int .u8 0), (.int .u8 0), (.int .u8 0), (.int .u8 0), (.int .u8 0), (.int .u8 0), (.int .u8 0), (.int .u8 0), (.int .u8 0), (.int .u8 0), (.int .u8 0), (.int .u8 0), (.int .u8 0), (.int .u8 0), (.int .u8 0), (.int .u8 0), (.int .u8 0), (.int .u8 0), (.int .u8 0), (.int .u8 0), (.int .u8 0), (.int .u8 0), (.int .u8 0), (.int .u8 0), (.int .u8 0), (.int .u8 0), (.int .u8 0), (.int .u8 0), (.int .u8 0), (.int .u8 0), (.int .u8 0), (.int .u8 0), (.int .u8 0), (.int .u8 0), (.int .u8 0), (.int .u8 0), (.int .u8 0), (.int .u8 0), (.int .u8 0), (.int .u8 0), (.int .u8 0), (.int .u8 0), (.int .u8 0), (.int .u8 0), (.int .u8 0), (.int .u8 0), (.int .u32 0), (.bool false)]
def f4 : AFunc := ⟨[0, 2, 3, 4, 5, 6, 7, 8, 9, 10, 11, 12, 13, 14, 16, 17, 18, 19, 20, 21, 22, 23, 25, 26, 27, 30, 36, 50, 53, 60, 68, 82, 87, 98, 103, 108, 123, 130, 136, 141, 146, 156, 163, 172, 186, 192, 195, 203, 216],
 .seq (.reg [
 ⟨.mov (.c (.bool false)), .fr 1, none⟩]) <|
 .seq (.seq (.reg [
 ⟨.mov (.fr 0), .tm, none⟩,
 ⟨.len false (.tm 0), .tm, none⟩,
 ⟨.bin .gtr (.tm 0) (.c (.int .i64 300)), .fr 25, none⟩]) <|
 .cond (.fr 25)
 (.seq (.reg [
 ⟨.callf 8 [], .tm, none⟩,
 ⟨.mov (.tm 0), .fr 1, none⟩]) <|
 .ret)
 (.skip)) <|
 .seq (.reg [
 ⟨.new 48 2 [(.slice none 0 0), (.int .i64 0)], .fr 2, none⟩]) <|
 .seq (.reg [
 ⟨.new 51 1 [(.pointer none)], .fr 3, none⟩]) <|
 .seq (.reg [
 ⟨.mov (.c (.slice none 0 0)), .fr 4, none⟩]) <|
 .seq (.reg [
 ⟨.mov (.c (.slice none 0 0)), .fr 5, none⟩,
 ⟨.mov (.c (.slice none 0 0)), .fr 6, none⟩]) <|
 .seq (.reg [
 ⟨.build Z70 [(0, 1, (.c (.int .i64 1)))], .tm, none⟩,
 ⟨.new 54 70 Z70, .fr 7, none⟩,
 ⟨.storen 70 (.fr 7) (.tm 0), .no, none⟩]) <|
 .seq (.reg [
 ⟨.mov (.c (.int .i64 (-1))), .fr 8, none⟩]) <|
 .seq (.seq (.reg [
 ⟨.mov (.c (.int .i64 0)), .fr 9, none⟩]) <|
 .block 0 (.loop (.seq (.seq (.reg [
 ⟨.mov (.fr 9), .tm, none⟩,
 ⟨.mov (.fr 0), .tm, none⟩,
 ⟨.len false (.tm 0), .tm, none⟩,
 ⟨.bin .lss (.tm 2) (.tm 0), .fr 26, none⟩]) <|
 .cond (.fr 26)
 (.skip)
 (.exit 0)) <|
 .seq (.block 1 (.seq (.reg [
 ⟨.mov (.fr 0), .tm, none⟩,
 ⟨.mov (.fr 9), .tm, none⟩,
 ⟨.iaddr 70 (.tm 1) (.tm 0), .tm, none⟩,
 ⟨.faddr 1 (.tm 0), .tm, none⟩,
 ⟨.load1 (.tm 0), .tm, none⟩,
 ⟨.i2i .i64 (.tm 0), .tm, none⟩,
 ⟨.mov (.tm 0), .fr 10, none⟩]) <|
 .seq (.seq (.reg [
 ⟨.mov (.fr 0), .tm, none⟩,
 ⟨.mov (.fr 9), .tm, none⟩,
 ⟨.iaddr 70 (.tm 1) (.tm 0), .tm, none⟩,
 ⟨.faddr 0 (.tm 0), .tm, none⟩,
 ⟨.load1 (.tm 0), .tm, none⟩,
 ⟨.bin .rem (.tm 0) (.c (.int .u8 8)), .fr 27, none⟩]) <|
 .block 2 (.seq (.seq (.reg [
 ⟨.bin .eql (.fr 27) (.c (.int .u8 0)), .tm, none⟩,
 ⟨.mov (.tm 0), .fr 29, none⟩]) <|
 .cond (.fr 29)
 (.skip)
 (.reg [
 ⟨.bin .eql (.fr 27) (.c (.int .u8 1)), .tm, none⟩,
 ⟨.mov (.tm 0), .fr 29, none⟩])) <|
 .cond (.fr 29)
 (.seq (.reg [
 ⟨.faddr 1 (.fr 7), .tm, none⟩,
 ⟨.load1 (.tm 0), .tm, none⟩,
 ⟨.bin .add (.tm 0) (.c (.int .i64 1)), .tm, none⟩,
 ⟨.faddr 1 (.fr 7), .tm, none⟩,
 ⟨.store1 (.tm 0) (.tm 1), .no, none⟩]) <|
 .seq (.seq (.reg [
 ⟨.mov (.fr 10), .tm, none⟩,
 ⟨.bin .eql (.tm 0) (.c (.int .i64 0)), .fr 30, none⟩]) <|
 .cond (.fr 30)
 (.seq (.reg [
 ⟨.faddr 0 (.fr 7), .tm, none⟩,
 ⟨.load1 (.tm 0), .tm, none⟩,
 ⟨.bin .add (.tm 0) (.c (.int .i64 1)), .tm, none⟩,
 ⟨.faddr 0 (.fr 7), .tm, none⟩,
 ⟨.store1 (.tm 0) (.tm 1), .no, none⟩]) <|
 .reg [
 ⟨.faddr 1 (.fr 7), .tm, none⟩,
 ⟨.store1 (.tm 0) (.c (.int .i64 0)), .no, none⟩])
 (.skip)) <|
 .seq (.reg [
 ⟨.mov (.fr 0), .tm, none⟩,
 ⟨.mov (.fr 9), .tm, none⟩,
 ⟨.iaddr 70 (.tm 1) (.tm 0), .tm, none⟩,
 ⟨.faddr 2 (.tm 0), .tm, none⟩,
 ⟨.loadn 68 (.tm 0), .tm, none⟩,
 ⟨.faddr 2 (.fr 7), .tm, none⟩,
 ⟨.storen 68 (.tm 0) (.tm 1), .no, none⟩]) <|
 .seq (.seq (.reg [
 ⟨.loadn 70 (.fr 7), .tm, none⟩,
 ⟨.callf 15 [(.fr 2), (.tm 0)], .tm, none⟩,
 ⟨.bin .neq (.tm 0) (.c (.int .i64 0)), .fr 31, none⟩]) <|
 .cond (.fr 31)
 (.seq (.reg [
 ⟨.mov (.c (.bool false)), .fr 1, none⟩]) <|
 .ret)
 (.skip)) <|
 .reg [
 ⟨.mov (.fr 4), .tm, none⟩,
 ⟨.loadn 70 (.fr 7), .tm, none⟩,
 ⟨.bslice 54 70 1 Z70 [(0, 70, (.tm 0))], .tm, none⟩,
 ⟨.app 54 70 112 (.tm 2) (.tm 0), .tm, none⟩,
 ⟨.mov (.tm 0), .fr 4, none⟩])
 (.seq (.reg [
 ⟨.bin .eql (.fr 27) (.c (.int .u8 2)), .tm, none⟩,
 ⟨.mov (.tm 0), .fr 32, none⟩]) <|
 .cond (.fr 32)
 (.seq (.reg [
 ⟨.callf 16 [(.fr 2)], .tm, none⟩,
 ⟨.mov (.tm 0), .tm, none⟩,
 ⟨.extract (.tm 0) 0, .tm, none⟩,
 ⟨.extract (.tm 1) 1, .tm, none⟩,
 ⟨.new 41 78 Z78, .fr 11, none⟩,
 ⟨.storen 78 (.fr 11) (.tm 1), .no, none⟩,
 ⟨.mov (.tm 0), .fr 12, none⟩]) <|
 .seq (.reg [
 ⟨.mov (.fr 12), .tm, none⟩,
 ⟨.mov (.tm 0), .tm, none⟩,
 ⟨.mov (.fr 5), .tm, some ((.tm 0), true)⟩,
 ⟨.len false (.tm 0), .tm, some ((.tm 1), true)⟩,
 ⟨.bin .lss (.tm 0) (.c (.int .i64 50)), .tm, some ((.tm 2), true)⟩,
 ⟨.pick (.tm 3) (.tm 0) (.c (.bool false)), .fr 33, none⟩]) <|
 .cond (.fr 33)
 (.reg [
 ⟨.mov (.fr 5), .tm, none⟩,
 ⟨.loadn 78 (.fr 11), .tm, none⟩,
 ⟨.bslice 41 78 1 Z78 [(0, 78, (.tm 0))], .tm, none⟩,
 ⟨.app 41 78 192 (.tm 2) (.tm 0), .tm, none⟩,
 ⟨.mov (.tm 0), .fr 5, none⟩])
 (.skip))
 (.seq (.seq (.reg [
 ⟨.bin .eql (.fr 27) (.c (.int .u8 3)), .tm, none⟩,
 ⟨.mov (.tm 0), .fr 34, none⟩]) <|
 .cond (.fr 34)
 (.skip)
 (.reg [
 ⟨.bin .eql (.fr 27) (.c (.int .u8 4)), .tm, none⟩,
 ⟨.mov (.tm 0), .fr 34, none⟩])) <|
 .cond (.fr 34)
 (.seq (.seq (.reg [
 ⟨.mov (.fr 5), .tm, none⟩,
 ⟨.len false (.tm 0), .tm, none⟩,
 ⟨.bin .eql (.tm 0) (.c (.int .i64 0)), .fr 35, none⟩]) <|
 .cond (.fr 35)
 (.exit 1)
 (.skip)) <|
 .seq (.reg [
 ⟨.mov (.fr 10), .tm, none⟩,
 ⟨.mov (.fr 5), .tm, none⟩,
 ⟨.len false (.tm 0), .tm, none⟩,
 ⟨.bin .rem (.tm 2) (.tm 0), .tm, none⟩,
 ⟨.mov (.tm 0), .fr 10, none⟩]) <|
 .seq (.reg [
 ⟨.mov (.fr 5), .tm, none⟩,
 ⟨.mov (.fr 10), .tm, none⟩,
 ⟨.iaddr 78 (.tm 1) (.tm 0), .tm, none⟩,
 ⟨.loadn 78 (.tm 0), .tm, none⟩,
 ⟨.callf 17 [(.fr 3), (.tm 0)], .tm, none⟩,
 ⟨.mov (.tm 0), .tm, none⟩,
 ⟨.extract (.tm 0) 0, .tm, none⟩,
 ⟨.extract (.tm 1) 1, .tm, none⟩,
 ⟨.extract (.tm 2) 2, .tm, none⟩,
 ⟨.new 41 78 Z78, .fr 13, none⟩,
 ⟨.storen 78 (.fr 13) (.tm 2), .no, none⟩,
 ⟨.mov (.tm 1), .tm, none⟩,
 ⟨.mov (.tm 1), .fr 14, none⟩]) <|
 .seq (.seq (.reg [
 ⟨.mov (.fr 14), .tm, none⟩,
 ⟨.bin .neq (.tm 0) (.c (.int .i64 0)), .fr 36, none⟩]) <|
 .cond (.fr 36)
 (.seq (.reg [
 ⟨.mov (.c (.bool false)), .fr 1, none⟩]) <|
 .ret)
 (.skip)) <|
 .seq (.seq (.reg [
 ⟨.mov (.fr 0), .tm, none⟩,
 ⟨.mov (.fr 9), .tm, none⟩,
 ⟨.iaddr 70 (.tm 1) (.tm 0), .tm, none⟩,
 ⟨.faddr 0 (.tm 0), .tm, none⟩,
 ⟨.load1 (.tm 0), .tm, none⟩,
 ⟨.bin .rem (.tm 0) (.c (.int .u8 8)), .tm, none⟩,
 ⟨.bin .eql (.tm 0) (.c (.int .u8 3)), .fr 37, none⟩]) <|
 .cond (.fr 37)
 (.reg [
 ⟨.mov (.fr 5), .tm, none⟩,
 ⟨.mov (.fr 10), .tm, none⟩,
 ⟨.callf 18 [(.tm 1), (.tm 0)], .tm, none⟩,
 ⟨.mov (.tm 0), .fr 5, none⟩])
 (.skip)) <|
 .seq (.reg [
 ⟨.mov (.fr 6), .tm, none⟩,
 ⟨.len false (.tm 0), .tm, none⟩,
 ⟨.bin .lss (.tm 0) (.c (.int .i64 50)), .fr 38, none⟩]) <|
 .cond (.fr 38)
 (.reg [
 ⟨.mov (.fr 6), .tm, none⟩,
 ⟨.loadn 78 (.fr 13), .tm, none⟩,
 ⟨.bslice 41 78 1 Z78 [(0, 78, (.tm 0))], .tm, none⟩,
 ⟨.app 41 78 192 (.tm 2) (.tm 0), .tm, none⟩,
 ⟨.mov (.tm 0), .fr 6, none⟩])
 (.skip))
 (.seq (.seq (.reg [
 ⟨.bin .eql (.fr 27) (.c (.int .u8 5)), .tm, none⟩,
 ⟨.mov (.tm 0), .fr 39, none⟩]) <|
 .cond (.fr 39)
 (.skip)
 (.reg [
 ⟨.bin .eql (.fr 27) (.c (.int .u8 6)), .tm, none⟩,
 ⟨.mov (.tm 0), .fr 39, none⟩])) <|
 .cond (.fr 39)
 (.seq (.seq (.reg [
 ⟨.mov (.fr 6), .tm, none⟩,
 ⟨.len false (.tm 0), .tm, none⟩,
 ⟨.bin .eql (.tm 0) (.c (.int .i64 0)), .fr 40, none⟩]) <|
 .cond (.fr 40)
 (.exit 1)
 (.skip)) <|
 .seq (.reg [
 ⟨.mov (.fr 10), .tm, none⟩,
 ⟨.mov (.fr 6), .tm, none⟩,
 ⟨.len false (.tm 0), .tm, none⟩,
 ⟨.bin .rem (.tm 2) (.tm 0), .tm, none⟩,
 ⟨.mov (.tm 0), .fr 10, none⟩]) <|
 .seq (.seq (.reg [
 ⟨.mov (.fr 6), .tm, none⟩,
 ⟨.mov (.fr 10), .tm, none⟩,
 ⟨.iaddr 78 (.tm 1) (.tm 0), .tm, none⟩,
 ⟨.loadn 78 (.tm 0), .tm, none⟩,
 ⟨.callf 19 [(.fr 2), (.tm 0)], .tm, none⟩,
 ⟨.bin .neq (.tm 0) (.c (.int .i64 0)), .fr 41, none⟩]) <|
 .cond (.fr 41)
 (.seq (.reg [
 ⟨.mov (.c (.bool false)), .fr 1, none⟩]) <|
 .ret)
 (.skip)) <|
 .seq (.reg [
 ⟨.mov (.fr 0), .tm, none⟩,
 ⟨.mov (.fr 9), .tm, none⟩,
 ⟨.iaddr 70 (.tm 1) (.tm 0), .tm, none⟩,
 ⟨.faddr 0 (.tm 0), .tm, none⟩,
 ⟨.load1 (.tm 0), .tm, none⟩,
 ⟨.bin .rem (.tm 0) (.c (.int .u8 8)), .tm, none⟩,
 ⟨.bin .eql (.tm 0) (.c (.int .u8 5)), .fr 42, none⟩]) <|
 .cond (.fr 42)
 (.reg [
 ⟨.mov (.fr 6), .tm, none⟩,
 ⟨.mov (.fr 10), .tm, none⟩,
 ⟨.callf 18 [(.tm 1), (.tm 0)], .tm, none⟩,
 ⟨.mov (.tm 0), .fr 6, none⟩])
 (.skip))
 (.seq (.reg [
 ⟨.mov (.fr 5), .tm, none⟩,
 ⟨.len false (.tm 0), .tm, none⟩,
 ⟨.bin .gtr (.tm 0) (.c (.int .i64 0)), .fr 28, none⟩]) <|
 .cond (.fr 28)
 (.reg [
 ⟨.mov (.fr 5), .tm, none⟩,
 ⟨.mov (.fr 10), .tm, none⟩,
 ⟨.mov (.fr 5), .tm, none⟩,
 ⟨.len false (.tm 0), .tm, none⟩,
 ⟨.bin .rem (.tm 2) (.tm 0), .tm, none⟩,
 ⟨.callf 18 [(.tm 4), (.tm 0)], .tm, none⟩,
 ⟨.mov (.tm 0), .fr 5, none⟩])
 (.skip))))))) <|
 .seq (.reg [
 ⟨.callf 20 [(.fr 3)], .tm, none⟩,
 ⟨.mov (.tm 0), .tm, none⟩,
 ⟨.extract (.tm 0) 0, .tm, none⟩,
 ⟨.extract (.tm 1) 1, .tm, none⟩,
 ⟨.new 54 70 Z70, .fr 15, none⟩,
 ⟨.storen 70 (.fr 15) (.tm 1), .no, none⟩,
 ⟨.mov (.tm 0), .fr 16, none⟩]) <|
 .seq (.seq (.reg [
 ⟨.mov (.fr 16), .tm, none⟩,
 ⟨.un .not (.tm 0), .fr 43, none⟩]) <|
 .cond (.fr 43)
 (.exit 1)
 (.skip)) <|
 .seq (.reg [
 ⟨.mov (.fr 8), .tm, none⟩,
 ⟨.mm true (.c (.int .i64 0)) (.tm 0), .tm, none⟩,
 ⟨.mov (.tm 0), .fr 17, none⟩]) <|
 .seq (.block 3 (.loop (.seq (.seq (.dreg [
 (⟨.mov (.fr 17), .tm, none⟩, []),
 (⟨.mov (.fr 4), .tm, none⟩, []),
 (⟨.len false (.tm 0), .tm, none⟩, []),
 (⟨.bin .lss (.tm 2) (.tm 0), .tm, none⟩, []),
 (⟨.mov (.tm 0), .tm, none⟩, []),
 (⟨.mov (.fr 4), .tm, some ((.tm 0), true)⟩, []),
 (⟨.mov (.fr 17), .tm, some ((.tm 1), true)⟩, []),
 (⟨.iaddr 70 (.tm 1) (.tm 0), .tm, some ((.tm 2), true)⟩, []),
 (⟨.loadn 70 (.tm 0), .tm, some ((.tm 3), true)⟩, []),
 (⟨.loadn 70 (.fr 15), .tm, some ((.tm 4), true)⟩, []),
 (⟨.eqs O70 true (.tm 1) (.tm 0), .tm, some ((.tm 5), true)⟩, []),
 (⟨.pick (.tm 6) (.tm 0) (.c (.bool false)), .fr 44, none⟩, [])]) <|
 .cond (.fr 44)
 (.skip)
 (.exit 3)) <|
 .block 4 (.reg [
 ⟨.mov (.fr 17), .tm, none⟩,
 ⟨.bin .add (.tm 0) (.c (.int .i64 1)), .tm, none⟩,
 ⟨.mov (.tm 0), .fr 17, none⟩])))) <|
 .seq (.seq (.reg [
 ⟨.mov (.fr 17), .tm, none⟩,
 ⟨.mov (.fr 4), .tm, none⟩,
 ⟨.len false (.tm 0), .tm, none⟩,
 ⟨.bin .eql (.tm 2) (.tm 0), .fr 45, none⟩]) <|
 .cond (.fr 45)
 (.seq (.reg [
 ⟨.mov (.c (.bool false)), .fr 1, none⟩]) <|
 .ret)
 (.skip)) <|
 .reg [
 ⟨.mov (.fr 17), .tm, none⟩,
 ⟨.mov (.tm 0), .fr 8, none⟩])) <|
 .reg [
 ⟨.mov (.fr 9), .tm, none⟩,
 ⟨.bin .add (.tm 0) (.c (.int .i64 1)), .tm, none⟩,
 ⟨.mov (.tm 0), .fr 9, none⟩]))) <|
 .seq (.seq (.reg [
 ⟨.mov (.c (.int .i64 0)), .fr 18, none⟩]) <|
 .block 5 (.loop (.seq (.seq (.reg [
 ⟨.mov (.fr 18), .tm, none⟩,
 ⟨.bin .lss (.tm 0) (.c (.int .i64 2)), .fr 46, none⟩]) <|
 .cond (.fr 46)
 (.skip)
 (.exit 5)) <|
 .seq (.block 6 (.seq (.reg [
 ⟨.callf 16 [(.fr 2)], .tm, none⟩,
 ⟨.mov (.tm 0), .tm, none⟩,
 ⟨.extract (.tm 0) 0, .tm, none⟩,
 ⟨.extract (.tm 1) 1, .tm, none⟩,
 ⟨.new 41 78 Z78, .fr 19, none⟩,
 ⟨.storen 78 (.fr 19) (.tm 1), .no, none⟩,
 ⟨.mov (.tm 0), .fr 20, none⟩]) <|
 .seq (.seq (.reg [
 ⟨.mov (.fr 20), .tm, none⟩,
 ⟨.un .not (.tm 0), .fr 47, none⟩]) <|
 .cond (.fr 47)
 (.exit 5)
 (.skip)) <|
 .seq (.reg [
 ⟨.loadn 78 (.fr 19), .tm, none⟩,
 ⟨.callf 17 [(.fr 3), (.tm 0)], .tm, none⟩,
 ⟨.mov (.tm 0), .tm, none⟩,
 ⟨.extract (.tm 0) 0, .tm, none⟩,
 ⟨.extract (.tm 1) 1, .tm, none⟩,
 ⟨.extract (.tm 2) 2, .tm, none⟩,
 ⟨.new 41 78 Z78, .fr 21, none⟩,
 ⟨.storen 78 (.fr 21) (.tm 2), .no, none⟩,
 ⟨.mov (.tm 1), .tm, none⟩,
 ⟨.mov (.tm 1), .fr 22, none⟩]) <|
 .seq (.reg [
 ⟨.mov (.fr 22), .tm, none⟩,
 ⟨.bin .neq (.tm 0) (.c (.int .i64 0)), .tm, none⟩,
 ⟨.mov (.tm 0), .tm, none⟩,
 ⟨.loadn 78 (.fr 21), .tm, some ((.tm 0), false)⟩,
 ⟨.callf 19 [(.fr 2), (.tm 0)], .tm, some ((.tm 1), false)⟩,
 ⟨.bin .neq (.tm 0) (.c (.int .i64 0)), .tm, some ((.tm 2), false)⟩,
 ⟨.pick (.tm 3) (.c (.bool true)) (.tm 0), .fr 48, none⟩]) <|
 .cond (.fr 48)
 (.seq (.reg [
 ⟨.mov (.c (.bool false)), .fr 1, none⟩]) <|
 .ret)
 (.skip))) <|
 .reg [
 ⟨.mov (.fr 18), .tm, none⟩,
 ⟨.bin .add (.tm 0) (.c (.int .i64 1)), .tm, none⟩,
 ⟨.mov (.tm 0), .fr 18, none⟩]))) <|
 .seq (.reg [
 ⟨.callf 20 [(.fr 3)], .tm, none⟩,
 ⟨.mov (.tm 0), .tm, none⟩,
 ⟨.extract (.tm 0) 0, .tm, none⟩,
 ⟨.extract (.tm 1) 1, .tm, none⟩,
 ⟨.new 54 70 Z70, .fr 23, none⟩,
 ⟨.storen 70 (.fr 23) (.tm 1), .no, none⟩,
 ⟨.mov (.tm 0), .fr 24, none⟩]) <|
 .seq (.dreg [
 (⟨.mov (.fr 24), .tm, none⟩, []),
 (⟨.mov (.fr 4), .tm, none⟩, []),
 (⟨.len false (.tm 0), .tm, none⟩, []),
 (⟨.bin .gtr (.tm 0) (.c (.int .i64 0)), .tm, none⟩, []),
 (⟨.eqv 0 false (.tm 3) (.tm 0), .tm, none⟩, []),
 (⟨.mov (.tm 0), .tm, none⟩, []),
 (⟨.mov (.fr 24), .tm, some ((.tm 0), true)⟩, []),
 (⟨.un .not (.tm 0), .tm, some ((.tm 1), true)⟩, []),
 (⟨.mov (.tm 0), .tm, some ((.tm 2), true)⟩, []),
 (⟨.loadn 70 (.fr 23), .tm, some ((.tm 0), false)⟩, []),
 (⟨.mov (.fr 4), .tm, some ((.tm 1), false)⟩, []),
 (⟨.mov (.fr 4), .tm, some ((.tm 2), false)⟩, []),
 (⟨.len false (.tm 0), .tm, some ((.tm 3), false)⟩, []),
 (⟨.bin .sub (.tm 0) (.c (.int .i64 1)), .tm, some ((.tm 4), false)⟩, []),
 (⟨.iaddr 70 (.tm 3) (.tm 0), .tm, some ((.tm 5), false)⟩, []),
 (⟨.loadn 70 (.tm 0), .tm, some ((.tm 6), false)⟩, []),
 (⟨.eqs O70 false (.tm 6) (.tm 0), .tm, some ((.tm 7), false)⟩, []),
 (⟨.pick (.tm 8) (.c (.bool true)) (.tm 0), .tm, some ((.tm 11), true)⟩, []),
 (⟨.pick (.tm 12) (.tm 0) (.c (.bool false)), .tm, none⟩, []),
 (⟨.mov (.tm 0), .tm, none⟩, []),
 (⟨.callf 8 [], .tm, some ((.tm 0), true)⟩, []),
 (⟨.pick (.tm 1) (.tm 0) (.c (.bool false)), .tm, none⟩, []),
 (⟨.mov (.tm 0), .fr 1, none⟩, [])]) <|
 .ret, [.t 1]⟩
def f5 : AFunc := ⟨[0, 2, 3, 4, 5, 6, 7, 10, 18, 34],
 .seq (.reg [
 ⟨.mov (.c (.bool false)), .fr 1, none⟩]) <|
 .seq (.seq (.reg [
 ⟨.mov (.fr 0), .tm, none⟩,
 ⟨.callf 21 [(.tm 0)], .tm, none⟩,
 ⟨.un .not (.tm 0), .fr 7, none⟩]) <|
 .cond (.fr 7)
 (.seq (.reg [
 ⟨.callf 8 [], .tm, none⟩,
 ⟨.mov (.tm 0), .fr 1, none⟩]) <|
 .ret)
 (.skip)) <|
 .seq (.reg [
 ⟨.new 48 2 [(.slice none 0 0), (.int .i64 0)], .fr 2, none⟩]) <|
 .seq (.reg [
 ⟨.new 51 1 [(.pointer none)], .fr 3, none⟩]) <|
 .seq (.reg [
 ⟨.callf 22 [], .tm, none⟩,
 ⟨.build Z71 [], .tm, none⟩,
 ⟨.box 74 71 (.tm 0), .tm, none⟩,
 ⟨.mov (.tm 2), .fr 4, none⟩,
 ⟨.mov (.tm 0), .fr 5, none⟩]) <|
 .seq (.seq (.reg [
 ⟨.mov (.c (.int .i64 0)), .fr 6, none⟩]) <|
 .block 0 (.loop (.seq (.seq (.reg [
 ⟨.mov (.fr 6), .tm, none⟩,
 ⟨.mov (.fr 0), .tm, none⟩,
 ⟨.len false (.tm 0), .tm, none⟩,
 ⟨.bin .lss (.tm 2) (.tm 0), .fr 8, none⟩]) <|
 .cond (.fr 8)
 (.skip)
 (.exit 0)) <|
 .seq (.block 1 (.seq (.reg [
 ⟨.mov (.fr 4), .tm, none⟩,
 ⟨.mov (.fr 5), .tm, none⟩,
 ⟨.mov (.fr 0), .tm, none⟩,
 ⟨.mov (.fr 6), .tm, none⟩,
 ⟨.iaddr 149 (.tm 1) (.tm 0), .tm, none⟩,
 ⟨.loadn 149 (.tm 0), .tm, none⟩,
 ⟨.callf 23 [(.fr 2), (.fr 3), (.tm 5), (.tm 4), (.tm 0)], .tm, none⟩,
 ⟨.un .not (.tm 0), .tm, none⟩,
 ⟨.mov (.tm 0), .tm, none⟩,
 ⟨.mov (.fr 4), .tm, some ((.tm 0), false)⟩,
 ⟨.mov (.fr 5), .tm, some ((.tm 1), false)⟩,
 ⟨.callf 24 [(.fr 2), (.fr 3), (.tm 1), (.tm 0)], .tm, some ((.tm 2), false)⟩,
 ⟨.un .not (.tm 0), .tm, some ((.tm 3), false)⟩,
 ⟨.pick (.tm 4) (.c (.bool true)) (.tm 0), .fr 9, none⟩]) <|
 .cond (.fr 9)
 (.seq (.reg [
 ⟨.mov (.c (.bool false)), .fr 1, none⟩]) <|
 .ret)
 (.skip))) <|
 .reg [
 ⟨.mov (.fr 6), .tm, none⟩,
 ⟨.bin .add (.tm 0) (.c (.int .i64 1)), .tm, none⟩,
 ⟨.mov (.tm 0), .fr 6, none⟩]))) <|
 .seq (.reg [
 ⟨.callf 8 [], .tm, none⟩,
 ⟨.mov (.tm 0), .fr 1, none⟩]) <|
 .ret, [.t 1]⟩
def f18 : AFunc := ⟨[0, 1, 4, 5],
 .seq (.reg [
 ⟨.mov (.c (.slice none 0 0)), .fr 2, none⟩]) <|
 .seq (.reg [
 ⟨.mov (.c (.slice none 0 0)), .fr 3, none⟩]) <|
 .seq (.reg [
 ⟨.mov (.fr 3), .tm, none⟩,
 ⟨.mov (.fr 0), .tm, none⟩,
 ⟨.mov (.fr 1), .tm, none⟩,
 ⟨.slsl 78 (.tm 1) none (some (.tm 0)) none, .tm, none⟩,
 ⟨.app 41 78 192 (.tm 3) (.tm 0), .tm, none⟩,
 ⟨.mov (.tm 0), .fr 3, none⟩]) <|
 .seq (.reg [
 ⟨.mov (.fr 3), .tm, none⟩,
 ⟨.mov (.fr 0), .tm, none⟩,
 ⟨.mov (.fr 1), .tm, none⟩,
 ⟨.bin .add (.tm 0) (.c (.int .i64 1)), .tm, none⟩,
 ⟨.slsl 78 (.tm 2) (some (.tm 0)) none none, .tm, none⟩,
 ⟨.app 41 78 192 (.tm 4) (.tm 0), .tm, none⟩,
 ⟨.mov (.tm 0), .fr 3, none⟩]) <|
 .seq (.reg [
 ⟨.mov (.fr 3), .tm, none⟩,
 ⟨.mov (.tm 0), .fr 2, none⟩]) <|
 .ret, [.t 2]⟩
def f33 : AFunc := ⟨[0, 2],
 .seq (.reg [
 ⟨.mov (.c (.bool false)), .fr 1, none⟩]) <|
 .seq (.reg [
 ⟨.mov (.fr 0), .tm, none⟩,
 ⟨.callf 64 [(.tm 0)], .tm, none⟩,
 ⟨.bin .geq (.tm 0) (.c (.int .i64 0)), .tm, none⟩,
 ⟨.mov (.tm 0), .tm, none⟩,
 ⟨.mov (.fr 0), .tm, some ((.tm 0), true)⟩,
 ⟨.callf 65 [(.tm 0)], .tm, some ((.tm 1), true)⟩,
 ⟨.bin .leq (.tm 0) (.c (.int .i64 1099511627776)), .tm, some ((.tm 2), true)⟩,
 ⟨.pick (.tm 3) (.tm 0) (.c (.bool false)), .tm, none⟩,
 ⟨.mov (.tm 0), .fr 1, none⟩]) <|
 .ret, [.t 1]⟩
def f35 : AFunc := ⟨[0, 1, 2],
 .seq (.reg [
 ⟨.box 41 78 (.fr 0), .fr 1, none⟩,
 ⟨.mov (.c (.bool false)), .fr 2, none⟩]) <|
 .seq (.reg [
 ⟨.faddr 0 (.fr 1), .tm, none⟩,
 ⟨.load1 (.tm 0), .tm, none⟩,
 ⟨.bin .geq (.tm 0) (.c (.int .u8 1)), .tm, none⟩,
 ⟨.mov (.tm 0), .tm, none⟩,
 ⟨.faddr 0 (.fr 1), .tm, some ((.tm 0), true)⟩,
 ⟨.load1 (.tm 0), .tm, some ((.tm 1), true)⟩,
 ⟨.bin .leq (.tm 0) (.c (.int .u8 4)), .tm, some ((.tm 2), true)⟩,
 ⟨.pick (.tm 3) (.tm 0) (.c (.bool false)), .tm, none⟩,
 ⟨.mov (.tm 0), .tm, none⟩,
 ⟨.faddr 1 (.fr 1), .tm, some ((.tm 0), true)⟩,
 ⟨.load1 (.tm 0), .tm, some ((.tm 1), true)⟩,
 ⟨.faddr 2 (.fr 1), .tm, some ((.tm 2), true)⟩,
 ⟨.load1 (.tm 0), .tm, some ((.tm 3), true)⟩,
 ⟨.faddr 3 (.fr 1), .tm, some ((.tm 4), true)⟩,
 ⟨.load1 (.tm 0), .tm, some ((.tm 5), true)⟩,
 ⟨.faddr 4 (.fr 1), .tm, some ((.tm 6), true)⟩,
 ⟨.load1 (.tm 0), .tm, some ((.tm 7), true)⟩,
 ⟨.bslice 2 1 4 [(.int .i64 0), (.int .i64 0), (.int .i64 0), (.int .i64 0)] [(0, 1, (.tm 6)), (1, 1, (.tm 4)), (2, 1, (.tm 2)), (3, 1, (.tm 0))], .tm, some ((.tm 8), true)⟩,
 ⟨.callf 33 [(.tm 0)], .tm, some ((.tm 9), true)⟩,
 ⟨.pick (.tm 10) (.tm 0) (.c (.bool false)), .tm, none⟩,
 ⟨.mov (.tm 0), .tm, none⟩,
 ⟨.faddr 73 (.fr 1), .tm, some ((.tm 0), true)⟩,
 ⟨.loadn 5 (.tm 0), .tm, some ((.tm 1), true)⟩,
 ⟨.callf 31 [(.tm 0)], .tm, some ((.tm 2), true)⟩,
 ⟨.pick (.tm 3) (.tm 0) (.c (.bool false)), .tm, none⟩,
 ⟨.mov (.tm 0), .fr 2, none⟩]) <|
 .ret, [.t 2]⟩
def f61 : AFunc := ⟨[0, 1, 2],
 .seq (.reg [
 ⟨.box 38 78 (.fr 0), .fr 1, none⟩,
 ⟨.mov (.c (.bool false)), .fr 2, none⟩]) <|
 .seq (.reg [
 ⟨.faddr 0 (.fr 1), .tm, none⟩,
 ⟨.load1 (.tm 0), .tm, none⟩,
 ⟨.bin .geq (.tm 0) (.c (.int .u8 1)), .tm, none⟩,
 ⟨.mov (.tm 0), .tm, none⟩,
 ⟨.faddr 0 (.fr 1), .tm, some ((.tm 0), true)⟩,
 ⟨.load1 (.tm 0), .tm, some ((.tm 1), true)⟩,
 ⟨.bin .leq (.tm 0) (.c (.int .u8 4)), .tm, some ((.tm 2), true)⟩,
 ⟨.pick (.tm 3) (.tm 0) (.c (.bool false)), .tm, none⟩,
 ⟨.mov (.tm 0), .tm, none⟩,
 ⟨.faddr 1 (.fr 1), .tm, some ((.tm 0), true)⟩,
 ⟨.load1 (.tm 0), .tm, some ((.tm 1), true)⟩,
 ⟨.callf 68 [(.tm 0)], .tm, some ((.tm 2), true)⟩,
 ⟨.pick (.tm 3) (.tm 0) (.c (.bool false)), .tm, none⟩,
 ⟨.mov (.tm 0), .tm, none⟩,
 ⟨.faddr 2 (.fr 1), .tm, some ((.tm 0), true)⟩,
 ⟨.load1 (.tm 0), .tm, some ((.tm 1), true)⟩,
 ⟨.callf 68 [(.tm 0)], .tm, some ((.tm 2), true)⟩,
 ⟨.pick (.tm 3) (.tm 0) (.c (.bool false)), .tm, none⟩,
 ⟨.mov (.tm 0), .tm, none⟩,
 ⟨.faddr 3 (.fr 1), .tm, some ((.tm 0), true)⟩,
 ⟨.load1 (.tm 0), .tm, some ((.tm 1), true)⟩,
 ⟨.callf 68 [(.tm 0)], .tm, some ((.tm 2), true)⟩,
 ⟨.pick (.tm 3) (.tm 0) (.c (.bool false)), .tm, none⟩,
 ⟨.mov (.tm 0), .tm, none⟩,
 ⟨.faddr 4 (.fr 1), .tm, some ((.tm 0), true)⟩,
 ⟨.load1 (.tm 0), .tm, some ((.tm 1), true)⟩,
 ⟨.callf 68 [(.tm 0)], .tm, some ((.tm 2), true)⟩,
 ⟨.pick (.tm 3) (.tm 0) (.c (.bool false)), .tm, none⟩,
 ⟨.mov (.tm 0), .tm, none⟩,
 ⟨.faddr 77 (.fr 1), .tm, some ((.tm 0), true)⟩,
 ⟨.load1 (.tm 0), .tm, some ((.tm 1), true)⟩,
 ⟨.callf 32 [(.tm 0)], .tm, some ((.tm 2), true)⟩,
 ⟨.pick (.tm 3) (.tm 0) (.c (.bool false)), .tm, none⟩,
 ⟨.mov (.tm 0), .fr 2, none⟩]) <|
 .ret, [.t 2]⟩
def f64 : AFunc := ⟨[0, 2, 3, 4, 7, 15],
 .seq (.reg [
 ⟨.mov (.c (.int .i64 0)), .fr 1, none⟩]) <|
 .seq (.seq (.reg [
 ⟨.mov (.fr 0), .tm, none⟩,
 ⟨.len false (.tm 0), .tm, none⟩,
 ⟨.bin .lss (.tm 0) (.c (.int .i64 1)), .fr 4, none⟩]) <|
 .cond (.fr 4)
 (.reg [
 ⟨.iface 9 (.c (.string ⟨#[115, 108, 105, 99, 101, 115, 46, 77, 105, 110, 58, 32, 101, 109, 112, 116, 121, 32, 108, 105, 115, 116]⟩)), .tm, none⟩,
 ⟨.bad, .no, none⟩])
 (.skip)) <|
 .seq (.reg [
 ⟨.mov (.fr 0), .tm, none⟩,
 ⟨.iaddr 1 (.tm 0) (.c (.int .i64 0)), .tm, none⟩,
 ⟨.load1 (.tm 0), .tm, none⟩,
 ⟨.mov (.tm 0), .fr 2, none⟩]) <|
 .seq (.seq (.reg [
 ⟨.mov (.c (.int .i64 1)), .fr 3, none⟩]) <|
 .block 0 (.loop (.seq (.seq (.reg [
 ⟨.mov (.fr 3), .tm, none⟩,
 ⟨.mov (.fr 0), .tm, none⟩,
 ⟨.len false (.tm 0), .tm, none⟩,
 ⟨.bin .lss (.tm 2) (.tm 0), .fr 5, none⟩]) <|
 .cond (.fr 5)
 (.skip)
 (.exit 0)) <|
 .seq (.block 1 (.reg [
 ⟨.mov (.fr 2), .tm, none⟩,
 ⟨.mov (.fr 0), .tm, none⟩,
 ⟨.mov (.fr 3), .tm, none⟩,
 ⟨.iaddr 1 (.tm 1) (.tm 0), .tm, none⟩,
 ⟨.load1 (.tm 0), .tm, none⟩,
 ⟨.mm false (.tm 4) (.tm 0), .tm, none⟩,
 ⟨.mov (.tm 0), .fr 2, none⟩])) <|
 .reg [
 ⟨.mov (.fr 3), .tm, none⟩,
 ⟨.bin .add (.tm 0) (.c (.int .i64 1)), .tm, none⟩,
 ⟨.mov (.tm 0), .fr 3, none⟩]))) <|
 .seq (.reg [
 ⟨.mov (.fr 2), .tm, none⟩,
 ⟨.mov (.tm 0), .fr 1, none⟩]) <|
 .ret, [.t 1]⟩
def f65 : AFunc := ⟨[0, 2, 3, 4, 7, 15],
 .seq (.reg [
 ⟨.mov (.c (.int .i64 0)), .fr 1, none⟩]) <|
 .seq (.seq (.reg [
 ⟨.mov (.fr 0), .tm, none⟩,
 ⟨.len false (.tm 0), .tm, none⟩,
 ⟨.bin .lss (.tm 0) (.c (.int .i64 1)), .fr 4, none⟩]) <|
 .cond (.fr 4)
 (.reg [
 ⟨.iface 9 (.c (.string ⟨#[115, 108, 105, 99, 101, 115, 46, 77, 97, 120, 58, 32, 101, 109, 112, 116, 121, 32, 108, 105, 115, 116]⟩)), .tm, none⟩,
 ⟨.bad, .no, none⟩])
 (.skip)) <|
 .seq (.reg [
 ⟨.mov (.fr 0), .tm, none⟩,
 ⟨.iaddr 1 (.tm 0) (.c (.int .i64 0)), .tm, none⟩,
 ⟨.load1 (.tm 0), .tm, none⟩,
 ⟨.mov (.tm 0), .fr 2, none⟩]) <|
 .seq (.seq (.reg [
 ⟨.mov (.c (.int .i64 1)), .fr 3, none⟩]) <|
 .block 0 (.loop (.seq (.seq (.reg [
 ⟨.mov (.fr 3), .tm, none⟩,
 ⟨.mov (.fr 0), .tm, none⟩,
 ⟨.len false (.tm 0), .tm, none⟩,
 ⟨.bin .lss (.tm 2) (.tm 0), .fr 5, none⟩]) <|
 .cond (.fr 5)
 (.skip)
 (.exit 0)) <|
 .seq (.block 1 (.reg [
 ⟨.mov (.fr 2), .tm, none⟩,
 ⟨.mov (.fr 0), .tm, none⟩,
 ⟨.mov (.fr 3), .tm, none⟩,
 ⟨.iaddr 1 (.tm 1) (.tm 0), .tm, none⟩,
 ⟨.load1 (.tm 0), .tm, none⟩,
 ⟨.mm true (.tm 4) (.tm 0), .tm, none⟩,
 ⟨.mov (.tm 0), .fr 2, none⟩])) <|
 .reg [
 ⟨.mov (.fr 3), .tm, none⟩,
 ⟨.bin .add (.tm 0) (.c (.int .i64 1)), .tm, none⟩,
 ⟨.mov (.tm 0), .fr 3, none⟩]))) <|
 .seq (.reg [
 ⟨.mov (.fr 2), .tm, none⟩,
 ⟨.mov (.tm 0), .fr 1, none⟩]) <|
 .ret, [.t 1]⟩
def f68 : AFunc := ⟨[0, 2],
 .seq (.reg [
 ⟨.mov (.c (.bool false)), .fr 1, none⟩]) <|
 .seq (.reg [
 ⟨.mov (.fr 0), .tm, none⟩,
 ⟨.bin .geq (.tm 0) (.c (.int .i64 0)), .tm, none⟩,
 ⟨.mov (.tm 0), .tm, none⟩,
 ⟨.mov (.fr 0), .tm, some ((.tm 0), true)⟩,
 ⟨.bin .leq (.tm 0) (.c (.int .i64 1099511627776)), .tm, some ((.tm 1), true)⟩,
 ⟨.pick (.tm 2) (.tm 0) (.c (.bool false)), .tm, none⟩,
 ⟨.mov (.tm 0), .fr 1, none⟩]) <|
 .ret, [.t 1]⟩
theorem f18_ok : compF Go.Proofs.Try.prog 0 [0, 1, 4, 5] 18 = some f18 := by kernel_rfl
theorem f18_n : argsOK Go.Proofs.Try.prog 18 2 = true := by kernel_rfl
theorem f33_ok : compF Go.Proofs.Try.prog 0 [0, 2] 33 = some f33 := by kernel_rfl
theorem f33_n : argsOK Go.Proofs.Try.prog 33 1 = true := by kernel_rfl
theorem f35_ok : compF Go.Proofs.Try.prog 0 [0, 1, 2] 35 = some f35 := by kernel_rfl
theorem f35_n : argsOK Go.Proofs.Try.prog 35 1 = true := by kernel_rfl
theorem f61_ok : compF Go.Proofs.Try.prog 0 [0, 1, 2] 61 = some f61 := by kernel_rfl
theorem f61_n : argsOK Go.Proofs.Try.prog 61 1 = true := by kernel_rfl
theorem f64_ok : compF Go.Proofs.Try.prog 0 [0, 2, 3, 4, 7, 15] 64 = some f64 := by kernel_rfl
theorem f64_n : argsOK Go.Proofs.Try.prog 64 1 = true := by kernel_rfl
theorem f65_ok : compF Go.Proofs.Try.prog 0 [0, 2, 3, 4, 7, 15] 65 = some f65 := by kernel_rfl
theorem f65_n : argsOK Go.Proofs.Try.prog 65 1 = true := by kernel_rfl
theorem f68_ok : compF Go.Proofs.Try.prog 0 [0, 2] 68 = some f68 := by kernel_rfl
theorem f68_n : argsOK Go.Proofs.Try.prog 68 1 = true := by kernel_rfl
end Go.AM.Rp

set_option linter.unusedSimpArgs false
set_option linter.unusedVariables false
namespace Go.AM.Rp
open Go.Proofs
def cmpI (a b : Int) : Int := if a < b then -1 else if b < a then 1 else 0
def IL (H : AHeap) (v : Value) (l : List Int) : Prop := ∃ b k, v = slc b 0 l.length k ∧ ∀ (i : Nat) (h : i < l.length), cellA H b i = some (.int .i64 l[i])
end Go.AM.Rp

set_option linter.unusedSimpArgs false
set_option linter.unusedVariables false
namespace Go.AM.Rp
open Go.Proofs
section
variable {P : Program} {ng : Nat} {fr tm : List Value} {H : AHeap} {KF : List Value → AHeap → Prop}
theorem st_mm {d : Go.AM.D} {r : List AOper} (m : Bool) (x y : Value) : stR P ng (.mm m x y) d r fr tm H KF = goR P ng (asem (.mm m x y) H) d r fr tm KF := st_of d r (by simp) (by simp)
end
theorem a_mmx (a b : Int) (H : AHeap) : asem (.mm true (.int .i64 a) (.int .i64 b)) H = some (.int .i64 (if b > a then b else a), H) := by simp [asem]
theorem a_mmn (a b : Int) (H : AHeap) : asem (.mm false (.int .i64 a) (.int .i64 b)) H = some (.int .i64 (if b < a then b else a), H) := by simp [asem]
def mn : List Int → Int
  | [] => 0
  | x :: l => l.foldl (fun a b => if b < a then b else a) x
def mx : List Int → Int
  | [] => 0
  | x :: l => l.foldl (fun a b => if b > a then b else a) x
theorem t64 {H : AHeap} {v : Value} {x : Int} {l : List Int} (h : IL H v (x :: l)) (hl : l.length ≤ 1000) : ARun Try.prog 0 64 [v] H (.int .i64 (mn (x :: l))) H := by
  suffices q : ∃ r H', ARun Try.prog 0 64 [v] H r H' ∧ r = .int .i64 (mn (x :: l)) ∧ H' = H by
    obtain ⟨r, H', q, rfl, rfl⟩ := q; exact q
  refine walk2 f64_ok f64_n ?_
  intro Q hq1 hq2
  obtain ⟨bb, k, rfl, h1⟩ := h
  have c0 : cellA H bb 0 = some (.int .i64 x) := h1 0 (by simp)
  have hn : (x :: l).length = l.length + 1 := rfl
  simp only [f64, W_block, ANs, AOp.map, ↓reduceIte, Nat.reduceAdd, Nat.reduceEqDiff, reduceCtorEq, initFr, Nat.reduceLT, ANc, show ¬ (((l.length + 1 : Nat)) : Int) < 1 by omega, decide_false, show (0 : Int) < ((l.length + 1 : Nat) : Int) by omega, show (0 : Int) ≤ 0 by omega, c0, show Int.toNat 0 = 0 from rfl]
  refine W_loop2 (fun q fr H2 => ∃ (i : Nat) (y4 y5 : Value), fr = [slc bb 0 (l.length + 1) k, .int .i64 0, .int .i64 ((l.take i).foldl (fun a b => if b < a then b else a) x), .int .i64 ((i + 1 : Nat) : Int), y4, y5] ∧ i ≤ l.length ∧ q = l.length - i ∧ H2 = H) l.length ?_ ?_
  · exact ⟨0, _, _, rfl, by omega, by omega, rfl⟩
  · rintro Q' q fr H2 ⟨i, y4, y5, rfl, i1, rfl, rfl⟩ hnext hexit hret
    by_cases hi : i < l.length
    · have ci : cellA H2 bb (i + 1) = some (.int .i64 l[i]) := h1 (i + 1) (by simp; omega)
      simp only [W_block, ANs, AOp.map, ↓reduceIte, Nat.reduceAdd, Nat.reduceEqDiff, reduceCtorEq, initFr, Nat.reduceLT, ANc, show ((i + 1 : Nat) : Int) < ((l.length + 1 : Nat) : Int) by omega, decide_true, show (0 : Int) ≤ ((i + 1 : Nat) : Int) by omega, ci, st_mm, a_mmn, wrap_succ (n := i + 1) (by omega)]
      have ef : (l.take (i + 1)).foldl (fun a b => if b < a then b else a) x = if l[i] < (l.take i).foldl (fun a b => if b < a then b else a) x then l[i] else (l.take i).foldl (fun a b => if b < a then b else a) x := by rw [List.take_succ_eq_append_getElem hi, List.foldl_append]; rfl
      rw [← ef]
      exact hnext _ _ _ ⟨i + 1, _, _, rfl, by omega, rfl, rfl⟩ (by omega)
    · simp only [W_block, ANs, AOp.map, ↓reduceIte, Nat.reduceAdd, Nat.reduceEqDiff, reduceCtorEq, initFr, Nat.reduceLT, ANc, show ¬ ((i + 1 : Nat) : Int) < ((l.length + 1 : Nat) : Int) by omega, decide_false]
      refine hexit _ _ _ ?_
      simp only [W_block, ANs, AOp.map, ↓reduceIte, Nat.reduceAdd, Nat.reduceEqDiff, reduceCtorEq, initFr, Nat.reduceLT, ANc]
      exact hq2 _ _ ⟨_, rfl, by rw [List.take_of_length_le (by omega)]; rfl, rfl⟩
theorem t65 {H : AHeap} {v : Value} {x : Int} {l : List Int} (h : IL H v (x :: l)) (hl : l.length ≤ 1000) : ARun Try.prog 0 65 [v] H (.int .i64 (mx (x :: l))) H := by
  suffices q : ∃ r H', ARun Try.prog 0 65 [v] H r H' ∧ r = .int .i64 (mx (x :: l)) ∧ H' = H by
    obtain ⟨r, H', q, rfl, rfl⟩ := q; exact q
  refine walk2 f65_ok f65_n ?_
  intro Q hq1 hq2
  obtain ⟨bb, k, rfl, h1⟩ := h
  have c0 : cellA H bb 0 = some (.int .i64 x) := h1 0 (by simp)
  simp only [f65, W_block, ANs, AOp.map, ↓reduceIte, Nat.reduceAdd, Nat.reduceEqDiff, reduceCtorEq, initFr, Nat.reduceLT, ANc, show ¬ (((l.length + 1 : Nat)) : Int) < 1 by omega, decide_false, show (0 : Int) < ((l.length + 1 : Nat) : Int) by omega, show (0 : Int) ≤ 0 by omega, c0, show Int.toNat 0 = 0 from rfl]
  refine W_loop2 (fun q fr H2 => ∃ (i : Nat) (y4 y5 : Value), fr = [slc bb 0 (l.length + 1) k, .int .i64 0, .int .i64 ((l.take i).foldl (fun a b => if b > a then b else a) x), .int .i64 ((i + 1 : Nat) : Int), y4, y5] ∧ i ≤ l.length ∧ q = l.length - i ∧ H2 = H) l.length ?_ ?_
  · exact ⟨0, _, _, rfl, by omega, by omega, rfl⟩
  · rintro Q' q fr H2 ⟨i, y4, y5, rfl, i1, rfl, rfl⟩ hnext hexit hret
    by_cases hi : i < l.length
    · have ci : cellA H2 bb (i + 1) = some (.int .i64 l[i]) := h1 (i + 1) (by simp; omega)
      simp only [W_block, ANs, AOp.map, ↓reduceIte, Nat.reduceAdd, Nat.reduceEqDiff, reduceCtorEq, initFr, Nat.reduceLT, ANc, show ((i + 1 : Nat) : Int) < ((l.length + 1 : Nat) : Int) by omega, decide_true, show (0 : Int) ≤ ((i + 1 : Nat) : Int) by omega, ci, st_mm, a_mmx, wrap_succ (n := i + 1) (by omega)]
      have ef : (l.take (i + 1)).foldl (fun a b => if b > a then b else a) x = if l[i] > (l.take i).foldl (fun a b => if b > a then b else a) x then l[i] else (l.take i).foldl (fun a b => if b > a then b else a) x := by rw [List.take_succ_eq_append_getElem hi, List.foldl_append]; rfl
      rw [← ef]
      exact hnext _ _ _ ⟨i + 1, _, _, rfl, by omega, rfl, rfl⟩ (by omega)
    · simp only [W_block, ANs, AOp.map, ↓reduceIte, Nat.reduceAdd, Nat.reduceEqDiff, reduceCtorEq, initFr, Nat.reduceLT, ANc, show ¬ ((i + 1 : Nat) : Int) < ((l.length + 1 : Nat) : Int) by omega, decide_false]
      refine hexit _ _ _ ?_
      simp only [W_block, ANs, AOp.map, ↓reduceIte, Nat.reduceAdd, Nat.reduceEqDiff, reduceCtorEq, initFr, Nat.reduceLT, ANc]
      exact hq2 _ _ ⟨_, rfl, by rw [List.take_of_length_le (by omega)]; rfl, rfl⟩
def inB (l : List Int) : Bool := decide (0 ≤ mn l) && decide (mx l ≤ 1099511627776)
theorem t33 {H : AHeap} {v : Value} {x : Int} {l : List Int} (h : IL H v (x :: l)) (hl : l.length ≤ 1000) : ARun Try.prog 0 33 [v] H (.bool (inB (x :: l))) H := by
  suffices q : ∃ r H', ARun Try.prog 0 33 [v] H r H' ∧ r = .bool (inB (x :: l)) ∧ H' = H by
    obtain ⟨r, H', q, rfl, rfl⟩ := q; exact q
  refine walk2 f33_ok f33_n ?_
  intro Q hq1 hq2
  simp only [f33, W_block, ANs, AOp.map, ↓reduceIte, Nat.reduceAdd, Nat.reduceEqDiff, reduceCtorEq, initFr, Nat.reduceLT, ANc]
  refine ⟨_, _, t64 h hl, ?_⟩
  unfold inB at hq2
  by_cases h1 : 0 ≤ mn (x :: l)
  · simp only [h1, decide_true, Bool.true_and] at hq2
    simp only [W_block, ANs, AOp.map, ↓reduceIte, Nat.reduceAdd, Nat.reduceEqDiff, reduceCtorEq, initFr, Nat.reduceLT, ANc, h1, decide_true]
    refine ⟨_, _, t65 h hl, ?_⟩
    simp only [W_block, ANs, AOp.map, ↓reduceIte, Nat.reduceAdd, Nat.reduceEqDiff, reduceCtorEq, initFr, Nat.reduceLT, ANc]
    exact hq2 _ _ ⟨_, rfl, rfl, rfl⟩
  · simp only [h1, decide_false, Bool.false_and] at hq2
    simp only [W_block, ANs, AOp.map, ↓reduceIte, Nat.reduceAdd, Nat.reduceEqDiff, reduceCtorEq, initFr, Nat.reduceLT, ANc, bi_u, h1, decide_false]
    exact hq2 _ _ ⟨_, rfl, rfl, rfl⟩
end Go.AM.Rp

set_option linter.unusedSimpArgs false
set_option linter.unusedVariables false
namespace Go.AM.Rp
open Go.Proofs
structure Lg where
  e : Int
  c : Int
  s : S
def LC (x : Lg) : List Value := .int .i64 x.e :: .int .i64 x.c :: SC x.s
theorem LC_len {x : Lg} (h : x.s.t.length = 64) : (LC x).length = 70 := by simp [LC, SC_len h]
def cmpL (x y : Lg) : Int := if cmpI x.e y.e ≠ 0 then cmpI x.e y.e else cmpI x.c y.c
end Go.AM.Rp

set_option linter.unusedSimpArgs false
set_option linter.unusedVariables false
namespace Go.AM.Rp
open Go.Proofs
def L0 : Lg := ⟨0, 0, S0⟩
def RvS (H : AHeap) (r : Nat) (x : Option Lg) : Prop :=
  match x with
  | none => H.get r = some (.cells true false 1 [.pointer none] 51)
  | some x => ∃ b, H.get r = some (.cells true false 1 [ptr b 0] 51) ∧ H.get b = some (.cells true false 70 (LC x) 54) ∧ b ≠ r
structure Msg where
  k : Nat
  e : Int
  c : Int
  be : Int
  b : Int
  s : S
  d : D
def GC (m : Msg) (v : Value) : List Value := .int .u8 m.k :: .int .i64 m.e :: .int .i64 m.c :: .int .i64 m.be :: .int .i64 m.b :: (SC m.s ++ D5 m.d.a m.d.b m.d.c m.d.p v)
theorem GC_len {m : Msg} (h : m.s.t.length = 64) (v : Value) : (GC m v).length = 78 := by simp [GC, SC_len h, D5]
theorem GC_one (m : Msg) {v : Value} (h : v.oneCell' = true) : (GC m v).all Value.oneCell' = true := by
  simp only [GC, List.all_cons, List.all_append, SC_one, D5_one _ _ _ _ h, one_int]; rfl
theorem GC_d {H : AHeap} {b e : Nat} {m : Msg} {v : Value} (hs : m.s.t.length = 64) (h : H.get b = some (.cells true false 78 (GC m v) e)) : rangeA H b 73 5 = some (D5 m.d.a m.d.b m.d.c m.d.p v) := by
  rw [rangeA_of h, if_pos (by rw [GC_len hs]; omega)]
  simp only [GC, List.drop]
  rw [List.drop_append_of_le_length (by rw [SC_len hs]; omega), List.drop_of_length_le (by rw [SC_len hs]; omega)]
  rfl
theorem GC_s {H : AHeap} {b e : Nat} {m : Msg} {v : Value} (hs : m.s.t.length = 64) (h : H.get b = some (.cells true false 78 (GC m v) e)) : rangeA H b 5 68 = some (SC m.s) := by
  rw [rangeA_of h, if_pos (by rw [GC_len hs]; omega)]
  simp only [GC, List.drop]
  rw [List.take_append_of_le_length (by rw [SC_len hs]; omega), List.take_of_length_le (by rw [SC_len hs]; omega)]
theorem bsl4 (e : Nat) (a b c d : Int) (H : AHeap) : asem (.bslice e 1 4 [.int .i64 0, .int .i64 0, .int .i64 0, .int .i64 0] [(0, 1, .int .i64 a), (1, 1, .int .i64 b), (2, 1, .int .i64 c), (3, 1, .int .i64 d)]) H = some (slc H.n 0 4 4, H.alloc (.cells true false 1 [.int .i64 a, .int .i64 b, .int .i64 c, .int .i64 d] e)) := rfl
theorem il4 (e : Nat) (a b c d : Int) (H : AHeap) : IL (H.alloc (.cells true false 1 [.int .i64 a, .int .i64 b, .int .i64 c, .int .i64 d] e)) (slc H.n 0 4 4) [a, b, c, d] := by
  refine ⟨_, _, rfl, fun i h => ?_⟩
  rw [cellA_of (AHeap.get_alloc_new H _)]
  have c : i = 0 ∨ i = 1 ∨ i = 2 ∨ i = 3 := by simp at h; omega
  rcases c with rfl | rfl | rfl | rfl <;> rfl
def mayB (m : Msg) : Bool := decide (1 ≤ m.k) && decide (m.k ≤ 4) && inB [m.e, m.c, m.be, m.b] && riseF (-1) m.d.l
theorem t35 {H : AHeap} {m : Msg} {v : Value} (hs : m.s.t.length = 64) (h : TB H v m.d.l) (hl : m.d.l.length ≤ 100000) : ∃ r H', ARun Try.prog 0 35 [.agg (GC m v).toArray] H r H' ∧ r = .bool (mayB m) ∧ Keeps H H' := by
  refine walk2 f35_ok f35_n ?_
  intro Q hq1 hq2
  have hc1 : (Value.agg (GC m v).toArray).cells.toList = GC m v := by simp [Value.cells]
  obtain ⟨Ha, hHa⟩ : ∃ X, X = H.alloc (.cells true false 78 (GC m v) 41) := ⟨_, rfl⟩
  have ka := (Keeps.refl H).alloc (.cells true false 78 (GC m v) 41)
  have ga := AHeap.get_alloc_new H (.cells true false 78 (GC m v) 41)
  rw [← hHa] at ka ga
  have c0 : cellA Ha H.n 0 = some (.int .u8 m.k) := by rw [cellA_of ga]; rfl
  have c1 : cellA Ha H.n 1 = some (.int .i64 m.e) := by rw [cellA_of ga]; rfl
  have c2 : cellA Ha H.n 2 = some (.int .i64 m.c) := by rw [cellA_of ga]; rfl
  have c3 : cellA Ha H.n 3 = some (.int .i64 m.be) := by rw [cellA_of ga]; rfl
  have c4 : cellA Ha H.n 4 = some (.int .i64 m.b) := by rw [cellA_of ga]; rfl
  unfold mayB at hq2
  simp only [f35, W_block, ANs, AOp.map, ↓reduceIte, Nat.reduceAdd, Nat.reduceEqDiff, reduceCtorEq, initFr, Nat.reduceLT, ANc, hc1, GC_one m h.one, ← hHa, c0]
  by_cases h1 : 1 ≤ m.k
  case neg =>
    simp only [h1, decide_false, Bool.false_and] at hq2
    simp only [W_block, ANs, AOp.map, ↓reduceIte, Nat.reduceAdd, Nat.reduceEqDiff, reduceCtorEq, initFr, Nat.reduceLT, ANc, bi_u, show ¬ (1 : Int) ≤ (m.k : Int) by omega, decide_false]
    exact hq2 _ _ ⟨_, rfl, rfl, ka⟩
  by_cases h2 : m.k ≤ 4
  case neg =>
    simp only [h1, h2, decide_true, decide_false, Bool.false_and, Bool.and_false] at hq2
    simp only [W_block, ANs, AOp.map, ↓reduceIte, Nat.reduceAdd, Nat.reduceEqDiff, reduceCtorEq, initFr, Nat.reduceLT, ANc, bi_u, c0, show (1 : Int) ≤ (m.k : Int) by omega, show ¬ (m.k : Int) ≤ 4 by omega, decide_true, decide_false]
    exact hq2 _ _ ⟨_, rfl, rfl, ka⟩
  simp only [h1, h2, decide_true, Bool.true_and] at hq2
  simp only [W_block, ANs, AOp.map, ↓reduceIte, Nat.reduceAdd, Nat.reduceEqDiff, reduceCtorEq, initFr, Nat.reduceLT, ANc, bi_u, c0, c1, c2, c3, c4, show (1 : Int) ≤ (m.k : Int) by omega, show (m.k : Int) ≤ 4 by omega, decide_true, bsl4]
  have kb := (Keeps.refl Ha).alloc (.cells true false 1 [.int .i64 m.e, .int .i64 m.c, .int .i64 m.be, .int .i64 m.b] 2)
  refine ⟨_, _, t33 (il4 2 m.e m.c m.be m.b Ha) (by simp), ?_⟩
  have gb := kb.at_ ga
  cases h3 : inB [m.e, m.c, m.be, m.b]
  · simp only [h3, Bool.false_and] at hq2
    simp only [W_block, ANs, AOp.map, ↓reduceIte, Nat.reduceAdd, Nat.reduceEqDiff, reduceCtorEq, initFr, Nat.reduceLT, ANc, bi_u]
    exact hq2 _ _ ⟨_, rfl, rfl, ka.trans kb⟩
  · simp only [h3, Bool.true_and] at hq2
    simp only [W_block, ANs, AOp.map, ↓reduceIte, Nat.reduceAdd, Nat.reduceEqDiff, reduceCtorEq, initFr, Nat.reduceLT, ANc, bi_u, GC_d hs gb]
    obtain ⟨_, H2, r2, rfl, k2⟩ := t31 (h.keeps (ka.trans kb)) m.d.a m.d.b m.d.c m.d.p hl
    refine ⟨_, _, r2, ?_⟩
    simp only [W_block, ANs, AOp.map, ↓reduceIte, Nat.reduceAdd, Nat.reduceEqDiff, reduceCtorEq, initFr, Nat.reduceLT, ANc]
    exact hq2 _ _ ⟨_, rfl, rfl, (ka.trans kb).trans k2⟩
end Go.AM.Rp

set_option linter.unusedSimpArgs false
set_option linter.unusedVariables false
namespace Go.AM.Rp
open Go.Proofs
def G0 : Msg := ⟨0, 0, 0, 0, 0, S0, ⟨0, 0, 0, 0, []⟩⟩
def ackM (x : Lg) : Msg := { G0 with k := 3, e := x.e, c := x.c }
def needM : Msg := { G0 with k := 4 }
end Go.AM.Rp

set_option linter.unusedSimpArgs false
set_option linter.unusedVariables false
namespace Go.AM.Rp
open Go.Proofs
def FL (l : List Lg) : List Value := l.flatMap LC
theorem FL_app (l m : List Lg) : FL (l ++ m) = FL l ++ FL m := by simp [FL]
def Ok64 (l : List Lg) : Prop := ∀ x ∈ l, x.s.t.length = 64
theorem FL_len : ∀ (l : List Lg), Ok64 l → (FL l).length = 70 * l.length
  | [], _ => rfl
  | x :: l, h => by
    have h1 := FL_len l (fun y hy => h y (by simp [hy]))
    have h2 := LC_len (h x (by simp))
    simp only [FL, List.flatMap_cons, List.length_append, List.length_cons] at h1 ⊢
    omega
theorem FL_at : ∀ (l : List Lg), Ok64 l → ∀ (i : Nat) (h : i < l.length), ((FL l).drop (70 * i)).take 70 = LC l[i]
  | x :: l, h, 0, _ => by
    have h2 := LC_len (h x (by simp))
    simp only [FL, List.flatMap_cons, Nat.mul_zero, List.drop_zero]
    rw [List.take_append_of_le_length (by omega), List.take_of_length_le (by omega)]; rfl
  | x :: l, h, i + 1, hi => by
    have h1 := FL_at l (fun y hy => h y (by simp [hy])) i (by simpa using hi)
    have h2 := LC_len (h x (by simp))
    simp only [FL, List.flatMap_cons] at h1 ⊢
    rw [show 70 * (i + 1) = (LC x).length + 70 * i by omega, List.drop_append]
    rw [List.drop_of_length_le (by omega), Nat.add_sub_cancel_left, List.nil_append, h1]; rfl
def SL (H : AHeap) (v : Value) (l : List Lg) : Prop :=
  (v = .slice none 0 0 ∧ l = []) ∨ ∃ b o room c, v = slc b o l.length l.length ∧ H.get b = some (.cells true room 70 c 54) ∧ c.drop o = FL l ∧ o ≤ c.length
theorem SL.chg {H H' : AHeap} {v : Value} {l : List Lg} {S : List Nat} (h : SL H v l) (k : Chg S H H') (hS : ∀ x ∈ blkL v, x ∉ S) : SL H' v l := by
  rcases h with h | ⟨b, o, room, c, rfl, h1, h2, h3⟩
  · exact .inl h
  · exact .inr ⟨b, o, room, c, rfl, k.at_ h1 (hS b (mem_blkL.2 rfl)), h2, h3⟩
theorem SL.lt {H : AHeap} {v : Value} {l : List Lg} (h : SL H v l) {b : Nat} (hb : blk v = some b) : b < H.n := by
  rcases h with ⟨rfl, _⟩ | ⟨b', o, room, c, rfl, h1, _⟩
  · cases hb
  · cases hb; exact AHeap.get_lt h1
theorem SL.at_ {H : AHeap} {v : Value} {l : List Lg} (h : SL H v l) (hk : Ok64 l) {i : Nat} (hi : i < l.length) : ∃ b o, v = slc b o l.length l.length ∧ rangeA H b (o + i * 70) 70 = some (LC l[i]) := by
  rcases h with ⟨_, rfl⟩ | ⟨b, o, room, c, rfl, h1, h2, h3⟩
  · simp at hi
  · refine ⟨b, o, rfl, ?_⟩
    have hl := congrArg List.length h2
    rw [List.length_drop, FL_len l hk] at hl
    rw [rangeA_of h1, if_pos (by omega), ← List.drop_drop, h2, Nat.mul_comm, FL_at l hk i hi]
theorem SL.app {H : AHeap} {v : Value} {l : List Lg} (h : SL H v l) (hk : Ok64 l) {x : Lg} (hx : x.s.t.length = 64) (hl : l.length ≤ 1000) :
    ∃ v' H', appA H 54 70 112 v 1 (LC x) = some (v', H') ∧ SL H' v' (l ++ [x]) ∧ Chg (blkL v) H H' ∧ blk v' = some H.n := by
  have hn : (l ++ [x]).length = l.length + 1 := by simp
  have hL := LC_len hx
  have hF : FL (l ++ [x]) = FL l ++ LC x := by rw [FL_app]; simp [FL]
  rcases h with ⟨rfl, rfl⟩ | ⟨b, o, room, c, rfl, h1, h2, h3⟩
  · refine ⟨slc H.n 0 1 1, H.alloc (.cells true true 70 (LC x) 54), ?_, .inr ⟨H.n, 0, true, LC x, rfl, AHeap.get_alloc_new H _, by rw [hF]; rfl, by omega⟩, ((Keeps.refl H).alloc _).chg _, rfl⟩
    simp only [appA]
    rw [if_pos ⟨trivial, trivial⟩, if_neg (by omega), if_pos (by omega)]
  · have hlc := congrArg List.length h2
    rw [List.length_drop, FL_len l hk] at hlc
    have htk : (c.drop o).take (l.length * 70) = FL l := by rw [h2, List.take_of_length_le (by rw [FL_len l hk]; omega)]
    cases room with
    | false =>
      refine ⟨slc H.n 0 (l.length + 1) (l.length + 1), H.alloc (.cells true true 70 (FL l ++ LC x) 54), ?_, .inr ⟨H.n, 0, true, _, by rw [hn], AHeap.get_alloc_new H _, by rw [List.drop_zero, hF], by omega⟩, ((Keeps.refl H).alloc _).chg _, rfl⟩
      simp only [appA, slc, h1, htk]
      rw [if_neg (by omega), if_pos (by omega), if_pos ⟨trivial, trivial, by omega⟩, if_neg (by omega), if_pos (Or.inl trivial)]
    | true =>
      have hb := AHeap.get_lt h1
      refine ⟨slc H.n 0 (l.length + 1) (l.length + 1), (H.set b .dead).alloc (.cells true true 70 (FL l ++ LC x) 54), ?_, .inr ⟨H.n, 0, true, _, by rw [hn], AHeap.get_alloc_new (H.set b .dead) _, by rw [List.drop_zero, hF], by omega⟩, ?_, rfl⟩
      · simp only [appA, slc, h1, htk]
        rw [if_neg (by omega), if_pos (by omega), if_pos ⟨trivial, trivial, by omega⟩, if_neg (by omega), if_neg (by rintro (h | h); cases h; omega)]
        rfl
      · exact ((Chg.set H hb _).trans (((Keeps.refl (H.set b .dead)).alloc _).chg []) (by simp)).mono (by intro z hz; simp at hz; rw [hz, mem_blkL]; rfl)
end Go.AM.Rp

set_option linter.unusedSimpArgs false
set_option linter.unusedVariables false
namespace Go.AM.Rp
open Go.Proofs
theorem SL.sh {H : AHeap} {v : Value} {l : List Lg} (h : SL H v l) : ∃ a, v = .slice a l.length l.length := by
  rcases h with ⟨rfl, rfl⟩ | ⟨b, o, room, c, rfl, _⟩
  · exact ⟨_, rfl⟩
  · exact ⟨_, rfl⟩
section
variable {P : Program} {ng : Nat} {fr tm : List Value} {H : AHeap} {KF : List Value → AHeap → Prop}
theorem sd_mm {d : Go.AM.D} {un : List Nat} {rd : List (AOper × List Nat)} {tr : List TE} (m : Bool) (x y : Value) : stD P ng (.mm m x y) d un rd fr tm H tr KF = goD P ng (.mm m x y) (asem (.mm m x y) H) d un rd fr tm H tr KF := stD_of d un rd (by simp) (by simp)
end
def SdS (H : AHeap) (s : Nat) (l : List Lg) (a : Nat) : Prop := ∃ v, H.get s = some (.cells true false 2 [v, .int .i64 a] 48) ∧ SL H v l ∧ blk v ≠ some s ∧ Ok64 l
def SdV (H : AHeap) (s : Nat) (v : Value) (l : List Lg) (a : Nat) : Prop := H.get s = some (.cells true false 2 [v, .int .i64 a] 48) ∧ SL H v l ∧ blk v ≠ some s ∧ Ok64 l
theorem SdV.s {H : AHeap} {s : Nat} {v : Value} {l : List Lg} {a : Nat} (h : SdV H s v l a) : SdS H s l a := ⟨v, h⟩
end Go.AM.Rp

set_option linter.unusedSimpArgs false
set_option linter.unusedVariables false
namespace Go.AM.Rp
open Go.Proofs
theorem Z78_split : Z78 = .int .u8 0 :: .int .i64 0 :: .int .i64 0 :: .int .i64 0 :: .int .i64 0 :: (Z68 ++ D5 0 0 0 0 (.slice none 0 0)) := by kernel_rfl
theorem Z68_len : Z68.length = 68 := by kernel_rfl
end Go.AM.Rp

set_option linter.unusedSimpArgs false
set_option linter.unusedVariables false
namespace Go.AM.Rp
open Go.Proofs
theorem t18 {H : AHeap} {v : Value} {n k : Nat} {c : List Value} (h : AP H 41 78 v n c) (hk : k < n) (hn : n ≤ 1000) :
    ∃ w H', ARun Try.prog 0 18 [v, .int .i64 k] H w H' ∧ AP H' 41 78 w (n - 1) (c.take (k * 78) ++ c.drop ((k + 1) * 78)) ∧ Keeps H H' ∧ Fresh H.n w := by
  refine walk2 f18_ok f18_n ?_
  intro Q hq1 hq2
  rcases h with ⟨_, rfl, _⟩ | ⟨b, room, rfl, hc, hb⟩
  · omega
  have s1 := a_slsl (o := 0) hb (bnd_none n n) (bnd_some .i64 k n n (by omega)) (bnd_none 0 k)
  have el1 : elemsA H 78 (slc b (0 + 0 * 78) (k - 0) (n - 0)) = some (c.take (k * 78)) := by
    simp only [elemsA, slc, hb, Nat.zero_mul, Nat.sub_zero, Nat.add_zero]
    rw [if_pos (by omega), List.drop_zero]
  simp only [f18, W_block, ANs, AOp.map, ↓reduceIte, Nat.reduceAdd, Nat.reduceEqDiff, reduceCtorEq, initFr, Nat.reduceLT, ANc, s1]
  refine appR (n := 0) (c := []) (.inl ⟨rfl, rfl, rfl⟩) ⟨_, _, rfl⟩ el1 (by rw [List.length_take]; omega) (by omega) ?_
  intro v1 H1 ap1 c1 hb1
  have k1 : Keeps H H1 := c1.keeps (by intro z hz; rw [mem_blkL] at hz; cases hz)
  have hbk := k1.at_ hb
  have f1 : Fresh H.n v1 := by
    intro z hz
    rcases hb1 with e | e
    · rw [e] at hz; cases hz
    · rw [e] at hz; cases hz; exact Nat.le_refl _
  have s2 := a_slsl (o := 0) hbk (bnd_none n n) (bnd_none n n) (bnd_some .i64 (k + 1) 0 n (by omega))
  have el2 : elemsA H1 78 (slc b (0 + (k + 1) * 78) (n - (k + 1)) (n - (k + 1))) = some (c.drop ((k + 1) * 78)) := by
    simp only [elemsA, slc, hbk, Nat.zero_add]
    rw [if_pos (by omega), List.take_of_length_le (by rw [List.length_drop]; omega)]
  simp only [W_block, ANs, AOp.map, ↓reduceIte, Nat.reduceAdd, Nat.reduceEqDiff, reduceCtorEq, initFr, Nat.reduceLT, ANc, wrap_succ (n := k) (by omega), s2]
  simp only [List.nil_append, Nat.zero_add, Nat.sub_zero] at ap1 el2
  refine appR ap1 ⟨_, _, rfl⟩ (by simpa using el2) (by rw [List.length_drop]; omega) (by omega) ?_
  intro v2 H2 ap2 c2 hb2
  simp only [W_block, ANs, AOp.map, ↓reduceIte, Nat.reduceAdd, Nat.reduceEqDiff, reduceCtorEq, initFr, Nat.reduceLT, ANc]
  have k2 : Keeps H H2 := k1.chg_trans c2 (by intro z hz; exact f1 z (mem_blkL.1 hz))
  refine hq2 _ _ ⟨_, rfl, ?_, k2, ?_⟩
  · have : k + (n - (k + 1)) = n - 1 := by omega
    rw [this] at ap2
    exact ap2
  · intro z hz
    change blk v2 = some z at hz
    rcases hb2 with e | e
    · rw [e] at hz; exact f1 z hz
    · rw [e] at hz; cases hz; exact k1.n
end Go.AM.Rp

set_option linter.unusedSimpArgs false
set_option linter.unusedVariables false
namespace Go.AM.Rp
open Go.Proofs
theorem SL.sl {H : AHeap} {v : Value} {l : List Lg} (h : SL H v l) (hk : Ok64 l) : Sl H 70 v (l.map LC) := by
  have hfl : (l.map LC).flatten = FL l := by simp [FL, List.flatMap_def]
  have hr : ∀ r ∈ l.map LC, r.length = 70 := by
    intro r hr; simp at hr; obtain ⟨y, hy, rfl⟩ := hr; exact LC_len (hk y hy)
  rcases h with ⟨rfl, rfl⟩ | ⟨b, o, room, c, rfl, h1, h2, h3⟩
  · exact Sl.nil H 70
  · refine ⟨⟨_, l.length, by rw [List.length_map]; rfl⟩, hr, ?_⟩
    have hl := congrArg List.length h2
    rw [List.length_drop, FL_len l hk] at hl
    simp only [elemsA, slc, h1, hfl]
    rw [if_pos (by omega), h2, List.take_of_length_le (by rw [FL_len l hk]; omega)]
def Rise (l : List Lg) : Prop := ∀ (i j : Nat) (hi : i < l.length) (hj : j < l.length), i < j → cmpL l[i] l[j] < 0
theorem cmpI_lt {a b : Int} : cmpI a b < 0 ↔ a < b := by unfold cmpI; split <;> first | omega | (split <;> omega)
theorem cmpI_eq {a b : Int} : cmpI a b = 0 ↔ a = b := by unfold cmpI; split <;> first | omega | (split <;> omega)
theorem cmpL_lt {x y : Lg} : cmpL x y < 0 ↔ x.e < y.e ∨ x.e = y.e ∧ x.c < y.c := by
  have h1 := @cmpI_lt x.e y.e
  have h2 := @cmpI_eq x.e y.e
  have h3 := @cmpI_lt x.c y.c
  unfold cmpL
  by_cases h : cmpI x.e y.e = 0
  · simp only [h, ne_eq, not_true_eq_false, if_false]; omega
  · rw [if_pos h]; omega
end Go.AM.Rp

set_option linter.unusedSimpArgs false
set_option linter.unusedVariables false
namespace Go.AM.Rp
open Go.Proofs
theorem GC_0 (m : Msg) (v : Value) : (GC m v)[0]? = some (.int .u8 m.k) := rfl
theorem GC_1 (m : Msg) (v : Value) : (GC m v)[1]? = some (.int .i64 m.e) := rfl
theorem GC_2 (m : Msg) (v : Value) : (GC m v)[2]? = some (.int .i64 m.c) := rfl
theorem GC_3 (m : Msg) (v : Value) : (GC m v)[3]? = some (.int .i64 m.be) := rfl
theorem GC_4 (m : Msg) (v : Value) : (GC m v)[4]? = some (.int .i64 m.b) := rfl
end Go.AM.Rp

set_option linter.unusedSimpArgs false
set_option linter.unusedVariables false
namespace Go.AM.Rp
open Go.Proofs
structure Pre where
  l : List Value
  len : l.length = 73
  one : l.all Value.oneCell' = true
def MP (p : Pre) (d : D) (v : Value) : List Value := p.l ++ [.int .u64 d.a, .int .u64 d.b, .int .u64 d.c, .int .u32 d.p, v]
theorem MP_at (p : Pre) (d : D) (v : Value) (k : Nat) : (MP p d v)[73 + k]? = ([.int .u64 d.a, .int .u64 d.b, .int .u64 d.c, .int .u32 d.p, v] : List Value)[k]? := by
  rw [MP, List.getElem?_append_right (by rw [p.len]; omega), p.len, Nat.add_sub_cancel_left]
theorem n73 (p : Pre) (d : D) (v : Value) : (MP p d v)[73]? = some (.int .u64 d.a) := MP_at p d v 0
theorem n74 (p : Pre) (d : D) (v : Value) : (MP p d v)[74]? = some (.int .u64 d.b) := MP_at p d v 1
theorem n75 (p : Pre) (d : D) (v : Value) : (MP p d v)[75]? = some (.int .u64 d.c) := MP_at p d v 2
theorem n76 (p : Pre) (d : D) (v : Value) : (MP p d v)[76]? = some (.int .u32 d.p) := MP_at p d v 3
theorem n77 (p : Pre) (d : D) (v : Value) : (MP p d v)[77]? = some v := MP_at p d v 4
theorem MP_len (p : Pre) (d : D) (v : Value) : (MP p d v).length = 78 := by rw [MP, List.length_append, p.len]; rfl
theorem MP_set (p : Pre) (d : D) (v : Value) (k : Nat) (x : Value) : (MP p d v).set (73 + k) x = p.l ++ ([.int .u64 d.a, .int .u64 d.b, .int .u64 d.c, .int .u32 d.p, v] : List Value).set k x := by
  rw [MP, List.set_append_right _ _ (by rw [p.len]; omega), p.len, Nat.add_sub_cancel_left]
theorem MP_set73 (p : Pre) (d : D) (v : Value) (n : Nat) : (MP p d v).set 73 (.int .u64 n) = MP p { d with a := n } v := MP_set p d v 0 _
theorem MP_set74 (p : Pre) (d : D) (v : Value) (n : Nat) : (MP p d v).set 74 (.int .u64 n) = MP p { d with b := n } v := MP_set p d v 1 _
theorem MP_set75 (p : Pre) (d : D) (v : Value) (n : Nat) : (MP p d v).set 75 (.int .u64 n) = MP p { d with c := n } v := MP_set p d v 2 _
theorem MP_set76 (p : Pre) (d : D) (v : Value) (n : Nat) : (MP p d v).set 76 (.int .u32 n) = MP p { d with p := n } v := MP_set p d v 3 _
theorem MP_set77 (p : Pre) (d : D) (v w : Value) : (MP p d v).set 77 w = MP p d w := MP_set p d v 4 w
def Mz (p : Pre) : List Value := MP p ⟨0, 0, 0, 0, []⟩ (.slice none 0 0)
def pre (m : Msg) (h : m.s.t.length = 64) : Pre := ⟨.int .u8 m.k :: .int .i64 m.e :: .int .i64 m.c :: .int .i64 m.be :: .int .i64 m.b :: SC m.s, by simp [SC_len h], by simp only [List.all_cons, SC_one, one_int]; rfl⟩
end Go.AM.Rp

set_option linter.unusedSimpArgs false
set_option linter.unusedVariables false
namespace Go.AM.Rp
open Nat (reduceAdd reduceEqDiff reduceLT reduceLeDiff reduceMul reduceSub)
open Go.Proofs
section
variable {m : Msg} (hm : m.s.t.length = 64) (v w : Value)
include hm
theorem GC_73 : (GC m v)[73]? = some (.int .u64 m.d.a) := n73 (pre m hm) m.d v
theorem GC_74 : (GC m v)[74]? = some (.int .u64 m.d.b) := n74 (pre m hm) m.d v
theorem GC_75 : (GC m v)[75]? = some (.int .u64 m.d.c) := n75 (pre m hm) m.d v
theorem GC_76 : (GC m v)[76]? = some (.int .u32 m.d.p) := n76 (pre m hm) m.d v
theorem GC_77 : (GC m v)[77]? = some v := n77 (pre m hm) m.d v
theorem GC_set77 : (GC m v).set 77 w = GC m w := MP_set77 (pre m hm) m.d v w
end
theorem a_eqSn {m : Msg} (hm : m.s.t.length = 64) (H : AHeap) : asem (.eqs O68 true (.agg (SC m.s).toArray) (.agg (SC m.s).toArray)) H = some (.bool false, H) := by
  have e := eqCs_self (SC m.s) (SC_ints m.s)
  rw [SC_len hm] at e
  have e2 : eqCs O68 (SC m.s) (SC m.s) = some true := e
  simp only [asem, e2]; rfl
theorem fill_set1 {c : List Value} {o : Nat} {v : Value} {r : List (Nat × Nat × Value)} (hv : v.cells.toList = [v]) (ho : o < c.length) : fillA c ((o, 1, v) :: r) = fillA (c.set o v) r := by
  rw [fill_cons, hv, if_pos ⟨rfl, by omega⟩, List.set_eq_take_append_cons_drop, if_pos ho]
  simp
theorem flG6 {m : Msg} (hm : m.s.t.length = 64) (r : List (Nat × Nat × Value)) : fillA Z78 ((0, 1, .int .u8 m.k) :: (1, 1, .int .i64 m.e) :: (2, 1, .int .i64 m.c) :: (3, 1, .int .i64 m.be) :: (4, 1, .int .i64 m.b) :: (5, 68, .agg (SC m.s).toArray) :: r) = fillA (Mz (pre m hm)) r := by
  have h3 : (Value.agg (SC m.s).toArray).cells.toList = SC m.s := by simp [Value.cells]
  have hl2 := Z68_len
  have hl := SC_len hm
  have hz := Z78_split
  generalize Z68 = z at *
  rw [hz]
  rw [fill_set1 rfl (by simp), fill_set1 rfl (by simp), fill_set1 rfl (by simp), fill_set1 rfl (by simp), fill_set1 rfl (by simp)]
  simp only [List.set_cons_zero, List.set_cons_succ]
  rw [fill_cons, h3, if_pos ⟨hl, by simp [hl2]⟩]
  congr 1
  simp only [List.take_succ_cons, List.take_zero, List.drop_succ_cons, Nat.reduceAdd]
  rw [List.drop_append_of_le_length (by omega), List.drop_of_length_le (by omega)]
  rfl
theorem flG {m : Msg} (hm : m.s.t.length = 64) : fillA Z78 [(0, 1, .int .u8 m.k), (1, 1, .int .i64 m.e), (2, 1, .int .i64 m.c), (3, 1, .int .i64 m.be), (4, 1, .int .i64 m.b), (5, 68, .agg (SC m.s).toArray), (73, 1, .int .u64 m.d.a), (74, 1, .int .u64 m.d.b), (75, 1, .int .u64 m.d.c), (76, 1, .int .u32 m.d.p)] = some (GC m (.slice none 0 0)) := by
  rw [flG6 hm]
  unfold Mz
  rw [fill_set1 rfl (by rw [MP_len]; omega), MP_set73, fill_set1 rfl (by rw [MP_len]; omega), MP_set74, fill_set1 rfl (by rw [MP_len]; omega), MP_set75, fill_set1 rfl (by rw [MP_len]; omega), MP_set76, fill0]
  rfl
theorem t13g {H : AHeap} {m : Msg} (hm : m.s.t.length = 64) {v v' : Value} {l : List (Int × Int)} (h : TB H v l) (h' : TB H v' l) (hl : l.length ≤ 100000) : ∃ r H', ARun Try.prog 0 13 [.agg (GC m v).toArray, .agg (GC m v').toArray] H r H' ∧ r = .bool true ∧ Keeps H H' := by
  refine walk2 f13_ok f13_n ?_
  intro Q hq1 hq2
  have hc1 : (Value.agg (GC m v).toArray).cells.toList = GC m v := by simp [Value.cells]
  have hc2 : (Value.agg (GC m v').toArray).cells.toList = GC m v' := by simp [Value.cells]
  obtain ⟨Ha, hHa⟩ : ∃ X, X = H.alloc (.cells true false 78 (GC m v) 38) := ⟨_, rfl⟩
  have ka := (Keeps.refl H).alloc (.cells true false 78 (GC m v) 38)
  have ga := AHeap.get_alloc_new H (.cells true false 78 (GC m v) 38)
  rw [← hHa] at ka ga
  obtain ⟨Hb, hHb⟩ : ∃ X, X = Ha.alloc (.cells true false 78 (GC m v') 38) := ⟨_, rfl⟩
  have kb := (Keeps.refl Ha).alloc (.cells true false 78 (GC m v') 38)
  have gb := AHeap.get_alloc_new Ha (.cells true false 78 (GC m v') 38)
  rw [← hHb] at kb gb
  have ga := kb.at_ ga
  have k2 := ka.trans kb
  have hb := h.keeps k2
  have hb' := h'.keeps k2
  have l1 : asem (.len false v) Hb = some (.int .i64 l.length, Hb) := by obtain ⟨a, k, hv, _⟩ := h; rw [hv]; rfl
  have l2 : asem (.len false v') Hb = some (.int .i64 l.length, Hb) := by obtain ⟨a, k, hv, _⟩ := h'; rw [hv]; rfl
  simp only [f13, W_block, ANs, AOp.map, ↓reduceIte, Nat.reduceAdd, Nat.reduceEqDiff, reduceCtorEq, initFr, Nat.reduceLT, ANc, bi_u, hc1, hc2, GC_one m h.one, GC_one m h'.one, ← hHa, ← hHb, cellA_of ga, cellA_of gb, GC_0, GC_1, GC_2, GC_3, GC_4, GC_s hm ga, GC_s hm gb, st_eqs, a_eqSn hm, GC_73 hm, GC_74 hm, GC_75 hm, GC_76 hm, GC_77 hm, l1, l2, bne_self_eq_false]
  refine W_loop2 (fun q fr H2 => ∃ (i : Nat) (y7 y8 : Value), fr = [.agg (GC m v).toArray, .agg (GC m v').toArray, ptr H.n 0, ptr Ha.n 0, .bool false, .int .i64 i, .bool false, y7, y8] ∧ i ≤ l.length ∧ q = l.length - i ∧ H2 = Hb) l.length ?_ ?_
  · exact ⟨0, _, _, rfl, by omega, by omega, rfl⟩
  · rintro Q' q fr H2 ⟨i, y7, y8, rfl, h1, rfl, rfl⟩ hnext hexit hret
    by_cases hi : i < l.length
    · obtain ⟨b, k', e1, e2, _⟩ := hb.at_ hi
      obtain ⟨b', k'', f1, f2, _⟩ := hb'.at_ hi
      have m77' : (GC m v)[77]? = some (slc b 0 l.length k') := by rw [GC_77 hm, e1]
      have m77'' : (GC m v')[77]? = some (slc b' 0 l.length k'') := by rw [GC_77 hm, f1]
      simp only [W_block, ANs, AOp.map, ↓reduceIte, Nat.reduceAdd, Nat.reduceEqDiff, reduceCtorEq, initFr, Nat.reduceLT, ANc, cellA_of ga, cellA_of gb, m77', m77'', show (i : Int) < (l.length : Int) by omega, decide_true, show (0 : Int) ≤ (i : Int) by omega, e2, f2, sd_eqs, a_eq2, wrap_succ (n := i) (by omega)]
      exact hnext _ _ _ ⟨i + 1, _, _, rfl, by omega, rfl, rfl⟩ (by omega)
    · simp only [W_block, ANs, AOp.map, ↓reduceIte, Nat.reduceAdd, Nat.reduceEqDiff, reduceCtorEq, initFr, Nat.reduceLT, ANc, cellA_of ga, GC_77 hm, l1, show ¬ (i : Int) < (l.length : Int) by omega, decide_false]
      refine hexit _ _ _ ?_
      simp only [W_block, ANs, AOp.map, ↓reduceIte, Nat.reduceAdd, Nat.reduceEqDiff, reduceCtorEq, initFr, Nat.reduceLT, ANc]
      exact hq2 _ _ ⟨_, rfl, rfl, k2⟩
theorem t12g {H : AHeap} {m : Msg} (hm : m.s.t.length = 64) {v : Value} (h : TB H v m.d.l) (hl : m.d.l.length ≤ 100000) : ∃ r H', ARun Try.prog 0 12 [.agg (GC m v).toArray] H r H' ∧ Keeps H H' ∧ ∃ w, r = .agg (GC m w).toArray ∧ TB H' w m.d.l ∧ Fresh H.n w := by
  refine walk2 f12_ok f12_n ?_
  intro Q hq1 hq2
  have hc1 : (Value.agg (GC m v).toArray).cells.toList = GC m v := by simp [Value.cells]
  obtain ⟨Ha, hHa⟩ : ∃ X, X = H.alloc (.cells true false 78 (GC m v) 41) := ⟨_, rfl⟩
  have ka := (Keeps.refl H).alloc (.cells true false 78 (GC m v) 41)
  have ga := AHeap.get_alloc_new H (.cells true false 78 (GC m v) 41)
  rw [← hHa] at ka ga
  have na : Ha.n = H.n + 1 := by rw [hHa]; rfl
  obtain ⟨Hb, hHb⟩ : ∃ X, X = Ha.alloc (.cells true false 78 Z78 38) := ⟨_, rfl⟩
  have kb := (Keeps.refl Ha).alloc (.cells true false 78 Z78 38)
  have gb := AHeap.get_alloc_new Ha (.cells true false 78 Z78 38)
  rw [← hHb] at kb gb
  have nb : Hb.n = H.n + 2 := by rw [hHb, alloc_n, na]
  have ga := kb.at_ ga
  have z78 : Z78.all Value.oneCell' = true := rfl
  have fl := flG hm
  have vc : asem (.storen 78 (ptr Hb.n 0) (.agg (GC m (.slice none 0 0)).toArray)) (Hb.alloc (.cells true false 78 Z78 38)) = some (undef, Hb.alloc (.cells true false 78 (GC m (.slice none 0 0)) 38)) := by
    have := a_var (H := Hb) (n := 78) (room := false) (esz := 78) (e := 38) (c := Z78) (xs := (GC m (.slice none 0 0)).toArray) rfl (by simpa using GC_len hm (.slice none 0 0)) (by simpa using GC_one m (v := .slice none 0 0) rfl)
    simpa using this
  obtain ⟨Hc, hHc⟩ : ∃ X, X = Hb.alloc (.cells true false 78 (GC m (.slice none 0 0)) 38) := ⟨_, rfl⟩
  have kc := (Keeps.refl Hb).alloc (.cells true false 78 (GC m (.slice none 0 0)) 38)
  have gc := AHeap.get_alloc_new Hb (.cells true false 78 (GC m (.slice none 0 0)) 38)
  rw [← hHc] at kc gc vc
  have nc : Hc.n = H.n + 3 := by rw [hHc, alloc_n, nb]
  have ga := kc.at_ ga
  have gb2 := kc.at_ gb
  have kAll := (ka.trans kb).trans kc
  have gaB : Hb.get H.n = some (.cells true false 78 (GC m v) 41) := kb.at_ (by rw [hHa]; exact AHeap.get_alloc_new H _)
  have hlen : ∀ X, asem (.len false v) X = some (.int .i64 m.d.l.length, X) := by obtain ⟨a, k, hv, _⟩ := h; intro X; rw [hv]; rfl
  simp only [f12, W_block, ANs, AOp.map, ↓reduceIte, Nat.reduceAdd, Nat.reduceEqDiff, reduceCtorEq, initFr, Nat.reduceLT, ANc, hc1, GC_one m h.one, ← hHa, ← hHb, z78, cellA_of gaB, GC_0, GC_1, GC_2, GC_3, GC_4, GC_s hm gaB, GC_73 hm, GC_74 hm, GC_75 hm, GC_76 hm, fl, vc]
  refine W_loop2 (fun q fr H2 => ∃ (i : Nat) (w y5 : Value), fr = [.agg (GC m v).toArray, ptr H.n 0, ptr Ha.n 0, ptr Hb.n 0, .int .i64 i, y5] ∧ i ≤ m.d.l.length ∧ q = m.d.l.length - i ∧ Keeps H H2 ∧ Hc.n ≤ H2.n ∧ H2.get H.n = some (.cells true false 78 (GC m v) 41) ∧ H2.get Ha.n = some (.cells true false 78 Z78 38) ∧
    H2.get Hb.n = some (.cells true false 78 (GC m w) 38) ∧ AP H2 92 2 w i (TC (m.d.l.take i)) ∧ Fresh Hc.n w) m.d.l.length ?_ ?_
  · exact ⟨0, _, _, rfl, by omega, by omega, kAll, Nat.le_refl _, ga, gb2, gc, .inl ⟨rfl, rfl, by simp [TC]⟩, fun b hb => by cases hb⟩
  · rintro Q' q fr H2 ⟨i, w, y5, rfl, h1, rfl, k2, n2, g1, g2, g3, ap, fw⟩ hnext hexit hret
    by_cases hi : i < m.d.l.length
    · obtain ⟨b, k', f1, f2, f3, f4⟩ := (h.keeps k2).at_ hi
      have ht : m.d.l.take (i + 1) = m.d.l.take i ++ [m.d.l[i]] := List.take_succ_eq_append_getElem hi
      generalize m.d.l[i] = x at *
      have m77' : (GC m v)[77]? = some (slc b 0 m.d.l.length k') := by rw [GC_77 hm, f1]
      have lw : ∀ z ∈ blkL w, Hc.n ≤ z ∧ z < H2.n := fun z hz => ⟨fw z (mem_blkL.1 hz), ap.lt (mem_blkL.1 hz)⟩
      have k3 := (Keeps.refl H2).alloc (.cells true false 2 [.int .i64 x.1, .int .u8 x.2] 92)
      have g4 := AHeap.get_alloc_new H2 (.cells true false 2 [.int .i64 x.1, .int .u8 x.2] 92)
      obtain ⟨H3, hH3⟩ : ∃ X, X = H2.alloc (.cells true false 2 [.int .i64 x.1, .int .u8 x.2] 92) := ⟨_, rfl⟩
      have hbsl := bsl 92 x.1 x.2 H2
      rw [← hH3] at k3 g4 hbsl
      have n3 : H3.n = H2.n + 1 := by rw [hH3]; rfl
      simp only [W_block, ANs, AOp.map, ↓reduceIte, Nat.reduceAdd, Nat.reduceEqDiff, reduceCtorEq, initFr, Nat.reduceLT, ANc, cellA_of g1, cellA_of g3, GC_77 hm w, m77', hlen, show (i : Int) < (m.d.l.length : Int) by omega, decide_true, show (0 : Int) ≤ (i : Int) by omega, f3, f4, fl2, hbsl]
      refine appD (ap.keeps k3) ⟨_, _, rfl⟩ (elems_own g4 rfl) rfl (by omega) ?_
      intro w' H4 ap4 c4 hbw
      have n4 := c4.n
      have g1' := c4.at_ (k3.at_ g1) (fun hz => by have := lw _ hz; omega)
      have g2' := c4.at_ (k3.at_ g2) (fun hz => by have := lw _ hz; omega)
      have g3' := c4.at_ (k3.at_ g3) (fun hz => by have := lw _ hz; omega)
      have st : asem (.store1 (ptr Hb.n 77) w') H4 = some (undef, H4.set Hb.n (.cells true false 78 (GC m w') 38)) := by
        rw [a_st g3' (by rw [GC_len hm]; omega) (by obtain ⟨a, e⟩ := ap4.shape; rw [e]; rfl), GC_set77 hm]
      have d5 := Chg.set H4 (b := Hb.n) (AHeap.get_lt g3') (.cells true false 78 (GC m w') 38)
      simp only [W_block, ANs, AOp.map, ↓reduceIte, Nat.reduceAdd, Nat.reduceEqDiff, reduceCtorEq, initFr, Nat.reduceLT, ANc, st, wrap_succ (n := i) (by omega)]
      refine hnext _ _ _ ⟨i + 1, w', _, rfl, by omega, rfl, (((k2.trans k3).chg_trans c4 (fun z hz => by have := lw z hz; omega))).chg_trans d5 (by simp; omega), by have := d5.n; omega, d5.at_ g1' (by simp; omega), d5.at_ g2' (by simp; omega), get1 g3' _, ?_, ?_⟩ (by omega)
      · rw [ht, TC_app]
        refine ap4.chg d5 (fun z hz => ?_)
        rcases hbw with e | e
        · have := lw z (by rw [mem_blkL] at hz ⊢; rw [← e]; exact hz)
          simp; omega
        · rw [mem_blkL, e] at hz; cases hz; simp; omega
      · intro z hz
        rcases hbw with e | e
        · rw [e] at hz; exact fw z hz
        · rw [e] at hz; cases hz; omega
    · simp only [W_block, ANs, AOp.map, ↓reduceIte, Nat.reduceAdd, Nat.reduceEqDiff, reduceCtorEq, initFr, Nat.reduceLT, ANc, cellA_of g1, GC_77 hm, hlen, show ¬ (i : Int) < (m.d.l.length : Int) by omega, decide_false]
      refine hexit _ _ _ ?_
      have hie : i = m.d.l.length := by omega
      subst hie
      rw [List.take_length] at ap
      obtain ⟨aw, ew⟩ := ap.shape
      have st := stAll g2 rfl (GC_len hm w) (GC_one m (by rw [ew]; rfl))
      simp only [W_block, ANs, AOp.map, ↓reduceIte, Nat.reduceAdd, Nat.reduceEqDiff, reduceCtorEq, initFr, Nat.reduceLT, ANc, full g3 (GC_len hm w), st]
      have d5 := Chg.set H2 (b := Ha.n) (AHeap.get_lt g2) (.cells true false 78 (GC m w) 38)
      refine hq2 _ _ ⟨_, resC1 78 2 (b := Ha.n) rfl (full (get1 g2 _) (GC_len hm w)), k2.chg_trans d5 (by simp; omega), w, rfl, TB.of_ap (ap.chg d5 (fun z hz => by
        have := fw z (mem_blkL.1 hz)
        simp; omega)), fun z hz => by have := fw z hz; omega⟩
end Go.AM.Rp

set_option linter.unusedSimpArgs false
set_option linter.unusedVariables false
namespace Go.AM.Rp
open Go.Proofs
def inI (n : Int) : Bool := decide (0 ≤ n) && decide (n ≤ 1099511627776)
theorem inB4_eq (a b c d : Int) : inB [a, b, c, d] = (inI a && inI b && inI c && inI d) := by
  have h1 : ∀ x y : Int, (if y < x then y else x) = min x y := by intro x y; split <;> omega
  have h2 : ∀ x y : Int, (if y > x then y else x) = max x y := by intro x y; split <;> omega
  rw [Bool.eq_iff_iff]
  simp only [inB, inI, Bool.and_eq_true, decide_eq_true_eq, mn, mx, List.foldl, h1, h2]
  omega
theorem t68 (H : AHeap) (n : Int) : ∃ v H', ARun Try.prog 0 68 [.int .i64 n] H v H' ∧ v = .bool (inI n) ∧ H' = H := by
  refine walk2 f68_ok f68_n ?_
  intro Q hq1 hq2
  by_cases h : 0 ≤ n
  · simp (disch := (first | assumption | omega | (simp only [alloc_n, set_n] <;> omega) | (simp (disch := (first | assumption | omega | (simp only [alloc_n, set_n] <;> omega))) only [row_alloc, row_set]; assumption))) only [f68, W_block, ANs, A3s, AOp.map, ↓reduceIte, Nat.reduceAdd, Nat.reduceEqDiff, reduceCtorEq, initFr, Nat.reduceLT, clsA, List.take, List.drop, Nat.reduceLeDiff, Nat.reduceMul, Nat.reduceSub, reduceIte, ANc, A3c]
    exact hq2 _ _ ⟨_, rfl, by show Value.bool _ = _; simp [inI, h], rfl⟩
  · simp (disch := (first | assumption | omega | (simp only [alloc_n, set_n] <;> omega) | (simp (disch := (first | assumption | omega | (simp only [alloc_n, set_n] <;> omega))) only [row_alloc, row_set]; assumption))) only [f68, W_block, ANs, A3s, AOp.map, ↓reduceIte, Nat.reduceAdd, Nat.reduceEqDiff, reduceCtorEq, initFr, Nat.reduceLT, clsA, List.take, List.drop, Nat.reduceLeDiff, Nat.reduceMul, Nat.reduceSub, reduceIte, ANc, A3c]
    exact hq2 _ _ ⟨_, rfl, by show Value.bool _ = _; simp [inI, h], rfl⟩
theorem t61 {H : AHeap} {m : Msg} {v : Value} (hs : m.s.t.length = 64) (h : TB H v m.d.l) (hl : m.d.l.length ≤ 100000) : ∃ r H', ARun Try.prog 0 61 [.agg (GC m v).toArray] H r H' ∧ r = .bool (mayB m) ∧ Keeps H H' := by
  refine walk2 f61_ok f61_n ?_
  intro Q hq1 hq2
  have k := (Keeps.refl H).alloc (.cells true false 78 (GC m v) 38)
  have og := GC_one m h.one
  unfold mayB at hq2
  rw [inB4_eq] at hq2
  simp (disch := (first | assumption | omega | (simp only [alloc_n, set_n] <;> omega) | (simp (disch := (first | assumption | omega | (simp only [alloc_n, set_n] <;> omega))) only [row_alloc, row_set]; assumption))) only [f61, W_block, ANs, A3s, AOp.map, ↓reduceIte, Nat.reduceAdd, Nat.reduceEqDiff, reduceCtorEq, initFr, Nat.reduceLT, clsA, List.take, List.drop, Nat.reduceLeDiff, Nat.reduceMul, Nat.reduceSub, reduceIte, ANc, A3c, og, GC_0]
  by_cases h1 : 1 ≤ m.k
  case neg =>
    simp only [h1, decide_false, Bool.false_and] at hq2
    simp (disch := (first | assumption | omega | (simp only [alloc_n, set_n] <;> omega) | (simp (disch := (first | assumption | omega | (simp only [alloc_n, set_n] <;> omega))) only [row_alloc, row_set]; assumption))) only [W_block, ANs, A3s, AOp.map, ↓reduceIte, Nat.reduceAdd, Nat.reduceEqDiff, reduceCtorEq, initFr, Nat.reduceLT, clsA, List.take, List.drop, Nat.reduceLeDiff, Nat.reduceMul, Nat.reduceSub, reduceIte, ANc, A3c]
    exact hq2 _ _ ⟨_, rfl, rfl, k⟩
  by_cases h2 : m.k ≤ 4
  case neg =>
    simp only [h1, h2, decide_false, decide_true, Bool.false_and, Bool.and_false] at hq2
    simp (disch := (first | assumption | omega | (simp only [alloc_n, set_n] <;> omega) | (simp (disch := (first | assumption | omega | (simp only [alloc_n, set_n] <;> omega))) only [row_alloc, row_set]; assumption))) only [W_block, ANs, A3s, AOp.map, ↓reduceIte, Nat.reduceAdd, Nat.reduceEqDiff, reduceCtorEq, initFr, Nat.reduceLT, clsA, List.take, List.drop, Nat.reduceLeDiff, Nat.reduceMul, Nat.reduceSub, reduceIte, ANc, A3c, GC_0]
    exact hq2 _ _ ⟨_, rfl, rfl, k⟩
  simp only [h1, h2, decide_true, Bool.true_and] at hq2
  simp (disch := (first | assumption | omega | (simp only [alloc_n, set_n] <;> omega) | (simp (disch := (first | assumption | omega | (simp only [alloc_n, set_n] <;> omega))) only [row_alloc, row_set]; assumption))) only [W_block, ANs, A3s, AOp.map, ↓reduceIte, Nat.reduceAdd, Nat.reduceEqDiff, reduceCtorEq, initFr, Nat.reduceLT, clsA, List.take, List.drop, Nat.reduceLeDiff, Nat.reduceMul, Nat.reduceSub, reduceIte, ANc, A3c, GC_0, GC_1]
  refine callK (t68 _ m.e) ?_
  rintro _ K ⟨rfl, rfl⟩
  cases e1 : inI m.e
  · simp only [e1, Bool.false_and] at hq2
    simp (disch := (first | assumption | omega | (simp only [alloc_n, set_n] <;> omega) | (simp (disch := (first | assumption | omega | (simp only [alloc_n, set_n] <;> omega))) only [row_alloc, row_set]; assumption))) only [W_block, ANs, A3s, AOp.map, ↓reduceIte, Nat.reduceAdd, Nat.reduceEqDiff, reduceCtorEq, initFr, Nat.reduceLT, clsA, List.take, List.drop, Nat.reduceLeDiff, Nat.reduceMul, Nat.reduceSub, reduceIte, ANc, A3c]
    exact hq2 _ _ ⟨_, rfl, rfl, k⟩
  simp (disch := (first | assumption | omega | (simp only [alloc_n, set_n] <;> omega) | (simp (disch := (first | assumption | omega | (simp only [alloc_n, set_n] <;> omega))) only [row_alloc, row_set]; assumption))) only [W_block, ANs, A3s, AOp.map, ↓reduceIte, Nat.reduceAdd, Nat.reduceEqDiff, reduceCtorEq, initFr, Nat.reduceLT, clsA, List.take, List.drop, Nat.reduceLeDiff, Nat.reduceMul, Nat.reduceSub, reduceIte, ANc, A3c, GC_2]
  refine callK (t68 _ m.c) ?_
  rintro _ K ⟨rfl, rfl⟩
  cases e2 : inI m.c
  · simp only [e1, e2, Bool.false_and, Bool.and_false] at hq2
    simp (disch := (first | assumption | omega | (simp only [alloc_n, set_n] <;> omega) | (simp (disch := (first | assumption | omega | (simp only [alloc_n, set_n] <;> omega))) only [row_alloc, row_set]; assumption))) only [W_block, ANs, A3s, AOp.map, ↓reduceIte, Nat.reduceAdd, Nat.reduceEqDiff, reduceCtorEq, initFr, Nat.reduceLT, clsA, List.take, List.drop, Nat.reduceLeDiff, Nat.reduceMul, Nat.reduceSub, reduceIte, ANc, A3c]
    exact hq2 _ _ ⟨_, rfl, rfl, k⟩
  simp (disch := (first | assumption | omega | (simp only [alloc_n, set_n] <;> omega) | (simp (disch := (first | assumption | omega | (simp only [alloc_n, set_n] <;> omega))) only [row_alloc, row_set]; assumption))) only [W_block, ANs, A3s, AOp.map, ↓reduceIte, Nat.reduceAdd, Nat.reduceEqDiff, reduceCtorEq, initFr, Nat.reduceLT, clsA, List.take, List.drop, Nat.reduceLeDiff, Nat.reduceMul, Nat.reduceSub, reduceIte, ANc, A3c, GC_3]
  refine callK (t68 _ m.be) ?_
  rintro _ K ⟨rfl, rfl⟩
  cases e3 : inI m.be
  · simp only [e1, e2, e3, Bool.false_and, Bool.and_false] at hq2
    simp (disch := (first | assumption | omega | (simp only [alloc_n, set_n] <;> omega) | (simp (disch := (first | assumption | omega | (simp only [alloc_n, set_n] <;> omega))) only [row_alloc, row_set]; assumption))) only [W_block, ANs, A3s, AOp.map, ↓reduceIte, Nat.reduceAdd, Nat.reduceEqDiff, reduceCtorEq, initFr, Nat.reduceLT, clsA, List.take, List.drop, Nat.reduceLeDiff, Nat.reduceMul, Nat.reduceSub, reduceIte, ANc, A3c]
    exact hq2 _ _ ⟨_, rfl, rfl, k⟩
  simp (disch := (first | assumption | omega | (simp only [alloc_n, set_n] <;> omega) | (simp (disch := (first | assumption | omega | (simp only [alloc_n, set_n] <;> omega))) only [row_alloc, row_set]; assumption))) only [W_block, ANs, A3s, AOp.map, ↓reduceIte, Nat.reduceAdd, Nat.reduceEqDiff, reduceCtorEq, initFr, Nat.reduceLT, clsA, List.take, List.drop, Nat.reduceLeDiff, Nat.reduceMul, Nat.reduceSub, reduceIte, ANc, A3c, GC_4]
  refine callK (t68 _ m.b) ?_
  rintro _ K ⟨rfl, rfl⟩
  cases e4 : inI m.b
  · simp only [e1, e2, e3, e4, Bool.false_and, Bool.and_false] at hq2
    simp (disch := (first | assumption | omega | (simp only [alloc_n, set_n] <;> omega) | (simp (disch := (first | assumption | omega | (simp only [alloc_n, set_n] <;> omega))) only [row_alloc, row_set]; assumption))) only [W_block, ANs, A3s, AOp.map, ↓reduceIte, Nat.reduceAdd, Nat.reduceEqDiff, reduceCtorEq, initFr, Nat.reduceLT, clsA, List.take, List.drop, Nat.reduceLeDiff, Nat.reduceMul, Nat.reduceSub, reduceIte, ANc, A3c]
    exact hq2 _ _ ⟨_, rfl, rfl, k⟩
  simp only [e1, e2, e3, e4, Bool.true_and] at hq2
  simp (disch := (first | assumption | omega | (simp only [alloc_n, set_n] <;> omega) | (simp (disch := (first | assumption | omega | (simp only [alloc_n, set_n] <;> omega))) only [row_alloc, row_set]; assumption))) only [W_block, ANs, A3s, AOp.map, ↓reduceIte, Nat.reduceAdd, Nat.reduceEqDiff, reduceCtorEq, initFr, Nat.reduceLT, clsA, List.take, List.drop, Nat.reduceLeDiff, Nat.reduceMul, Nat.reduceSub, reduceIte, ANc, A3c, GC_77 hs]
  refine callK (t32 (h.keeps k) hl) ?_
  rintro _ K ⟨rfl, rfl⟩
  simp (disch := (first | assumption | omega | (simp only [alloc_n, set_n] <;> omega) | (simp (disch := (first | assumption | omega | (simp only [alloc_n, set_n] <;> omega))) only [row_alloc, row_set]; assumption))) only [W_block, ANs, A3s, AOp.map, ↓reduceIte, Nat.reduceAdd, Nat.reduceEqDiff, reduceCtorEq, initFr, Nat.reduceLT, clsA, List.take, List.drop, Nat.reduceLeDiff, Nat.reduceMul, Nat.reduceSub, reduceIte, ANc, A3c]
  exact hq2 _ _ ⟨_, rfl, rfl, k⟩
end Go.AM.Rp

set_option linter.unusedSimpArgs false
set_option linter.unusedVariables false
namespace Go.AM.Rp
open Go.Proofs
def gO (O : List Lg) (i : Nat) : Lg := O.getD i L0
theorem gO_at {O : List Lg} {i : Nat} (h : i < O.length) : O[i] = gO O i := by simp [gO, h]
def wholeM (x : Lg) : Msg := { G0 with k := 1, e := x.e, c := x.c, s := x.s }
def partM (y x : Lg) : Msg := ⟨2, x.e, x.c, y.e, y.c, S0, diffD y.s x.s⟩
def MsgOf (O : List Lg) (m : Msg) : Prop := ∃ i, i < O.length ∧ (m = wholeM (gO O i) ∨ ∃ j, j < i ∧ m = partM (gO O j) (gO O i))
structure ScI (O l : List Lg) (a : Nat) (xi : Option Nat) (th bk : List Msg) : Prop where
  rise : Rise O
  ok : ∀ y ∈ O, SOK y.s ∧ 0 ≤ y.e ∧ y.e ≤ 1000 ∧ 0 ≤ y.c ∧ y.c ≤ 1000
  fl : l = O.drop (O.length - 8)
  fa : a ≤ l.length
  fx : ∀ j, xi = some j → j < O.length
  ft : ∀ m ∈ th, MsgOf O m
  fb : ∀ m ∈ bk, m = needM ∨ ∃ i, m = ackM (gO O i) ∧ ∃ j, xi = some j ∧ i ≤ j
  fk : 0 < a → ∃ j, xi = some j ∧ (O.length - l.length) + a ≤ j + 1
theorem ScI.g {O l : List Lg} {a : Nat} {xi : Option Nat} {th bk : List Msg} (h : ScI O l a xi th bk) {i : Nat} (hi : i < O.length) : SOK (gO O i).s ∧ 0 ≤ (gO O i).e ∧ (gO O i).e ≤ 1000 ∧ 0 ≤ (gO O i).c ∧ (gO O i).c ≤ 1000 := by
  rw [← gO_at hi]; exact h.ok _ (List.getElem_mem _)
theorem ScI.lt {O l : List Lg} {a : Nat} {xi : Option Nat} {th bk : List Msg} (h : ScI O l a xi th bk) {i j : Nat} (hi : i < j) (hj : j < O.length) : cmpL (gO O i) (gO O j) < 0 := by
  have := h.rise i j (by omega) hj hi
  rw [gO_at, gO_at] at this; exact this
theorem ScI.key {O l : List Lg} {a : Nat} {xi : Option Nat} {th bk : List Msg} (h : ScI O l a xi th bk) {i j : Nat} (hi : i < O.length) (hj : j < O.length) (e1 : (gO O i).e = (gO O j).e) (e2 : (gO O i).c = (gO O j).c) : i = j := by
  rcases Nat.lt_trichotomy i j with h1 | h1 | h1
  · have := cmpL_lt.1 (h.lt h1 hj); omega
  · exact h1
  · have := cmpL_lt.1 (h.lt h1 hi); omega
end Go.AM.Rp

set_option linter.unusedSimpArgs false
set_option linter.unusedVariables false
namespace Go.AM.Rp
open Go.Proofs
def RvV (H : AHeap) (r : Nat) (p : Value) (x : Option Lg) : Prop := H.get r = some (.cells true false 1 [p] 51) ∧ match x with
  | none => p = .pointer none
  | some y => ∃ b, p = ptr b 0 ∧ H.get b = some (.cells true false 70 (LC y) 54) ∧ b ≠ r
theorem RvV.s {H : AHeap} {r : Nat} {p : Value} {x : Option Lg} (h : RvV H r p x) : RvS H r x := by
  obtain ⟨h1, h2⟩ := h
  cases x with
  | none => simp only at h2; subst h2; exact h1
  | some y => obtain ⟨b, rfl, h3, h4⟩ := h2; exact ⟨b, h1, h3, h4⟩
theorem RvS.v {H : AHeap} {r : Nat} {x : Option Lg} (h : RvS H r x) : ∃ p, RvV H r p x ∧ cellA H r 0 = some p := by
  cases x with
  | none => exact ⟨_, ⟨h, rfl⟩, by rw [cellA_of h]; rfl⟩
  | some y => obtain ⟨b, h1, h2, h3⟩ := h; exact ⟨_, ⟨h1, b, rfl, h2, h3⟩, by rw [cellA_of h1]; rfl⟩
theorem RvV.c {H : AHeap} {r : Nat} {p : Value} {x : Option Lg} (h : RvV H r p x) : cellA H r 0 = some p := by rw [cellA_of h.1]; rfl
theorem AP.stay {H H' : AHeap} {e esz : Nat} {v : Value} {n : Nat} {c : List Value} (h : AP H e esz v n c) (k : ∀ b ∈ blkL v, H'.get b = H.get b) : AP H' e esz v n c := by
  rcases h with h | ⟨b, room, rfl, h1, h2⟩
  · exact .inl h
  · exact .inr ⟨b, room, rfl, h1, by rw [k b (by simp [mem_blkL, blk, slc])]; exact h2⟩
theorem TB.lt {H : AHeap} {v : Value} {l : List (Int × Int)} (h : TB H v l) (hl : l ≠ []) {b : Nat} (hb : blk v = some b) : b < H.n := by
  obtain ⟨a, k, rfl, h1⟩ := h
  obtain ⟨b', own, room, c, e, rfl, h2, _⟩ := h1 hl
  cases hb; exact AHeap.get_lt h2
def mB (p : Msg × Value) : List Nat := if p.1.d.l = [] then [] else blkL p.2
def GP (ps : List (Msg × Value)) : List Value := ps.flatMap fun p => GC p.1 p.2
structure MS (H : AHeap) (v : Value) (ps : List (Msg × Value)) : Prop where
  ap : AP H 41 78 v ps.length (GP ps)
  tb : ∀ p ∈ ps, TB H p.2 p.1.d.l ∧ p.1.s.t.length = 64 ∧ p.1.d.l.length ≤ 64
  dj : ∀ p ∈ ps, ∀ b ∈ mB p, b ∉ blkL v
def aB (v : Value) : List Nat := if nnS v then blkL v else []
theorem Sl.lt {H : AHeap} {esz : Nat} {v : Value} {rows : List (List Value)} (h : Sl H esz v rows) {b : Nat} (hb : b ∈ aB v) : b < H.n := by
  unfold aB at hb
  split at hb
  · rename_i hn
    obtain ⟨b', o, n, k, rfl⟩ := nnS_inv hn
    simp [mem_blkL, blk, slc] at hb; subst hb
    have h2 := h.el
    simp only [elemsA, slc] at h2
    split at h2
    · rename_i hg; exact AHeap.get_lt hg
    · cases h2
  · cases hb
theorem Sl.stay {H H' : AHeap} {esz : Nat} {v : Value} {rows : List (List Value)} (h : Sl H esz v rows) (k : ∀ b ∈ aB v, H'.get b = H.get b) : Sl H' esz v rows := by
  refine ⟨h.sh, h.row, ?_⟩
  have h2 := h.el
  by_cases hn : nnS v = true
  · obtain ⟨b', o, n, c, rfl⟩ := nnS_inv hn
    have := k b' (by unfold aB; rw [if_pos hn]; simp [mem_blkL, blk, slc])
    simp only [elemsA, slc] at h2 ⊢
    rw [this]; exact h2
  · obtain ⟨a, c, rfl⟩ := h.sh
    match a, h2 with
    | none, h2 => exact h2
    | some ⟨b, o, some _⟩, h2 => simpa [elemsA] using h2
    | some ⟨b, o, none⟩, h2 => exact absurd rfl hn
theorem GP_erase : ∀ {ps : List (Msg × Value)} (k : Nat), (∀ p ∈ ps, p.1.s.t.length = 64) → k < ps.length → (GP ps).take (k * 78) ++ (GP ps).drop ((k + 1) * 78) = GP (ps.eraseIdx k)
  | p :: ps, 0, h, _ => by
    have h2 := GC_len (h p (by simp)) p.2
    show (GC p.1 p.2 ++ GP ps).take (0 * 78) ++ (GC p.1 p.2 ++ GP ps).drop ((0 + 1) * 78) = GP ps
    rw [Nat.zero_mul, List.take_zero, List.nil_append, show (0 + 1) * 78 = (GC p.1 p.2).length by omega, List.drop_left]
  | p :: ps, k + 1, h, hk => by
    have h1 := GP_erase (ps := ps) k (fun q hq => h q (by simp [hq])) (by simpa using hk)
    have h2 := GC_len (h p (by simp)) p.2
    show (GC p.1 p.2 ++ GP ps).take ((k + 1) * 78) ++ (GC p.1 p.2 ++ GP ps).drop ((k + 1 + 1) * 78) = GC p.1 p.2 ++ GP (ps.eraseIdx k)
    rw [show (k + 1) * 78 = (GC p.1 p.2).length + k * 78 by omega, List.take_length_add_append, show (k + 1 + 1) * 78 = (GC p.1 p.2).length + (k + 1) * 78 by omega, List.drop_append, List.drop_of_length_le (by omega), Nat.add_sub_cancel_left, List.nil_append, List.append_assoc, h1]
theorem MS.nil (H : AHeap) : MS H (.slice none 0 0) [] := ⟨.inl ⟨rfl, rfl, rfl⟩, by simp, by simp⟩
theorem MS.sl {H : AHeap} {v : Value} {ps : List (Msg × Value)} (h : MS H v ps) : Sl H 78 v (ps.map fun p => GC p.1 p.2) := by
  refine AP.sl (e := 41) (n := ps.length) ?_ ?_ (by rw [List.length_map])
  · have := h.ap; rw [show (ps.map fun p => GC p.1 p.2).flatten = GP ps by rw [GP, List.flatMap_def]]; exact this
  · intro r hr; simp at hr; obtain ⟨m, v, hp, rfl⟩ := hr; exact GC_len (h.tb _ hp).2.1 _
theorem TB.chgL {H H' : AHeap} {v : Value} {l : List (Int × Int)} (h : TB H v l) (k : l ≠ [] → ∀ b ∈ blkL v, H'.get b = H.get b) : TB H' v l := by
  obtain ⟨a, c, rfl, h1⟩ := h
  refine ⟨a, c, rfl, fun hne => ?_⟩
  obtain ⟨b, own, room, cs, e, rfl, h2, h3⟩ := h1 hne
  exact ⟨b, own, room, cs, e, rfl, by rw [k hne b (by simp [mem_blkL, blk])]; exact h2, h3⟩
theorem MS.drop {H : AHeap} {v : Value} {ps : List (Msg × Value)} (h : MS H v ps) {k : Nat} (hk : k < ps.length) (hn : ps.length ≤ 1000) :
    ∃ w H', ARun Try.prog 0 18 [v, .int .i64 k] H w H' ∧ Keeps H H' ∧ MS H' w (ps.eraseIdx k) ∧ Fresh H.n w := by
  obtain ⟨w, H', r1, r2, r3, r4⟩ := t18 h.ap hk hn
  have hl : ∀ p ∈ ps, p.1.s.t.length = 64 := fun p hp => (h.tb p hp).2.1
  rw [GP_erase k hl hk] at r2
  refine ⟨w, H', r1, r3, ⟨?_, ?_, ?_⟩, r4⟩
  · rw [List.length_eraseIdx_of_lt hk]; exact r2
  · intro p hp
    have hp' := List.mem_of_mem_eraseIdx hp
    exact ⟨(h.tb p hp').1.keeps r3, (h.tb p hp').2⟩
  · intro p hp b hb hbw
    have hp' := List.mem_of_mem_eraseIdx hp
    have h1 := r4 b (mem_blkL.1 hbw)
    unfold mB at hb
    split at hb
    · cases hb
    · rename_i hl
      have := TB.lt (h.tb p hp').1 hl (mem_blkL.1 hb); omega
section
variable {P : Program} {ng : Nat} {H : AHeap} {KF : List Value → AHeap → Prop} {fr tm : List Value}
theorem MS.app {d : Go.AM.D} {r : List AOper} {v u : Value} {b : Nat} {ps : List (Msg × Value)} {m : Msg} (h : MS H v ps) (h1 : elemsA H 78 (slc b 0 1 1) = some (GC m u)) (hu : TB H u m.d.l) (hm : m.s.t.length = 64) (hd : m.d.l.length ≤ 64) (hn : ps.length ≤ 1000)
    (ha : ∀ b ∈ mB (m, u), b ∉ blkL v)
    (hk : ∀ v' H', MS H' v' (ps ++ [(m, u)]) → Chg (blkL v) H H' → (blk v' = blk v ∨ blk v' = some H.n) → RW P ng r (d.frame v' fr) (d.temps v' tm) H' KF) : goR P ng (asem (.app 41 78 192 v (slc b 0 1 1)) H) d r fr tm KF := by
  refine appG h.ap ⟨_, _, rfl⟩ h1 (by rw [GC_len hm]) (by omega) ?_
  intro v' H' ap c hb
  have htl : ∀ p ∈ ps ++ [(m, u)], TB H p.2 p.1.d.l ∧ p.1.s.t.length = 64 ∧ p.1.d.l.length ≤ 64 := by
    intro p hp
    rcases List.mem_append.1 hp with hp | hp
    · exact h.tb p hp
    · simp at hp; subst hp; exact ⟨hu, hm, hd⟩
  have hdj : ∀ p ∈ ps ++ [(m, u)], ∀ b ∈ mB p, b ∉ blkL v := by
    intro p hp
    rcases List.mem_append.1 hp with hp | hp
    · exact h.dj p hp
    · simp at hp; subst hp; exact ha
  have hlt : ∀ p ∈ ps ++ [(m, u)], ∀ b ∈ mB p, b < H.n := by
    intro p hp b hb
    unfold mB at hb
    split at hb
    · cases hb
    · rename_i hl; exact TB.lt (htl p hp).1 hl (mem_blkL.1 hb)
  refine hk v' H' ⟨?_, ?_, ?_⟩ c hb
  · rw [List.length_append]; simp only [GP, List.flatMap_append, List.flatMap_cons, List.flatMap_nil, List.append_nil]; exact ap
  · intro p hp
    refine ⟨(htl p hp).1.chgL (fun hne b hb => c.get b (hlt p hp b (by unfold mB; rw [if_neg hne]; exact hb)) (hdj p hp b (by unfold mB; rw [if_neg hne]; exact hb))), (htl p hp).2⟩
  · intro p hp b hb' hbv
    have h2 := hlt p hp b hb'
    have h3 := hdj p hp b hb'
    rw [mem_blkL] at hbv h3
    rcases hb with e | e
    · rw [e] at hbv; exact h3 hbv
    · rw [e] at hbv; cases hbv; omega
end
inductive SK : List Value → List Value → Prop
  | nil : SK [] []
  | cons (k : IntKind) (a b : Int) {l m : List Value} (h : SK l m) : SK (.int k a :: l) (.int k b :: m)
theorem SK.app {a b c d : List Value} (h : SK a b) (k : SK c d) : SK (a ++ c) (b ++ d) := by
  induction h with
  | nil => exact k
  | cons x y z _ ih => exact .cons x y z ih
theorem SK.map : ∀ {l m : List Int}, l.length = m.length → SK (l.map tv) (m.map tv)
  | [], [], _ => .nil
  | x :: l, y :: m, h => .cons _ _ _ (SK.map (by simpa using h))
  | [], _ :: _, h => by simp at h
  | _ :: _, [], h => by simp at h
end Go.AM.Rp

set_option linter.unusedSimpArgs false
set_option linter.unusedVariables false
namespace Go.AM.Rp
open Go.Proofs
structure SfV (H : AHeap) (s : Nat) (v : Value) (l : List Lg) (a : Nat) : Prop where
  g : H.get s = some (.cells true false 2 [v, .int .i64 ((a : Int) - 1)] 99)
  ap : AP H 72 70 v l.length (FL l)
  ne : blk v ≠ some s
  ok : Ok64 l
theorem SfV.keeps {H K : AHeap} {s : Nat} {v : Value} {l : List Lg} {a : Nat} (h : SfV H s v l a) (k : Keeps H K) : SfV K s v l a := ⟨k.at_ h.g, h.ap.keeps k, h.ne, h.ok⟩
theorem SfV.sl {H : AHeap} {s : Nat} {v : Value} {l : List Lg} {a : Nat} (h : SfV H s v l a) : Sl H 70 v (l.map LC) := by
  refine AP.sl (e := 72) (n := l.length) ?_ ?_ (by rw [List.length_map])
  · rw [show (l.map LC).flatten = FL l by rw [FL, List.flatMap_def]]; exact h.ap
  · intro r hr; simp at hr; obtain ⟨y, hy, rfl⟩ := hr; exact LC_len (h.ok y hy)
end Go.AM.Rp

set_option linter.unusedSimpArgs false
set_option linter.unusedVariables false
namespace Go.AM.Rp
open Go.Proofs
def X64 (x : Option Lg) : Prop := ∀ y, x = some y → y.s.t.length = 64
theorem X64.get {x : Option Lg} (h : X64 x) : (x.getD L0).s.t.length = 64 := by
  cases x with
  | none => rfl
  | some y => exact h y rfl
section
variable {H : AHeap} {A B : List Th} {s r : Nat} {u v p : Value} {l : List Lg} {a : Nat} {x : Option Lg} {y : Lg} {m : Msg}
theorem Sep.at_ {t : Th} : ∀ {A : List Th}, Sep H (A ++ t :: B) → t.P H := fun h => h.all _ (by simp)
end
end Go.AM.Rp

set_option linter.unusedSimpArgs false
set_option linter.unusedVariables false
namespace Go.AM.Rg
open Go.Proofs Go.AM.F Go.AM.Fd
def toS (x : St) : Rp.S := ⟨x.a, x.b, x.c, x.t.map (fun b => (b.toNat : Int)), x.p⟩
theorem toS_c (x : St) : Rp.SC (toS x) = cSt x := by
  simp only [Rp.SC, toS, cSt, cellsOf, List.map_map]
  rfl
theorem toS_len {x : St} (h : x.t.length = 64) : (toS x).t.length = 64 := by simp [toS, h]
structure Ms where
  k : Nat
  e : Int
  c : Int
  be : Int
  b : Int
  s : St
  d : Rp.D
def M (x : Ms) : Rp.Msg := ⟨x.k, x.e, x.c, x.be, x.b, toS x.s, x.d⟩
def cM (x : Ms) (v : Value) : List Value := Rp.GC (M x) v
def i64B (n : Int) : Prop := -9223372036854775808 ≤ n ∧ n ≤ 9223372036854775807
structure rgM (x : Ms) : Prop where
  k : x.k < 256
  e : i64B x.e
  c : i64B x.c
  be : i64B x.be
  b : i64B x.b
  s : rgSt x.s
  da : x.d.a < 18446744073709551616
  db : x.d.b < 18446744073709551616
  dc : x.d.c < 18446744073709551616
  dp : x.d.p < 4294967296
  l : ∀ t ∈ x.d.l, i64B t.1 ∧ 0 ≤ t.2 ∧ t.2 < 256
def M0 : Ms := ⟨0, 0, 0, 0, 0, St0, ⟨0, 0, 0, 0, []⟩⟩
def tB (l : List (Int × Int)) : List UInt8 := l.flatMap fun x => be 1 x.1.toNat ++ be 1 x.2.toNat
theorem tB_app (l m : List (Int × Int)) : tB (l ++ m) = tB l ++ tB m := by unfold tB; rw [List.flatMap_append]
theorem tB_len : ∀ l, (tB l).length = 2 * l.length
  | [] => rfl
  | x :: l => by
    have := tB_len l
    unfold tB at *
    rw [List.flatMap_cons, List.length_append, this, List.length_append, be_length, be_length, List.length_cons]; omega
def hdM (x : Ms) : List UInt8 := be 1 x.k ++ nsB [x.e, x.c, x.be, x.b]
def dB (d : Rp.D) : List UInt8 := be 8 d.a ++ be 8 d.b ++ be 8 d.c ++ be 4 d.p ++ be 1 d.l.length ++ tB d.l
def enM (x : Ms) : List UInt8 := hdM x ++ (if x.k = 1 then fSt x.s else if x.k = 2 then dB x.d else [])
def pM (x : Ms) : List UInt8 := if Rp.mayB (M x) then enM x else []
theorem hdM_len (x : Ms) : (hdM x).length = 33 := by simp [hdM, be_length, nsB_len]
theorem fSt_len {x : St} (h : x.t.length = 64) : (fSt x).length = 97 := by simp [fSt, chk_len, enSt_len h]
theorem dB_len (d : Rp.D) : (dB d).length = 29 + 2 * d.l.length := by simp [dB, be_length, tB_len]; omega
theorem rise_len : ∀ (l : List (Int × Int)) (p : Int), -1 ≤ p → Rp.riseF p l = true → (l.length : Int) ≤ 63 - p ∨ l = []
  | [], p, _, _ => .inr rfl
  | x :: l, p, hp, h => by
    left
    simp only [Rp.riseF] at h
    split at h
    · cases h
    · rename_i hx
      rcases rise_len l x.1 (by simp at hx; omega) h with h1 | rfl
      · simp only [List.length_cons]; simp at hx; omega
      · simp at hx ⊢; omega
theorem may_inv {x : Ms} (h : Rp.mayB (M x) = true) : 1 ≤ x.k ∧ x.k ≤ 4 ∧ cyB x.e = true ∧ cyB x.c = true ∧ cyB x.be = true ∧ cyB x.b = true ∧ Rp.riseF (-1) x.d.l = true ∧ x.d.l.length ≤ 64 := by
  unfold Rp.mayB at h
  rw [Rp.inB4_eq] at h
  simp only [Bool.and_eq_true, M] at h
  obtain ⟨⟨⟨h1, h2⟩, ⟨⟨⟨h3, h4⟩, h5⟩, h6⟩⟩, h7⟩ := h
  have h1 := of_decide_eq_true h1
  have h2 := of_decide_eq_true h2
  refine ⟨h1, h2, h3, h4, h5, h6, h7, ?_⟩
  rcases rise_len x.d.l (-1) (by omega) h7 with h8 | h8
  · omega
  · rw [h8]; simp
section
variable (x : Ms) (v : Value)
theorem cM_0 : (cM x v)[0]? = some (.int .u8 x.k) := rfl
theorem cM_1 : (cM x v)[1]? = some (.int .i64 x.e) := rfl
theorem cM_2 : (cM x v)[2]? = some (.int .i64 x.c) := rfl
theorem cM_3 : (cM x v)[3]? = some (.int .i64 x.be) := rfl
theorem cM_4 : (cM x v)[4]? = some (.int .i64 x.b) := rfl
variable {x} (h : x.s.t.length = 64)
include h
theorem cM_len : (cM x v).length = 78 := Rp.GC_len (m := M x) (toS_len h) v
theorem cM_73 : (cM x v)[73]? = some (.int .u64 x.d.a) := Rp.GC_73 (m := M x) (toS_len h) v
theorem cM_74 : (cM x v)[74]? = some (.int .u64 x.d.b) := Rp.GC_74 (m := M x) (toS_len h) v
theorem cM_75 : (cM x v)[75]? = some (.int .u64 x.d.c) := Rp.GC_75 (m := M x) (toS_len h) v
theorem cM_76 : (cM x v)[76]? = some (.int .u32 x.d.p) := Rp.GC_76 (m := M x) (toS_len h) v
theorem cM_77 : (cM x v)[77]? = some v := Rp.GC_77 (m := M x) (toS_len h) v
theorem cM_s : ((cM x v).drop 5).take 68 = cSt x.s := by
  rw [← toS_c]
  simp only [cM, Rp.GC, M, List.drop_succ_cons, List.drop_zero]
  rw [List.take_append_of_le_length (by rw [Rp.SC_len (toS_len h)]; omega), List.take_of_length_le (by rw [Rp.SC_len (toS_len h)]; omega)]
end
theorem cM_one (x : Ms) {v : Value} (h : v.oneCell' = true) : (cM x v).all Value.oneCell' = true := Rp.GC_one (M x) h
structure WW (B K : AHeap) (w : Nat) (l : List UInt8) : Prop where
  lo : B.n ≤ w
  k : Keeps B K
  ex : ∃ bv, B.n ≤ bv ∧ WS K w bv l
theorem WW.new {B K : AHeap} (k : Keeps B K) : WW B (K.alloc (.cells true false 1 [.slice none 0 0] 120)) K.n [] :=
  ⟨k.n, k.alloc _, K.n, k.n, new_ws K⟩
theorem WW.lt {B K : AHeap} {w : Nat} {l : List UInt8} (h : WW B K w l) : w < K.n := h.ex.choose_spec.2.lt.1
theorem WW.keeps {B K K' : AHeap} {w : Nat} {l : List UInt8} (h : WW B K w l) (k : Keeps K K') : WW B K' w l := by
  obtain ⟨h1, h2, bv, h3, h4⟩ := h
  exact ⟨h1, h2.trans k, bv, h3, h4.chg (k.chg []) (by simp) (by simp)⟩
theorem WW.put {B K K' : AHeap} {w bv : Nat} {l l' : List UInt8} (h1 : B.n ≤ w) (k : Keeps B K) (hb : B.n ≤ bv) (h : Fd.Put K K' w bv l') : WW B K' w l' := by
  obtain ⟨bv', p1, p2, p3⟩ := h
  have := k.n
  exact ⟨h1, k.chg_trans p3 (by simp; omega), bv', by omega, p1⟩
section
variable {B K : AHeap} {w : Nat} {l m : List UInt8} (h : WW B K w l)
include h
theorem WW.byte (n : Nat) (hn : n < 256) (hl : l.length ≤ 100000000) : ∃ v K', ARun Try.prog 0 55 [ptr w 0, .int .u8 n] K v K' ∧ WW B K' w (l ++ be 1 n) := by
  obtain ⟨h1, h2, bv, h3, h4⟩ := h
  obtain ⟨v, K', r, p⟩ := t55 h4 n hn hl
  exact ⟨v, K', r, WW.put (l := l) h1 h2 h3 p⟩
theorem WW.word (n : Nat) (hn : n < 4294967296) (hl : l.length ≤ 100000000) : ∃ v K', ARun Try.prog 0 59 [ptr w 0, .int .u32 n] K v K' ∧ WW B K' w (l ++ be 4 n) := by
  obtain ⟨h1, h2, bv, h3, h4⟩ := h
  obtain ⟨v, K', r, p⟩ := t59 h4 n hn hl
  exact ⟨v, K', r, WW.put (l := l) h1 h2 h3 p⟩
theorem WW.long (n : Nat) (hn : n < 18446744073709551616) (hl : l.length ≤ 100000000) : ∃ v K', ARun Try.prog 0 56 [ptr w 0, .int .u64 n] K v K' ∧ WW B K' w (l ++ be 8 n) := by
  obtain ⟨h1, h2, bv, h3, h4⟩ := h
  obtain ⟨v, K', r, p⟩ := t56 h4 n hn hl
  exact ⟨v, K', r, WW.put (l := l) h1 h2 h3 p⟩
theorem WW.raw {x : Value} (hx : BS K x m) (hl : l.length + m.length ≤ 1000000000) : ∃ v K', ARun Try.prog 0 57 [ptr w 0, x] K v K' ∧ WW B K' w (l ++ m) := by
  obtain ⟨h1, h2, bv, h3, h4⟩ := h
  obtain ⟨v, K', r, p⟩ := t57 h4 hx hl
  exact ⟨v, K', r, WW.put (l := l) h1 h2 h3 p⟩
theorem WW.out (hl : l.length ≤ 1000000000) : ∃ v K', ARun Try.prog 0 60 [ptr w 0] K v K' ∧ OB 5 B K' v l := by
  obtain ⟨h1, h2, bv, h3, h4⟩ := h
  obtain ⟨v, K', r, p1, p2, p3⟩ := t60 h4 hl
  have := h2.n
  exact ⟨v, K', r, p1, h2.trans p2, fun b hb => by have := p3 b hb; omega⟩
end
theorem q48q {H : AHeap} {lo hi r s : Nat} {l : List UInt8} (h : RR H lo hi r l s) (w : Nat) (hl : l.length ≤ 1000000000) : ∃ v H', ARun Try.prog 0 48 [ptr r 0, .int .i64 (w : Nat)] H v H' ∧ BQ H' v (seg l s w) ∧ RR H' lo hi r l (s + w) ∧ Chg [r] H H' := by
  obtain ⟨h1, h2, h3, bv, h4, h5, h6⟩ := h
  obtain ⟨v, H', q, p0, p1, p2, p3⟩ := t48 h6 (w : Int) (by rw [List.length_drop]; omega)
  refine ⟨_, H', q, ?_, Aft.rr p1 h1 h2 (Nat.le_trans h3 p2.n) h4 h5, p2⟩
  rw [← gotL_at]
  rcases p3 with ⟨rfl, e⟩ | ⟨hf, t⟩
  · exact .inl ⟨rfl, e⟩
  · have hg : gotL (l.drop s) (decide (l.length < s)) (w : Int) = (l.drop s).take w := by unfold gotL; rw [if_neg hf, Int.toNat_natCast]
    have hw : w ≤ (l.drop s).length := by unfold failB at hf; omega
    rw [hg]
    obtain ⟨_, ⟨rfl, e1, e2, _, _⟩ | ⟨o, c, rm, rfl, g1, g2, g3, g4, g5⟩⟩ := t
    · rw [e1]; exact .inl ⟨rfl, by simp⟩
    · rw [Int.toNat_natCast] at g5
      have e3 : ((l.drop s).take w).length = w := by rw [List.length_take]; omega
      refine .inr (.inr ⟨bv, o, w, true, rm, 1, c, 5, by rw [e3, Int.toNat_natCast], by omega, g2, .inl rfl, ?_, by omega⟩)
      rw [e3, g4]
      simp [cellsOf, List.map_take]
end Go.AM.Rg

set_option linter.unusedSimpArgs false
set_option linter.unusedVariables false
namespace Go.AM.Rg
open Nat (reduceAdd reduceEqDiff reduceLT reduceLeDiff reduceMul reduceSub)
open Go.Proofs Go.AM.F Go.AM.Fd
theorem nsB_app (l m : List Int) : nsB (l ++ m) = nsB l ++ nsB m := by unfold nsB; rw [List.flatMap_append]
theorem fill4i (a b c d : Int) : fillA [.int .i64 0, .int .i64 0, .int .i64 0, .int .i64 0] [(0, 1, .int .i64 a), (1, 1, .int .i64 b), (2, 1, .int .i64 c), (3, 1, .int .i64 d)] = some [.int .i64 a, .int .i64 b, .int .i64 c, .int .i64 d] := rfl
theorem fill3u (a b c : Int) : fillA [.int .u64 0, .int .u64 0, .int .u64 0] [(0, 1, .int .u64 a), (1, 1, .int .u64 b), (2, 1, .int .u64 c)] = some [.int .u64 a, .int .u64 b, .int .u64 c] := rfl
def tR (t : Int × Int) : List Value := [.int .i64 t.1, .int .u8 t.2]
theorem TB_sl {H : AHeap} {v : Value} {l : List (Int × Int)} (h : Rp.TB H v l) (hl : l ≠ []) : Sl H 2 v (l.map tR) := by
  obtain ⟨a, k, rfl, hb⟩ := h
  obtain ⟨b, own, room, c, e, rfl, h1, h2⟩ := hb hl
  have h3 := congrArg List.length h2
  rw [List.length_take, Rp.TC_len] at h3
  refine ⟨⟨_, _, by rw [List.length_map]⟩, ?_, ?_⟩
  · intro r hr; simp only [List.mem_map] at hr; obtain ⟨_, _, rfl⟩ := hr; rfl
  · simp only [elemsA, h1]
    rw [if_pos (by omega), List.drop_zero, Nat.mul_comm, h2]
    rfl
theorem TB_len {H : AHeap} {v : Value} {l : List (Int × Int)} (h : Rp.TB H v l) : isS v = true ∧ lenS v = l.length := by
  obtain ⟨a, k, rfl, hb⟩ := h; exact ⟨rfl, rfl⟩
theorem cy_lt {n : Int} (h : cyB n = true) : n.toNat < 18446744073709551616 := by have := cyB_iff.1 h; omega
def u64s (l : List Nat) : List UInt8 := l.flatMap fun n => be 8 n
theorem u64s_app (l m : List Nat) : u64s (l ++ m) = u64s l ++ u64s m := by unfold u64s; rw [List.flatMap_append]
theorem u64s_len (l : List Nat) : (u64s l).length = 8 * l.length := by
  induction l with
  | nil => rfl
  | cons x l ih =>
    rw [u64s, List.flatMap_cons, List.length_append, be_length, List.length_cons]
    have : (l.flatMap fun n => be 8 n).length = 8 * l.length := ih
    omega
theorem WW.byteA {B K : AHeap} {w : Nat} {l : List UInt8} (h : WW B K w l) (o : AO) (n : Nat) (hn : n < 256) (hl : l.length ≤ 100000000) : ∃ v K', ARun Try.prog 0 55 [ptr w 0, .int .u8 n] (K.alloc o) v K' ∧ WW B K' w (l ++ be 1 n) ∧ K'.get K.n = some o := by
  obtain ⟨h1, h2, bv, h3, h4⟩ := h
  have kt := (Keeps.refl K).alloc o
  obtain ⟨v, K', r, p⟩ := t55 (h4.chg (kt.chg []) (by simp) (by simp)) n hn hl
  have h5 := h4.lt
  refine ⟨v, K', r, WW.put (l := l) h1 (h2.trans kt) h3 p, ?_⟩
  obtain ⟨bv', p1, p2, p3⟩ := p
  rw [p3.get _ (by rw [alloc_n]; omega) (by simp; omega)]
  exact AHeap.get_alloc_new _ _
theorem cM_any {x : Ms} {v : Value} {B K : AHeap} {b : Nat} (k : Keeps B K) (g : B.get b = some (.cells true false 78 (cM x v) 41)) : K.get b = some (.cells true false 78 (cM x v) 41) := k.at_ g
theorem t27 {H : AHeap} {x : Ms} {v : Value} (hx : rgM x) (h : Rp.TB H v x.d.l) (hl : x.d.l.length ≤ 100000) : ∃ w H', ARun Try.prog 0 27 [.agg (cM x v).toArray] H w H' ∧ OB 5 H H' w (pM x) := by
  refine walk2 f27_ok f27_n ?_
  intro Q hq1 hq2
  have ht := hx.s.ht
  have lM := cM_len v ht
  have oM := cM_one x h.one
  have kB := (Keeps.refl H).alloc (.cells true false 78 (cM x v) 41)
  simp (disch := first | assumption | omega | (simp only [LN] <;> omega) | (simp (disch := first | assumption | omega | (simp only [LN] <;> omega)) only [row_alloc, row_set]; assumption)) only [f27, W_block, P3, ↓reduceIte, reduceAdd, reduceEqDiff, reduceCtorEq, initFr, reduceLT, clsA, reduceLeDiff, reduceMul, reduceSub, reduceIte, oM]
  obtain ⟨B, hB⟩ : ∃ X, X = H.alloc (.cells true false 78 (cM x v) 41) := ⟨_, rfl⟩
  have gB : B.get H.n = some (.cells true false 78 (cM x v) 41) := by rw [hB]; exact AHeap.get_alloc_new _ _
  have pB := AHeap.get_lt gB
  rw [← hB] at kB ⊢
  refine callK (Rp.t35 (m := M x) (toS_len ht) (h.keeps kB) hl) ?_
  rintro _ K1 ⟨rfl, k1⟩
  cases hm : Rp.mayB (M x) with
  | false =>
    simp (disch := first | assumption | omega | (simp only [LN] <;> omega) | (simp (disch := first | assumption | omega | (simp only [LN] <;> omega)) only [row_alloc, row_set]; assumption)) only [W_block, P3, ↓reduceIte, reduceAdd, reduceEqDiff, reduceCtorEq, initFr, reduceLT, clsA, reduceLeDiff, reduceMul, reduceSub, reduceIte]
    refine hq2 _ _ ⟨_, rfl, ?_⟩
    rw [show pM x = [] by unfold pM; rw [hm]; rfl]
    exact ⟨.inl ⟨rfl, rfl, rfl⟩, kB.trans k1, fun b hb => by cases hb⟩
  | true =>
    obtain ⟨m1, m2, m3, m4, m5, m6, m7, m8⟩ := may_inv hm
    have ep : pM x = enM x := by unfold pM; rw [hm]; rfl
    rw [ep] at hq2
    have g1 := cM_any k1 gB
    have w2 := WW.new k1
    simp (disch := first | assumption | omega | (simp only [LN] <;> omega) | (simp (disch := first | assumption | omega | (simp only [LN] <;> omega)) only [row_alloc, row_set, Keeps.row k1]; assumption)) only [Keeps.get k1, Keeps.row k1, W_block, P3, ↓reduceIte, reduceAdd, reduceEqDiff, reduceCtorEq, initFr, reduceLT, clsA, reduceLeDiff, reduceMul, reduceSub, reduceIte]
    obtain ⟨K2, hK2⟩ : ∃ X, X = K1.alloc (.cells true false 1 [.slice none 0 0] 120) := ⟨_, rfl⟩
    rw [← hK2] at w2 ⊢
    have g2 := cM_any w2.k gB
    simp (disch := first | assumption | omega | (simp only [LN] <;> omega) | (simp (disch := first | assumption | omega | (simp only [LN] <;> omega)) only [row_alloc, row_set]; assumption)) only [W_block, P3, ↓reduceIte, reduceAdd, reduceEqDiff, reduceCtorEq, initFr, reduceLT, clsA, reduceLeDiff, reduceMul, reduceSub, reduceIte, g2, cM_0]
    refine callK (w2.byte x.k hx.k (by simp)) ?_
    rintro _ K3 w3
    have g3 := cM_any w3.k gB
    simp (disch := first | assumption | omega | (simp only [LN] <;> omega) | (simp (disch := first | assumption | omega | (simp only [LN] <;> omega)) only [row_alloc, row_set]; assumption)) only [W_block, P3, ↓reduceIte, reduceAdd, reduceEqDiff, reduceCtorEq, initFr, reduceLT, clsA, reduceLeDiff, reduceMul, reduceSub, reduceIte, g3, cM_0, cM_1, cM_2, cM_3, cM_4, fill4i]
    obtain ⟨L, hL⟩ : ∃ L, L = [x.e, x.c, x.be, x.b] := ⟨_, rfl⟩
    have lL : L.length = 4 := by rw [hL]; rfl
    have cL : ∀ n ∈ L, cyB n = true := by rw [hL]; simp [m3, m4, m5, m6]
    have eL : ([.int .i64 x.e, .int .i64 x.c, .int .i64 x.be, .int .i64 x.b] : List Value) = L.map (Value.int .i64) := by rw [hL]; rfl
    rw [eL]
    refine W_loop2 (fun q fr K => ∃ (i : Nat) (e4 e10 : Value), i ≤ 4 ∧ q = 4 - i ∧ WW B K K1.n (be 1 x.k ++ nsB (L.take i)) ∧ fr = [.agg (cM x v).toArray, ptr H.n 0, .slice none 0 0, ptr K1.n 0, e4, undef, undef, .bool false, .agg (L.map (Value.int .i64)).toArray, .int .i64 i, e10, undef, undef, undef, undef, undef, undef, undef, undef, undef, undef]) 4 ⟨0, _, _, by omega, rfl, by simpa [nsB] using w3, rfl⟩ ?_
    rintro Q' q fr K ⟨i, e4, e10, hi, rfl, ww, rfl⟩ hnx hex hrt
    by_cases hc : i < 4
    · have hn := cL _ (List.getElem_mem (show i < L.length by omega))
      simp (disch := first | assumption | omega | (simp only [LN] <;> omega) | (simp (disch := first | assumption | omega | (simp only [LN] <;> omega)) only [row_alloc, row_set]; assumption)) only [W_block, P3, ↓reduceIte, reduceAdd, reduceEqDiff, reduceCtorEq, initFr, reduceLT, clsA, reduceLeDiff, reduceMul, reduceSub, reduceIte, Rp.a_idxa (L.map (Value.int .i64)) i 4 hc (x := .int .i64 L[i]) (by simp [hc, lL]), cy_nat hn]
      refine callK (ww.long _ (cy_lt hn) (by simp [be_length, nsB_len]; omega)) ?_
      rintro _ K' ww'
      simp (disch := first | assumption | omega | (simp only [LN] <;> omega) | (simp (disch := first | assumption | omega | (simp only [LN] <;> omega)) only [row_alloc, row_set]; assumption)) only [W_block, P3, ↓reduceIte, reduceAdd, reduceEqDiff, reduceCtorEq, initFr, reduceLT, clsA, reduceLeDiff, reduceMul, reduceSub, reduceIte, wrap_succ (n := i) (by omega)]
      refine hnx _ _ _ ⟨i + 1, _, _, by omega, rfl, ?_, rfl⟩ (by omega)
      rw [List.take_succ_eq_append_getElem (by omega), nsB_app]
      simpa [nsB, List.append_assoc] using ww'
    have hi4 : i = 4 := by omega
    subst hi4
    simp (disch := first | assumption | omega | (simp only [LN] <;> omega) | (simp (disch := first | assumption | omega | (simp only [LN] <;> omega)) only [row_alloc, row_set]; assumption)) only [W_block, P3, ↓reduceIte, reduceAdd, reduceEqDiff, reduceCtorEq, initFr, reduceLT, clsA, reduceLeDiff, reduceMul, reduceSub, reduceIte]
    refine hex _ _ _ ?_
    rw [List.take_of_length_le (by omega), hL] at ww
    have ww : WW B K K1.n (hdM x) := ww
    have g4 := cM_any ww.k gB
    simp (disch := first | assumption | omega | (simp only [LN] <;> omega) | (simp (disch := first | assumption | omega | (simp only [LN] <;> omega)) only [row_alloc, row_set]; assumption)) only [W_block, P3, ↓reduceIte, reduceAdd, reduceEqDiff, reduceCtorEq, initFr, reduceLT, clsA, reduceLeDiff, reduceMul, reduceSub, reduceIte, g4, cM_0]
    by_cases h1 : x.k = 1
    · have ee : enM x = hdM x ++ fSt x.s := by unfold enM; rw [if_pos h1]
      rw [ee] at hq2
      simp (disch := first | assumption | omega | (simp only [LN] <;> omega) | (simp (disch := first | assumption | omega | (simp only [LN] <;> omega)) only [row_alloc, row_set]; assumption)) only [W_block, P3, ↓reduceIte, reduceAdd, reduceEqDiff, reduceCtorEq, initFr, reduceLT, clsA, reduceLeDiff, reduceMul, reduceSub, reduceIte, h1, g4, cM_s]
      refine callK (t58 x.s hx.s _) ?_
      rintro _ K5 ⟨a5, k5, f5⟩
      simp (disch := first | assumption | omega | (simp only [LN] <;> omega) | (simp (disch := first | assumption | omega | (simp only [LN] <;> omega)) only [row_alloc, row_set]; assumption)) only [W_block, P3, ↓reduceIte, reduceAdd, reduceEqDiff, reduceCtorEq, initFr, reduceLT, clsA, reduceLeDiff, reduceMul, reduceSub, reduceIte]
      refine callK ((ww.keeps k5).raw a5.bs (by rw [hdM_len, fSt_len ht]; omega)) ?_
      rintro _ K6 w6
      simp (disch := first | assumption | omega | (simp only [LN] <;> omega) | (simp (disch := first | assumption | omega | (simp only [LN] <;> omega)) only [row_alloc, row_set]; assumption)) only [W_block, P3, ↓reduceIte, reduceAdd, reduceEqDiff, reduceCtorEq, initFr, reduceLT, clsA, reduceLeDiff, reduceMul, reduceSub, reduceIte]
      refine callK (w6.out (by rw [List.length_append, hdM_len, fSt_len ht]; omega)) ?_
      rintro _ K7 o7
      simp (disch := first | assumption | omega | (simp only [LN] <;> omega) | (simp (disch := first | assumption | omega | (simp only [LN] <;> omega)) only [row_alloc, row_set]; assumption)) only [W_block, P3, ↓reduceIte, reduceAdd, reduceEqDiff, reduceCtorEq, initFr, reduceLT, clsA, reduceLeDiff, reduceMul, reduceSub, reduceIte]
      exact hq2 _ _ ⟨_, rfl, o7.base kB⟩
    by_cases h2 : x.k = 2
    · have ee : enM x = hdM x ++ dB x.d := by unfold enM; rw [if_neg h1, if_pos h2]
      rw [ee] at hq2
      simp (disch := first | assumption | omega | (simp only [LN] <;> omega) | (simp (disch := first | assumption | omega | (simp only [LN] <;> omega)) only [row_alloc, row_set]; assumption)) only [W_block, P3, ↓reduceIte, reduceAdd, reduceEqDiff, reduceCtorEq, initFr, reduceLT, clsA, reduceLeDiff, reduceMul, reduceSub, reduceIte, h2, g4, cM_73, cM_74, cM_75, fill3u]
      obtain ⟨U, hU⟩ : ∃ U, U = [x.d.a, x.d.b, x.d.c] := ⟨_, rfl⟩
      have lU : U.length = 3 := by rw [hU]; rfl
      have cU : ∀ n ∈ U, n < 18446744073709551616 := by
        have := hx.da; have := hx.db; have := hx.dc
        rw [hU]; intro n hn
        simp only [List.mem_cons, List.not_mem_nil, or_false] at hn
        rcases hn with rfl | rfl | rfl <;> assumption
      have eU : ([.int .u64 (x.d.a : Nat), .int .u64 (x.d.b : Nat), .int .u64 (x.d.c : Nat)] : List Value) = U.map (fun n => Value.int .u64 (n : Nat)) := by rw [hU]; rfl
      rw [eU]
      generalize (Value.agg (List.map (Value.int .i64) L).toArray) = e8
      refine W_loop2 (fun q fr K => ∃ (i : Nat) (e5 e16 : Value), i ≤ 3 ∧ q = 3 - i ∧ WW B K K1.n (hdM x ++ u64s (U.take i)) ∧ fr = [.agg (cM x v).toArray, ptr H.n 0, .slice none 0 0, ptr K1.n 0, e4, e5, undef, .bool false, e8, .int .i64 4, .bool false, .int .u8 2, .bool false, .bool true, .agg (U.map (fun n => Value.int .u64 (n : Nat))).toArray, .int .i64 i, e16, undef, undef, undef, undef]) 3 ⟨0, _, _, by omega, rfl, by simpa [u64s] using ww, rfl⟩ ?_
      rintro Q2 q fr K ⟨i, e5, e16, hi, rfl, wu, rfl⟩ hnx2 hex2 hrt2
      by_cases hc2 : i < 3
      · have hn := cU _ (List.getElem_mem (show i < U.length by omega))
        simp (disch := first | assumption | omega | (simp only [LN] <;> omega) | (simp (disch := first | assumption | omega | (simp only [LN] <;> omega)) only [row_alloc, row_set]; assumption)) only [W_block, P3, ↓reduceIte, reduceAdd, reduceEqDiff, reduceCtorEq, initFr, reduceLT, clsA, reduceLeDiff, reduceMul, reduceSub, reduceIte, Rp.a_idxa (U.map (fun n => Value.int .u64 (n : Nat))) i 3 hc2 (x := .int .u64 (U[i] : Nat)) (by simp [hc2, lU])]
        refine callK (wu.long _ hn (by simp [hdM_len, u64s_len]; omega)) ?_
        rintro _ K' wu'
        simp (disch := first | assumption | omega | (simp only [LN] <;> omega) | (simp (disch := first | assumption | omega | (simp only [LN] <;> omega)) only [row_alloc, row_set]; assumption)) only [W_block, P3, ↓reduceIte, reduceAdd, reduceEqDiff, reduceCtorEq, initFr, reduceLT, clsA, reduceLeDiff, reduceMul, reduceSub, reduceIte, wrap_succ (n := i) (by omega)]
        refine hnx2 _ _ _ ⟨i + 1, _, _, by omega, rfl, ?_, rfl⟩ (by omega)
        rw [List.take_succ_eq_append_getElem (by omega), u64s_app]
        simpa [u64s, List.append_assoc] using wu'
      have hi3 : i = 3 := by omega
      subst hi3
      simp (disch := first | assumption | omega | (simp only [LN] <;> omega) | (simp (disch := first | assumption | omega | (simp only [LN] <;> omega)) only [row_alloc, row_set]; assumption)) only [W_block, P3, ↓reduceIte, reduceAdd, reduceEqDiff, reduceCtorEq, initFr, reduceLT, clsA, reduceLeDiff, reduceMul, reduceSub, reduceIte]
      refine hex2 _ _ _ ?_
      rw [List.take_of_length_le (by omega)] at wu
      have g5 := cM_any wu.k gB
      have hl5 : (u64s U).length = 24 := by rw [u64s_len, lU]
      simp (disch := first | assumption | omega | (simp only [LN] <;> omega) | (simp (disch := first | assumption | omega | (simp only [LN] <;> omega)) only [row_alloc, row_set]; assumption)) only [W_block, P3, ↓reduceIte, reduceAdd, reduceEqDiff, reduceCtorEq, initFr, reduceLT, clsA, reduceLeDiff, reduceMul, reduceSub, reduceIte, g5, cM_76]
      refine callK (wu.word x.d.p hx.dp (by rw [List.length_append, hdM_len, hl5]; omega)) ?_
      rintro _ K6 w6
      have g6 := cM_any w6.k gB
      have hv6 := TB_len (h.keeps (kB.trans w6.k))
      have hv61 := hv6.1
      have hv62 := hv6.2
      have wl : IntKind.u8.wrap (x.d.l.length : Nat) = (x.d.l.length : Nat) := by rw [wrap_u8]; omega
      simp (disch := first | assumption | omega | (simp only [LN] <;> omega) | (simp (disch := first | assumption | omega | (simp only [LN] <;> omega)) only [row_alloc, row_set]; assumption)) only [W_block, P3, ↓reduceIte, reduceAdd, reduceEqDiff, reduceCtorEq, initFr, reduceLT, clsA, reduceLeDiff, reduceMul, reduceSub, reduceIte, g6, cM_77, hv62, wl]
      refine callK (w6.byte _ (by omega) (by rw [List.length_append, List.length_append, hdM_len, hl5, be_length]; omega)) ?_
      rintro _ K7 w7
      have g7 := cM_any w7.k gB
      simp (disch := first | assumption | omega | (simp only [LN] <;> omega) | (simp (disch := first | assumption | omega | (simp only [LN] <;> omega)) only [row_alloc, row_set]; assumption)) only [W_block, P3, ↓reduceIte, reduceAdd, reduceEqDiff, reduceCtorEq, initFr, reduceLT, clsA, reduceLeDiff, reduceMul, reduceSub, reduceIte, g7, cM_77, hv62]
      have hr := Rp.rise_in x.d.l (-1) (by omega) m7
      obtain ⟨Z, hZ⟩ : ∃ Z, Z = hdM x ++ u64s U ++ be 4 x.d.p ++ be 1 x.d.l.length := ⟨_, rfl⟩
      rw [← hZ] at w7
      have lZ : Z.length = 62 := by rw [hZ]; simp only [List.length_append, hdM_len, hl5, be_length]
      refine W_loop2 (fun q fr K => ∃ (i : Nat) (e6 e20 : Value), i ≤ x.d.l.length ∧ q = x.d.l.length - i ∧ WW B K K1.n (Z ++ tB (x.d.l.take i)) ∧ fr = [.agg (cM x v).toArray, ptr H.n 0, .slice none 0 0, ptr K1.n 0, e4, e5, e6, .bool false, e8, .int .i64 4, .bool false, .int .u8 2, .bool false, .bool true, .agg (U.map (fun n => Value.int .u64 (n : Nat))).toArray, .int .i64 3, .bool false, v, .int .i64 x.d.l.length, .int .i64 i, e20]) x.d.l.length ⟨0, _, _, by omega, rfl, by simpa [tB] using w7, rfl⟩ ?_
      rintro Q3 q fr K ⟨i, e6, e20, hi, rfl, wt, rfl⟩ hnx3 hex3 hrt3
      by_cases hc3 : i < x.d.l.length
      · have hsl := TB_sl (h.keeps (kB.trans wt.k)) (by intro e; rw [e] at hc3; simp at hc3)
        obtain ⟨hnn, hrow⟩ := hsl.at_ (by omega) (i := i) (by rw [List.length_map]; exact hc3)
        rw [List.getElem_map] at hrow
        have hbn := hsl.bn_le (by intro e; rw [List.map_eq_nil_iff] at e; rw [e] at hc3; simp at hc3) (by omega)
        have hm1 := hr _ (List.getElem_mem hc3)
        have hm2 := hx.l _ (List.getElem_mem hc3)
        have w1 : IntKind.u8.wrap (x.d.l[i]).1 = ((x.d.l[i]).1.toNat : Nat) := by rw [wrap_u8]; omega
        have w2' : (x.d.l[i]).2 = ((x.d.l[i]).2.toNat : Nat) := by omega
        unfold tR at hrow
        simp (disch := first | assumption | omega | (simp only [LN] <;> omega) | (simp (disch := first | assumption | omega | (simp only [LN] <;> omega)) only [row_alloc, row_set]; assumption)) only [W_block, P3, ↓reduceIte, reduceAdd, reduceEqDiff, reduceCtorEq, initFr, reduceLT, clsA, reduceLeDiff, reduceMul, reduceSub, reduceIte, hrow, w1]
        refine callK (wt.byteA _ _ (by omega) (by rw [List.length_append, lZ, tB_len, List.length_take]; omega)) ?_
        rintro _ K8 ⟨w8, g8⟩
        simp (disch := first | assumption | omega | (simp only [LN] <;> omega) | (simp (disch := first | assumption | omega | (simp only [LN] <;> omega)) only [row_alloc, row_set]; assumption)) only [W_block, P3, ↓reduceIte, reduceAdd, reduceEqDiff, reduceCtorEq, initFr, reduceLT, clsA, reduceLeDiff, reduceMul, reduceSub, reduceIte, g8]
        rw [w2']
        refine callK (w8.byte _ (by omega) (by rw [List.length_append, List.length_append, lZ, tB_len, be_length, List.length_take]; omega)) ?_
        rintro _ K9 w9
        simp (disch := first | assumption | omega | (simp only [LN] <;> omega) | (simp (disch := first | assumption | omega | (simp only [LN] <;> omega)) only [row_alloc, row_set]; assumption)) only [W_block, P3, ↓reduceIte, reduceAdd, reduceEqDiff, reduceCtorEq, initFr, reduceLT, clsA, reduceLeDiff, reduceMul, reduceSub, reduceIte, wrap_succ (n := i) (by omega)]
        refine hnx3 _ _ _ ⟨i + 1, _, _, by omega, rfl, ?_, rfl⟩ (by omega)
        rw [List.take_succ_eq_append_getElem hc3, tB_app]
        simpa [tB, List.append_assoc] using w9
      · have hil : i = x.d.l.length := by omega
        subst hil
        simp (disch := first | assumption | omega | (simp only [LN] <;> omega) | (simp (disch := first | assumption | omega | (simp only [LN] <;> omega)) only [row_alloc, row_set]; assumption)) only [W_block, P3, ↓reduceIte, reduceAdd, reduceEqDiff, reduceCtorEq, initFr, reduceLT, clsA, reduceLeDiff, reduceMul, reduceSub, reduceIte]
        refine hex3 _ _ _ ?_
        rw [List.take_of_length_le (Nat.le_refl _)] at wt
        simp (disch := first | assumption | omega | (simp only [LN] <;> omega) | (simp (disch := first | assumption | omega | (simp only [LN] <;> omega)) only [row_alloc, row_set]; assumption)) only [W_block, P3, ↓reduceIte, reduceAdd, reduceEqDiff, reduceCtorEq, initFr, reduceLT, clsA, reduceLeDiff, reduceMul, reduceSub, reduceIte]
        refine callK (wt.out (by rw [List.length_append, lZ, tB_len]; omega)) ?_
        rintro _ K9 o9
        simp (disch := first | assumption | omega | (simp only [LN] <;> omega) | (simp (disch := first | assumption | omega | (simp only [LN] <;> omega)) only [row_alloc, row_set]; assumption)) only [W_block, P3, ↓reduceIte, reduceAdd, reduceEqDiff, reduceCtorEq, initFr, reduceLT, clsA, reduceLeDiff, reduceMul, reduceSub, reduceIte]
        refine hq2 _ _ ⟨_, rfl, ?_⟩
        have ez : hdM x ++ dB x.d = Z ++ tB x.d.l := by
          rw [hZ, hU]
          simp only [dB, u64s, List.flatMap_cons, List.flatMap_nil, List.append_assoc, List.append_nil]
        rw [ez]
        exact o9.base kB
    · have ee : enM x = hdM x := by unfold enM; rw [if_neg h1, if_neg h2, List.append_nil]
      rw [ee] at hq2
      simp (disch := first | assumption | omega | (simp only [LN] <;> omega) | (simp (disch := first | assumption | omega | (simp only [LN] <;> omega)) only [row_alloc, row_set]; assumption)) only [W_block, P3, ↓reduceIte, reduceAdd, reduceEqDiff, reduceCtorEq, initFr, reduceLT, clsA, reduceLeDiff, reduceMul, reduceSub, reduceIte, show ¬ ((x.k : Nat) : Int) = 1 by omega, show ¬ ((x.k : Nat) : Int) = 2 by omega]
      refine callK (ww.out (by rw [hdM_len]; omega)) ?_
      rintro _ K9 o9
      simp (disch := first | assumption | omega | (simp only [LN] <;> omega) | (simp (disch := first | assumption | omega | (simp only [LN] <;> omega)) only [row_alloc, row_set]; assumption)) only [W_block, P3, ↓reduceIte, reduceAdd, reduceEqDiff, reduceCtorEq, initFr, reduceLT, clsA, reduceLeDiff, reduceMul, reduceSub, reduceIte]
      exact hq2 _ _ ⟨_, rfl, o9.base kB⟩
end Go.AM.Rg
