/- The functions' code for the evaluator (printed by program), and that it is what they compile to. -/
import Derived.Test.YtfkboffbaikhoaaAmZ2
import Derived.Test.YtfkboffbaikhoaaProg
import Derived.KernelRfl
set_option linter.unusedSimpArgs false
set_option linter.unusedVariables false
set_option maxRecDepth 100000
namespace Go.AM.FdT
open Go.Proofs
def EFok (P : Program) (ng k : Nat) (f : EF) : Prop := ((compF P ng f.sl k).map fun af => (af.sl, af.res, simpC af.body)) = some (f.sl, f.res, f.body)
theorem ok_of {P : Program} {ng k : Nat} {f : EF} (h : EFok P ng k f) (ha : argsOK P k f.na = true) : f.ok P ng k := by
  unfold EFok at h
  simp only [Option.map_eq_some_iff, Prod.mk.injEq] at h
  obtain ⟨af, h1, h2, h3, h4⟩ := h
  exact ⟨af, h1, h2, h3, h4, ha⟩
/-- semaphore/semaphorelaw02.works -/
def e9 : EF := ⟨0, [0, 1, 2], [.t 0],
    .seq (.reg [
    ⟨.mov (.c (.bool false)), .fr 0, none⟩]) <|
    .seq (.reg [
    ⟨.new 27 1 [(.slice none 0 0)], .fr 1, none⟩]) <|
    .seq (.reg [
    ⟨.callf 22 [(.fr 1), (.c (.int .u8 1))], .tm, none⟩]) <|
    .seq (.reg [
    ⟨.callf 23 [(.fr 1), (.c (.int .u16 2))], .tm, none⟩]) <|
    .seq (.reg [
    ⟨.callf 24 [(.fr 1), (.c (.int .u32 255))], .tm, none⟩]) <|
    .seq (.reg [
    ⟨.bslice 5 1 1 [(.int .u8 0)] [(0, 1, (.c (.int .u8 7)))], .tm, none⟩,
    ⟨.callf 20 [(.fr 1), (.tm 0)], .tm, none⟩]) <|
    .seq (.reg [
    ⟨.bslice 5 1 3 [(.int .u8 0), (.int .u8 0), (.int .u8 0)] [(0, 1, (.c (.int .u8 1))), (1, 1, (.c (.int .u8 2))), (2, 1, (.c (.int .u8 3)))], .tm, none⟩,
    ⟨.callf 15 [(.tm 0)], .tm, none⟩,
    ⟨.mov (.tm 0), .fr 2, none⟩]) <|
    .seq (.reg [
    ⟨.callf 12 [(.fr 1)], .tm, none⟩,
    ⟨.b2s (.tm 0), .tm, none⟩,
    ⟨.bin .eql (.tm 0) (.c (.string ⟨#[1, 0, 2, 0, 0, 0, 255, 7]⟩)), .tm, none⟩,
    ⟨.mov (.tm 0), .tm, none⟩,
    ⟨.mov (.fr 2), .tm, some ((.tm 0), true)⟩,
    ⟨.callf 27 [(.tm 0)], .tm, some ((.tm 1), true)⟩,
    ⟨.bin .eql (.tm 0) (.c (.int .u16 258)), .tm, some ((.tm 2), true)⟩,
    ⟨.pick (.tm 3) (.tm 0) (.c (.bool false)), .tm, none⟩,
    ⟨.mov (.tm 0), .tm, none⟩,
    ⟨.mov (.fr 2), .tm, some ((.tm 0), true)⟩,
    ⟨.callf 27 [(.tm 0)], .tm, some ((.tm 1), true)⟩,
    ⟨.bin .eql (.tm 0) (.c (.int .u16 0)), .tm, some ((.tm 2), true)⟩,
    ⟨.pick (.tm 3) (.tm 0) (.c (.bool false)), .tm, none⟩,
    ⟨.mov (.tm 0), .tm, none⟩,
    ⟨.mov (.fr 2), .tm, some ((.tm 0), true)⟩,
    ⟨.callf 26 [(.tm 0)], .tm, some ((.tm 1), true)⟩,
    ⟨.bin .eql (.tm 0) (.c (.int .u8 0)), .tm, some ((.tm 2), true)⟩,
    ⟨.pick (.tm 3) (.tm 0) (.c (.bool false)), .tm, none⟩,
    ⟨.mov (.tm 0), .tm, none⟩,
    ⟨.mov (.fr 2), .tm, some ((.tm 0), true)⟩,
    ⟨.callf 18 [(.tm 0)], .tm, some ((.tm 1), true)⟩,
    ⟨.pick (.tm 2) (.tm 0) (.c (.bool false)), .tm, none⟩,
    ⟨.mov (.tm 0), .fr 0, none⟩]) <|
    .ret⟩
/-- (*semaphore/fields.Writer).Out -/
def e12 : EF := ⟨1, [0, 2, 4], [.t 1],
    .seq (.reg [
    ⟨.mov (.c (.slice none 0 0)), .fr 1, none⟩]) <|
    .seq (.seq (.reg [
    ⟨.mov (.fr 0), .tm, none⟩,
    ⟨.eqv 1 false (.tm 0) (.c (.pointer none)), .fr 2, none⟩]) <|
    .cond (.fr 2)
      (.seq (.reg [
      ⟨.mov (.c (.slice none 0 0)), .fr 1, none⟩]) <|
      .ret)
      (.skip)) <|
    .seq (.reg [
    ⟨.mov (.fr 0), .tm, none⟩,
    ⟨.nilck (.tm 0), .tm, none⟩,
    ⟨.faddr 0 (.tm 0), .tm, none⟩,
    ⟨.load1 (.tm 0), .tm, none⟩,
    ⟨.callf 31 [(.tm 0)], .tm, none⟩,
    ⟨.mov (.tm 0), .fr 1, none⟩]) <|
    .ret⟩
/-- semaphore/fields.Open -/
def e15 : EF := ⟨1, [0, 2], [.t 1],
    .seq (.reg [
    ⟨.mov (.c (.pointer none)), .fr 1, none⟩]) <|
    .seq (.reg [
    ⟨.mov (.fr 0), .tm, none⟩,
    ⟨.callf 31 [(.tm 0)], .tm, none⟩,
    ⟨.build [(.slice none 0 0), (.bool false)] [(0, 1, (.tm 0))], .tm, none⟩,
    ⟨.box 67 2 (.tm 0), .tm, none⟩,
    ⟨.mov (.tm 0), .fr 1, none⟩]) <|
    .ret⟩
/-- (*semaphore/fields.Reader).Bad -/
def e18 : EF := ⟨1, [0, 2], [.t 1],
    .seq (.reg [
    ⟨.mov (.c (.bool false)), .fr 1, none⟩]) <|
    .seq (.reg [
    ⟨.mov (.fr 0), .tm, none⟩,
    ⟨.eqv 1 false (.tm 0) (.c (.pointer none)), .tm, none⟩,
    ⟨.mov (.tm 0), .tm, none⟩,
    ⟨.mov (.fr 0), .tm, some ((.tm 0), false)⟩,
    ⟨.nilck (.tm 0), .tm, some ((.tm 1), false)⟩,
    ⟨.faddr 1 (.tm 0), .tm, some ((.tm 2), false)⟩,
    ⟨.load1 (.tm 0), .tm, some ((.tm 3), false)⟩,
    ⟨.pick (.tm 4) (.c (.bool true)) (.tm 0), .tm, none⟩,
    ⟨.mov (.tm 0), .fr 1, none⟩]) <|
    .ret⟩
/-- (*semaphore/fields.Writer).Raw -/
def e20 : EF := ⟨2, [0, 1, 5], [],
    .seq (.reg [
    ⟨.mov (.fr 0), .tm, none⟩,
    ⟨.eqv 1 true (.tm 0) (.c (.pointer none)), .fr 2, none⟩]) <|
    .cond (.fr 2)
      (.reg [
      ⟨.mov (.fr 0), .tm, none⟩,
      ⟨.mov (.fr 0), .tm, none⟩,
      ⟨.nilck (.tm 0), .tm, none⟩,
      ⟨.faddr 0 (.tm 0), .tm, none⟩,
      ⟨.load1 (.tm 0), .tm, none⟩,
      ⟨.mov (.fr 1), .tm, none⟩,
      ⟨.app 5 1 1 (.tm 1) (.tm 0), .tm, none⟩,
      ⟨.nilck (.tm 6), .tm, none⟩,
      ⟨.faddr 0 (.tm 0), .tm, none⟩,
      ⟨.store1 (.tm 0) (.tm 2), .no, none⟩])
      (.skip)⟩
/-- (*semaphore/fields.Writer).Byte -/
def e22 : EF := ⟨2, [0, 1], [],
    .reg [
    ⟨.mov (.fr 0), .tm, none⟩,
    ⟨.mov (.fr 1), .tm, none⟩,
    ⟨.iface 5 (.tm 0), .tm, none⟩,
    ⟨.callf 33 [(.tm 2), (.tm 0)], .tm, none⟩]⟩
/-- (*semaphore/fields.Writer).Short -/
def e23 : EF := ⟨2, [0, 1], [],
    .reg [
    ⟨.mov (.fr 0), .tm, none⟩,
    ⟨.mov (.fr 1), .tm, none⟩,
    ⟨.iface 54 (.tm 0), .tm, none⟩,
    ⟨.callf 33 [(.tm 2), (.tm 0)], .tm, none⟩]⟩
/-- (*semaphore/fields.Writer).Word -/
def e24 : EF := ⟨2, [0, 1], [],
    .reg [
    ⟨.mov (.fr 0), .tm, none⟩,
    ⟨.mov (.fr 1), .tm, none⟩,
    ⟨.iface 56 (.tm 0), .tm, none⟩,
    ⟨.callf 33 [(.tm 2), (.tm 0)], .tm, none⟩]⟩
/-- (*semaphore/fields.Reader).Byte -/
def e26 : EF := ⟨1, [0, 2], [.t 1],
    .seq (.reg [
    ⟨.mov (.c (.int .u8 0)), .fr 1, none⟩]) <|
    .seq (.reg [
    ⟨.mov (.fr 0), .tm, none⟩,
    ⟨.callf 34 [(.tm 0), (.c (.int .i64 1))], .tm, none⟩,
    ⟨.assert 5 (.int .u8 0) false (.tm 0), .tm, none⟩,
    ⟨.mov (.tm 0), .fr 1, none⟩]) <|
    .ret⟩
/-- (*semaphore/fields.Reader).Short -/
def e27 : EF := ⟨1, [0, 2], [.t 1],
    .seq (.reg [
    ⟨.mov (.c (.int .u16 0)), .fr 1, none⟩]) <|
    .seq (.reg [
    ⟨.mov (.fr 0), .tm, none⟩,
    ⟨.callf 34 [(.tm 0), (.c (.int .i64 2))], .tm, none⟩,
    ⟨.assert 54 (.int .u16 0) false (.tm 0), .tm, none⟩,
    ⟨.mov (.tm 0), .fr 1, none⟩]) <|
    .ret⟩
/-- slices.Clone[[]byte,byte] -/
def e31 : EF := ⟨1, [0, 2, 4], [.t 1],
    .seq (.reg [
    ⟨.mov (.c (.slice none 0 0)), .fr 1, none⟩]) <|
    .seq (.seq (.reg [
    ⟨.mov (.fr 0), .tm, none⟩,
    ⟨.eqv 2 false (.tm 0) (.c (.slice none 0 0)), .fr 2, none⟩]) <|
    .cond (.fr 2)
      (.seq (.reg [
      ⟨.mov (.c (.slice none 0 0)), .fr 1, none⟩]) <|
      .ret)
      (.skip)) <|
    .seq (.reg [
    ⟨.bslice 5 1 0 [] [], .tm, none⟩,
    ⟨.mov (.fr 0), .tm, none⟩,
    ⟨.app 5 1 1 (.tm 1) (.tm 0), .tm, none⟩,
    ⟨.mov (.tm 0), .fr 1, none⟩]) <|
    .ret⟩
/-- (*semaphore/fields.Reader).take -/
def e32 : EF := ⟨2, [0, 1, 4, 5, 6, 9], [.t 2],
    .seq (.reg [
    ⟨.mov (.c (.slice none 0 0)), .fr 2, none⟩]) <|
    .seq (.block 0 (.seq (.reg [
      ⟨.mov (.fr 0), .tm, none⟩,
      ⟨.eqv 1 false (.tm 0) (.c (.pointer none)), .tm, none⟩,
      ⟨.mov (.tm 0), .fr 4, none⟩]) <|
      .cond (.fr 4)
        (.seq (.reg [
        ⟨.mov (.c (.slice none 0 0)), .fr 2, none⟩]) <|
        .ret)
        (.seq (.reg [
        ⟨.mov (.fr 0), .tm, none⟩,
        ⟨.nilck (.tm 0), .tm, none⟩,
        ⟨.faddr 1 (.tm 0), .tm, none⟩,
        ⟨.load1 (.tm 0), .tm, none⟩,
        ⟨.mov (.tm 0), .tm, none⟩,
        ⟨.mov (.fr 1), .tm, some ((.tm 0), false)⟩,
        ⟨.bin .lss (.tm 0) (.c (.int .i64 0)), .tm, some ((.tm 1), false)⟩,
        ⟨.pick (.tm 2) (.c (.bool true)) (.tm 0), .tm, none⟩,
        ⟨.mov (.tm 0), .tm, none⟩,
        ⟨.mov (.fr 1), .tm, some ((.tm 0), false)⟩,
        ⟨.mov (.fr 0), .tm, some ((.tm 1), false)⟩,
        ⟨.nilck (.tm 0), .tm, some ((.tm 2), false)⟩,
        ⟨.faddr 0 (.tm 0), .tm, some ((.tm 3), false)⟩,
        ⟨.load1 (.tm 0), .tm, some ((.tm 4), false)⟩,
        ⟨.len false (.tm 0), .tm, some ((.tm 5), false)⟩,
        ⟨.bin .gtr (.tm 5) (.tm 0), .tm, some ((.tm 6), false)⟩,
        ⟨.pick (.tm 7) (.c (.bool true)) (.tm 0), .tm, none⟩,
        ⟨.mov (.tm 0), .fr 5, none⟩]) <|
        .cond (.fr 5)
          (.seq (.reg [
          ⟨.mov (.fr 0), .tm, none⟩,
          ⟨.mov (.fr 0), .tm, none⟩,
          ⟨.nilck (.tm 1), .tm, none⟩,
          ⟨.faddr 0 (.tm 0), .tm, none⟩,
          ⟨.store1 (.tm 0) (.c (.slice none 0 0)), .no, none⟩,
          ⟨.nilck (.tm 2), .tm, none⟩,
          ⟨.faddr 1 (.tm 0), .tm, none⟩,
          ⟨.store1 (.tm 0) (.c (.bool true)), .no, none⟩]) <|
          .seq (.reg [
          ⟨.mov (.c (.slice none 0 0)), .fr 2, none⟩]) <|
          .ret)
          (.skip)))) <|
    .seq (.reg [
    ⟨.mov (.fr 0), .tm, none⟩,
    ⟨.nilck (.tm 0), .tm, none⟩,
    ⟨.faddr 0 (.tm 0), .tm, none⟩,
    ⟨.load1 (.tm 0), .tm, none⟩,
    ⟨.mov (.fr 1), .tm, none⟩,
    ⟨.mov (.fr 1), .tm, none⟩,
    ⟨.slsl 1 (.tm 2) none (some (.tm 1)) (some (.tm 0)), .tm, none⟩,
    ⟨.mov (.tm 0), .fr 3, none⟩]) <|
    .seq (.reg [
    ⟨.mov (.fr 0), .tm, none⟩,
    ⟨.mov (.fr 0), .tm, none⟩,
    ⟨.nilck (.tm 0), .tm, none⟩,
    ⟨.faddr 0 (.tm 0), .tm, none⟩,
    ⟨.load1 (.tm 0), .tm, none⟩,
    ⟨.mov (.fr 1), .tm, none⟩,
    ⟨.slsl 1 (.tm 1) (some (.tm 0)) none none, .tm, none⟩,
    ⟨.nilck (.tm 6), .tm, none⟩,
    ⟨.faddr 0 (.tm 0), .tm, none⟩,
    ⟨.store1 (.tm 0) (.tm 2), .no, none⟩]) <|
    .seq (.reg [
    ⟨.mov (.fr 3), .tm, none⟩,
    ⟨.mov (.tm 0), .fr 2, none⟩]) <|
    .ret⟩
/-- (*semaphore/fields.Writer).put -/
def e33 : EF := ⟨2, [0, 1, 4, 5, 6, 8, 18], [],
    .seq (.seq (.reg [
    ⟨.mov (.fr 0), .tm, none⟩,
    ⟨.eqv 1 false (.tm 0) (.c (.pointer none)), .fr 5, none⟩]) <|
    .cond (.fr 5)
      (.ret)
      (.skip)) <|
    .seq (.reg [
    ⟨.mov (.fr 1), .tm, none⟩,
    ⟨.callf 35 [(.tm 0)], .tm, none⟩,
    ⟨.mov (.tm 0), .tm, none⟩,
    ⟨.extract (.tm 0) 0, .tm, none⟩,
    ⟨.extract (.tm 1) 1, .tm, none⟩,
    ⟨.mov (.tm 1), .fr 2, none⟩,
    ⟨.mov (.tm 0), .fr 3, none⟩]) <|
    .seq (.reg [
    ⟨.mov (.fr 3), .tm, none⟩,
    ⟨.bin .sub (.tm 0) (.c (.int .i64 1)), .tm, none⟩,
    ⟨.bin .mul (.c (.int .i64 8)) (.tm 0), .tm, none⟩,
    ⟨.mov (.tm 0), .fr 4, none⟩]) <|
    .block 0 (.loop (.seq (.seq (.reg [
        ⟨.mov (.fr 4), .tm, none⟩,
        ⟨.bin .geq (.tm 0) (.c (.int .i64 0)), .fr 6, none⟩]) <|
        .cond (.fr 6)
          (.skip)
          (.exit 0)) <|
        .seq (.block 1 (.reg [
          ⟨.mov (.fr 0), .tm, none⟩,
          ⟨.mov (.fr 0), .tm, none⟩,
          ⟨.nilck (.tm 0), .tm, none⟩,
          ⟨.faddr 0 (.tm 0), .tm, none⟩,
          ⟨.load1 (.tm 0), .tm, none⟩,
          ⟨.mov (.fr 2), .tm, none⟩,
          ⟨.mov (.fr 4), .tm, none⟩,
          ⟨.bin .shr (.tm 1) (.tm 0), .tm, none⟩,
          ⟨.i2i .u8 (.tm 0), .tm, none⟩,
          ⟨.bslice 5 1 1 [(.int .u8 0)] [(0, 1, (.tm 0))], .tm, none⟩,
          ⟨.app 5 1 1 (.tm 5) (.tm 0), .tm, none⟩,
          ⟨.nilck (.tm 10), .tm, none⟩,
          ⟨.faddr 0 (.tm 0), .tm, none⟩,
          ⟨.store1 (.tm 0) (.tm 2), .no, none⟩])) <|
        .reg [
        ⟨.mov (.fr 4), .tm, none⟩,
        ⟨.bin .sub (.tm 0) (.c (.int .i64 8)), .tm, none⟩,
        ⟨.mov (.tm 0), .fr 4, none⟩]))⟩
/-- (*semaphore/fields.Reader).number -/
def e34 : EF := ⟨2, [0, 1, 4], [.t 2],
    .seq (.reg [
    ⟨.mov (.c .nilIface), .fr 2, none⟩]) <|
    .seq (.reg [
    ⟨.mov (.fr 0), .tm, none⟩,
    ⟨.mov (.fr 1), .tm, none⟩,
    ⟨.callf 32 [(.tm 1), (.tm 0)], .tm, none⟩,
    ⟨.mov (.fr 1), .tm, none⟩,
    ⟨.callf 36 [(.tm 1), (.tm 0)], .tm, none⟩,
    ⟨.mov (.tm 0), .fr 2, none⟩]) <|
    .ret⟩
/-- semaphore/fields.split -/
def e35 : EF := ⟨1, [0, 2, 3, 4, 5, 6, 7, 8, 9, 15, 23, 31], [.t 1, .t 2],
    .seq (.reg [
    ⟨.mov (.c (.int .u64 0)), .fr 1, none⟩,
    ⟨.mov (.c (.int .i64 0)), .fr 2, none⟩]) <|
    .seq (.seq (.reg [
    ⟨.mov (.fr 0), .tm, none⟩,
    ⟨.assert 5 (.int .u8 0) true (.tm 0), .tm, none⟩,
    ⟨.mov (.tm 0), .tm, none⟩,
    ⟨.extract (.tm 0) 0, .tm, none⟩,
    ⟨.extract (.tm 1) 1, .tm, none⟩,
    ⟨.mov (.tm 1), .fr 3, none⟩,
    ⟨.mov (.tm 0), .fr 4, none⟩]) <|
    .seq (.reg [
    ⟨.mov (.fr 4), .fr 9, none⟩]) <|
    .cond (.fr 9)
      (.seq (.reg [
      ⟨.mov (.fr 3), .tm, none⟩,
      ⟨.i2i .u64 (.tm 0), .tm, none⟩,
      ⟨.mov (.tm 0), .fr 1, none⟩,
      ⟨.mov (.c (.int .i64 1)), .fr 2, none⟩]) <|
      .ret)
      (.skip)) <|
    .seq (.seq (.reg [
    ⟨.mov (.fr 0), .tm, none⟩,
    ⟨.assert 54 (.int .u16 0) true (.tm 0), .tm, none⟩,
    ⟨.mov (.tm 0), .tm, none⟩,
    ⟨.extract (.tm 0) 0, .tm, none⟩,
    ⟨.extract (.tm 1) 1, .tm, none⟩,
    ⟨.mov (.tm 1), .fr 5, none⟩,
    ⟨.mov (.tm 0), .fr 6, none⟩]) <|
    .seq (.reg [
    ⟨.mov (.fr 6), .fr 10, none⟩]) <|
    .cond (.fr 10)
      (.seq (.reg [
      ⟨.mov (.fr 5), .tm, none⟩,
      ⟨.i2i .u64 (.tm 0), .tm, none⟩,
      ⟨.mov (.tm 0), .fr 1, none⟩,
      ⟨.mov (.c (.int .i64 2)), .fr 2, none⟩]) <|
      .ret)
      (.skip)) <|
    .seq (.seq (.reg [
    ⟨.mov (.fr 0), .tm, none⟩,
    ⟨.assert 56 (.int .u32 0) true (.tm 0), .tm, none⟩,
    ⟨.mov (.tm 0), .tm, none⟩,
    ⟨.extract (.tm 0) 0, .tm, none⟩,
    ⟨.extract (.tm 1) 1, .tm, none⟩,
    ⟨.mov (.tm 1), .fr 7, none⟩,
    ⟨.mov (.tm 0), .fr 8, none⟩]) <|
    .seq (.reg [
    ⟨.mov (.fr 8), .fr 11, none⟩]) <|
    .cond (.fr 11)
      (.seq (.reg [
      ⟨.mov (.fr 7), .tm, none⟩,
      ⟨.i2i .u64 (.tm 0), .tm, none⟩,
      ⟨.mov (.tm 0), .fr 1, none⟩,
      ⟨.mov (.c (.int .i64 4)), .fr 2, none⟩]) <|
      .ret)
      (.skip)) <|
    .seq (.reg [
    ⟨.mov (.fr 0), .tm, none⟩,
    ⟨.assert 28 (.int .u64 0) false (.tm 0), .tm, none⟩,
    ⟨.mov (.tm 0), .fr 1, none⟩,
    ⟨.mov (.c (.int .i64 8)), .fr 2, none⟩]) <|
    .ret⟩
/-- semaphore/fields.joined -/
def e36 : EF := ⟨2, [0, 1, 4, 5, 7, 8, 9, 10, 11, 20, 21, 26, 31], [.t 2],
    .seq (.reg [
    ⟨.mov (.c .nilIface), .fr 2, none⟩]) <|
    .seq (.reg [
    ⟨.mov (.c (.int .u64 0)), .fr 3, none⟩]) <|
    .seq (.seq (.reg [
    ⟨.mov (.fr 0), .fr 5, none⟩,
    ⟨.len false (.fr 5), .fr 6, none⟩,
    ⟨.mov (.c (.int .i64 0)), .fr 7, none⟩]) <|
    .block 0 (.loop (.seq (.reg [
        ⟨.bin .lss (.fr 7) (.fr 6), .fr 8, none⟩]) <|
        .seq (.cond (.fr 8)
          (.skip)
          (.exit 0)) <|
        .seq (.block 1 (.seq (.reg [
          ⟨.iaddr 1 (.fr 5) (.fr 7), .tm, none⟩,
          ⟨.load1 (.tm 0), .tm, none⟩,
          ⟨.mov (.tm 0), .fr 4, none⟩]) <|
          .reg [
          ⟨.mov (.fr 3), .tm, none⟩,
          ⟨.bin .shl (.tm 0) (.c (.int .u64 8)), .tm, none⟩,
          ⟨.mov (.fr 4), .tm, none⟩,
          ⟨.i2i .u64 (.tm 0), .tm, none⟩,
          ⟨.bin .or (.tm 2) (.tm 0), .tm, none⟩,
          ⟨.mov (.tm 0), .fr 3, none⟩])) <|
        .reg [
        ⟨.bin .add (.fr 7) (.c (.int .i64 1)), .tm, none⟩,
        ⟨.mov (.tm 0), .fr 7, none⟩]))) <|
    .seq (.seq (.reg [
    ⟨.mov (.fr 1), .fr 9, none⟩]) <|
    .block 2 (.seq (.reg [
      ⟨.bin .eql (.fr 9) (.c (.int .i64 1)), .tm, none⟩,
      ⟨.mov (.tm 0), .fr 10, none⟩]) <|
      .cond (.fr 10)
        (.seq (.reg [
        ⟨.mov (.fr 3), .tm, none⟩,
        ⟨.i2i .u8 (.tm 0), .tm, none⟩,
        ⟨.iface 5 (.tm 0), .tm, none⟩,
        ⟨.mov (.tm 0), .fr 2, none⟩]) <|
        .ret)
        (.seq (.reg [
        ⟨.bin .eql (.fr 9) (.c (.int .i64 2)), .tm, none⟩,
        ⟨.mov (.tm 0), .fr 11, none⟩]) <|
        .cond (.fr 11)
          (.seq (.reg [
          ⟨.mov (.fr 3), .tm, none⟩,
          ⟨.i2i .u16 (.tm 0), .tm, none⟩,
          ⟨.iface 54 (.tm 0), .tm, none⟩,
          ⟨.mov (.tm 0), .fr 2, none⟩]) <|
          .ret)
          (.seq (.reg [
          ⟨.bin .eql (.fr 9) (.c (.int .i64 4)), .tm, none⟩,
          ⟨.mov (.tm 0), .fr 12, none⟩]) <|
          .cond (.fr 12)
            (.seq (.reg [
            ⟨.mov (.fr 3), .tm, none⟩,
            ⟨.i2i .u32 (.tm 0), .tm, none⟩,
            ⟨.iface 56 (.tm 0), .tm, none⟩,
            ⟨.mov (.tm 0), .fr 2, none⟩]) <|
            .ret)
            (.skip))))) <|
    .seq (.reg [
    ⟨.mov (.fr 3), .tm, none⟩,
    ⟨.iface 28 (.tm 0), .tm, none⟩,
    ⟨.mov (.tm 0), .fr 2, none⟩]) <|
    .ret⟩
theorem e9_ok : e9.ok Try.prog 0 9 := ok_of (by unfold EFok; kernel_rfl) (by kernel_rfl)
theorem e12_ok : e12.ok Try.prog 0 12 := ok_of (by unfold EFok; kernel_rfl) (by kernel_rfl)
theorem e15_ok : e15.ok Try.prog 0 15 := ok_of (by unfold EFok; kernel_rfl) (by kernel_rfl)
theorem e18_ok : e18.ok Try.prog 0 18 := ok_of (by unfold EFok; kernel_rfl) (by kernel_rfl)
theorem e20_ok : e20.ok Try.prog 0 20 := ok_of (by unfold EFok; kernel_rfl) (by kernel_rfl)
theorem e22_ok : e22.ok Try.prog 0 22 := ok_of (by unfold EFok; kernel_rfl) (by kernel_rfl)
theorem e23_ok : e23.ok Try.prog 0 23 := ok_of (by unfold EFok; kernel_rfl) (by kernel_rfl)
theorem e24_ok : e24.ok Try.prog 0 24 := ok_of (by unfold EFok; kernel_rfl) (by kernel_rfl)
theorem e26_ok : e26.ok Try.prog 0 26 := ok_of (by unfold EFok; kernel_rfl) (by kernel_rfl)
theorem e27_ok : e27.ok Try.prog 0 27 := ok_of (by unfold EFok; kernel_rfl) (by kernel_rfl)
theorem e31_ok : e31.ok Try.prog 0 31 := ok_of (by unfold EFok; kernel_rfl) (by kernel_rfl)
theorem e32_ok : e32.ok Try.prog 0 32 := ok_of (by unfold EFok; kernel_rfl) (by kernel_rfl)
theorem e33_ok : e33.ok Try.prog 0 33 := ok_of (by unfold EFok; kernel_rfl) (by kernel_rfl)
theorem e34_ok : e34.ok Try.prog 0 34 := ok_of (by unfold EFok; kernel_rfl) (by kernel_rfl)
theorem e35_ok : e35.ok Try.prog 0 35 := ok_of (by unfold EFok; kernel_rfl) (by kernel_rfl)
theorem e36_ok : e36.ok Try.prog 0 36 := ok_of (by unfold EFok; kernel_rfl) (by kernel_rfl)
def tab : FT := (.node 26 e26 (.node 20 e20 (.node 15 e15 (.node 12 e12 (.node 9 e9 .leaf .leaf) .leaf) (.node 18 e18 .leaf .leaf)) (.node 23 e23 (.node 22 e22 .leaf .leaf) (.node 24 e24 .leaf .leaf))) (.node 33 e33 (.node 31 e31 (.node 27 e27 .leaf .leaf) (.node 32 e32 .leaf .leaf)) (.node 35 e35 (.node 34 e34 .leaf .leaf) (.node 36 e36 .leaf .leaf))))
theorem tab_ok : tab.ok Try.prog 0 := ⟨e26_ok, ⟨e20_ok, ⟨e15_ok, ⟨e12_ok, ⟨e9_ok, trivial, trivial⟩, trivial⟩, ⟨e18_ok, trivial, trivial⟩⟩, ⟨e23_ok, ⟨e22_ok, trivial, trivial⟩, ⟨e24_ok, trivial, trivial⟩⟩⟩, ⟨e33_ok, ⟨e31_ok, ⟨e27_ok, trivial, trivial⟩, ⟨e32_ok, trivial, trivial⟩⟩, ⟨e35_ok, ⟨e34_ok, trivial, trivial⟩, ⟨e36_ok, trivial, trivial⟩⟩⟩⟩
end Go.AM.FdT
