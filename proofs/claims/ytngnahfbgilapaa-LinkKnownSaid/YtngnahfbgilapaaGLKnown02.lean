/- Part of the proof. -/
import Derived.Test.YtngnahfbgilapaaGLKnown01
import Derived.Test.YtngnahfbgilapaaProg
import Derived.KernelRfl
import Derived.OpenShut
import Derived.Carry
import Derived.ChangeSame
import Derived.WalkKit
import Derived.ProofKit
set_option linter.unusedSimpArgs false
set_option linter.unusedVariables false
set_option maxRecDepth 100000
namespace Go.AM.F
def Z68 : List Value := [(.int .u64 0), (.int .u64 0), (.int .u64 0), (.int .u8 0), (.int .u8 0), (.int .u8 0), (.int .u8 0), (.int .u8 0), (.int .u8 0), (.int .u8 0), (.int .u8 0), (.int .u8 0), (.int .u8 0), (.int .u8 0), (.int .u8 0), (.int .u8 0), (.int .u8 0), (.int .u8 0), (.int .u8 0), (.int .u8 0), (.int .u8 0), (.int .u8 0), (.int .u8 0), (.int .u8 0), (.int .u8 0), (.int .u8 0), (.int .u8 0), (.int .u8 0), (.int .u8 0), (.int .u8 0), (.int .u8 0), (.int .u8 0), (.int .u8 0), (.int .u8 0), (.int .u8 0), (.int .u8 0), (.int .u8 0), (.int .u8 0), (.int .u8 0), (.int .u8 0), (.int .u8 0), (.int .u8 0), (.int .u8 0), (.int .u8 0), (.int .u8 0), (.int .u8 0), (.int .u8 0), (.int .u8 0), (.int .u8 0), (.int .u8 0), (.int .u8 0), (.int .u8 0), (.int .u8 0), (.int .u8 0), (.int .u8 0), (.int .u8 0), (.int .u8 0), (.int .u8 0), (.int .u8 0), (.int .u8 0), (.int .u8 0), (.int .u8 0), (.int .u8 0), (.int .u8 0), (.int .u8 0), (.int .u8 0), (.int .u8 0), (.int .u32 0)]
def Z70 : List Value := [(.int .i64 0), (.int .i64 0), (.int .u64 0), (.int .u64 0), (.int .u64 0), (.int .u8 0), (.int .u8 0), (.int .u8 0), (.int .u8 0), (.int .u8 0), (.int .u8 0), (.int .u8 0), (.int .u8 0), (.int .u8 0), (.int .u8 0), (.int .u8 0), (.int .u8 0), (.int .u8 0), (.int .u8 0), (.int .u8 0), (.int .u8 0), (.int .u8 0), (.int .u8 0), (.int .u8 0), (.int .u8 0), (.int .u8 0), (.int .u8 0), (.int .u8 0), (.int .u8 0), (.int .u8 0), (.int .u8 0), (.int .u8 0), (.int .u8 0), (.int .u8 0), (.int .u8 0), (.int .u8 0), (.int .u8 0), (.int .u8 0), (.int .u8 0), (.int .u8 0), (.int .u8 0), (.int .u8 0), (.int .u8 0), (.int .u8 0), (.int .u8 0), (.int .u8 0), (.int .u8 0), (.int .u8 0), (.int .u8 0), (.int .u8 0), (.int .u8 0), (.int .u8 0), (.int .u8 0), (.int .u8 0), (.int .u8 0), (.int .u8 0), (.int .u8 0), (.int .u8 0), (.int .u8 0), (.int .u8 0), (.int .u8 0), (.int .u8 0), (.int .u8 0), (.int .u8 0), (.int .u8 0), (.int .u8 0), (.int .u8 0), (.int .u8 0), (.int .u8 0), (.int .u32 0)]
def f24 : AFunc := ⟨[0, 2, 3, 4, 5, 6],
 .seq (.reg [
 ⟨.new 65 5 [(.int .u8 0), (.int .u8 0), (.int .i64 0), (.int .i64 0), (.slice none 0 0)], .fr 1, none⟩,
 ⟨.mov (.c (.int .i64 0)), .fr 2, none⟩]) <|
 .seq (.reg [
 ⟨.mov (.fr 0), .tm, none⟩,
 ⟨.callf 62 [(.c (.int .u8 5)), (.tm 0)], .tm, none⟩,
 ⟨.mov (.tm 0), .tm, none⟩,
 ⟨.extract (.tm 0) 0, .tm, none⟩,
 ⟨.extract (.tm 1) 1, .tm, none⟩,
 ⟨.mov (.tm 1), .fr 3, none⟩,
 ⟨.mov (.tm 0), .fr 4, none⟩]) <|
 .seq (.reg [
 ⟨.mov (.fr 3), .tm, none⟩,
 ⟨.callf 63 [(.tm 0)], .tm, none⟩,
 ⟨.mov (.fr 3), .tm, none⟩,
 ⟨.callf 63 [(.tm 0)], .tm, none⟩,
 ⟨.mov (.fr 3), .tm, none⟩,
 ⟨.callf 64 [(.tm 0)], .tm, none⟩,
 ⟨.i2i .i64 (.tm 0), .tm, none⟩,
 ⟨.mov (.fr 3), .tm, none⟩,
 ⟨.callf 64 [(.tm 0)], .tm, none⟩,
 ⟨.i2i .i64 (.tm 0), .tm, none⟩,
 ⟨.build [(.int .u8 0), (.int .u8 0), (.int .i64 0), (.int .i64 0), (.slice none 0 0)] [(0, 1, (.tm 8)), (1, 1, (.tm 6)), (2, 1, (.tm 3)), (3, 1, (.tm 0))], .tm, none⟩,
 ⟨.new 65 5 [(.int .u8 0), (.int .u8 0), (.int .i64 0), (.int .i64 0), (.slice none 0 0)], .fr 5, none⟩,
 ⟨.storen 5 (.fr 5) (.tm 0), .no, none⟩]) <|
 .seq (.reg [
 ⟨.mov (.fr 3), .tm, none⟩,
 ⟨.mov (.fr 3), .tm, none⟩,
 ⟨.callf 75 [(.tm 0)], .tm, none⟩,
 ⟨.i2i .i64 (.tm 0), .tm, none⟩,
 ⟨.callf 74 [(.tm 3), (.tm 0)], .tm, none⟩,
 ⟨.callf 73 [(.tm 0)], .tm, none⟩,
 ⟨.faddr 4 (.fr 5), .tm, none⟩,
 ⟨.store1 (.tm 0) (.tm 1), .no, none⟩]) <|
 .seq (.reg [
 ⟨.mov (.fr 3), .tm, none⟩,
 ⟨.mov (.fr 4), .tm, none⟩,
 ⟨.loadn 5 (.fr 5), .tm, none⟩,
 ⟨.callf 76 [(.tm 2), (.tm 1), (.tm 0)], .tm, none⟩,
 ⟨.extract (.tm 0) 0, .tm, none⟩,
 ⟨.extract (.tm 1) 1, .tm, none⟩,
 ⟨.storen 5 (.fr 1) (.tm 1), .no, none⟩,
 ⟨.mov (.tm 0), .fr 2, none⟩]) <|
 .ret, [.cn 5 1, .t 2]⟩
def f25 : AFunc := ⟨[0, 2, 3, 4, 7, 33],
 .seq (.reg [
 ⟨.new 69 5 [(.int .u8 0), (.int .u8 0), (.int .i64 0), (.int .i64 0), (.string ByteArray.empty)], .fr 1, none⟩,
 ⟨.mov (.c (.bool false)), .fr 2, none⟩]) <|
 .seq (.seq (.reg [
 ⟨.mov (.fr 0), .tm, none⟩,
 ⟨.len false (.tm 0), .tm, none⟩,
 ⟨.bin .lss (.tm 0) (.c (.int .i64 25)), .fr 4, none⟩]) <|
 .cond (.fr 4)
 (.seq (.reg [
 ⟨.build [(.int .u8 0), (.int .u8 0), (.int .i64 0), (.int .i64 0), (.string ByteArray.empty)] [], .tm, none⟩,
 ⟨.storen 5 (.fr 1) (.tm 0), .no, none⟩,
 ⟨.mov (.c (.bool false)), .fr 2, none⟩]) <|
 .ret)
 (.skip)) <|
 .seq (.dreg [
 (⟨.mov (.fr 0), .tm, none⟩, []),
 (⟨.iaddr 1 (.tm 0) (.c (.int .i64 1)), .tm, none⟩, []),
 (⟨.load1 (.tm 0), .tm, none⟩, []),
 (⟨.mov (.fr 0), .tm, none⟩, []),
 (⟨.iaddr 1 (.tm 0) (.c (.int .i64 2)), .tm, none⟩, []),
 (⟨.load1 (.tm 0), .tm, none⟩, []),
 (⟨.mov (.fr 0), .tm, none⟩, []),
 (⟨.callf 67 [(.tm 0), (.c (.int .i64 3)), (.c (.int .i64 8))], .tm, none⟩, [2, 5]),
 (⟨.i2i .i64 (.tm 0), .tm, none⟩, []),
 (⟨.mov (.fr 0), .tm, none⟩, []),
 (⟨.callf 67 [(.tm 0), (.c (.int .i64 11)), (.c (.int .i64 8))], .tm, none⟩, [2, 5]),
 (⟨.i2i .i64 (.tm 0), .tm, none⟩, []),
 (⟨.mov (.fr 0), .tm, none⟩, []),
 (⟨.mov (.fr 0), .tm, none⟩, []),
 (⟨.len false (.tm 0), .tm, none⟩, []),
 (⟨.bin .sub (.tm 0) (.c (.int .i64 4)), .tm, none⟩, []),
 (⟨.slsl 1 (.tm 3) (some (.c (.int .i64 21))) (some (.tm 0)) none, .tm, none⟩, [7, 10]),
 (⟨.b2s (.tm 0), .tm, none⟩, [7, 10]),
 (⟨.build [(.int .u8 0), (.int .u8 0), (.int .i64 0), (.int .i64 0), (.string ByteArray.empty)] [(0, 1, (.tm 15)), (1, 1, (.tm 12)), (2, 1, (.tm 9)), (3, 1, (.tm 6)), (4, 1, (.tm 0))], .tm, none⟩, []),
 (⟨.new 69 5 [(.int .u8 0), (.int .u8 0), (.int .i64 0), (.int .i64 0), (.string ByteArray.empty)], .fr 3, none⟩, []),
 (⟨.storen 5 (.fr 3) (.tm 0), .no, none⟩, [])]) <|
 .seq (.seq (.dreg [
 (⟨.loadn 5 (.fr 3), .tm, none⟩, []),
 (⟨.callf 52 [(.tm 0)], .tm, none⟩, []),
 (⟨.b2s (.tm 0), .tm, none⟩, []),
 (⟨.mov (.fr 0), .tm, none⟩, []),
 (⟨.b2s (.tm 0), .tm, none⟩, [1]),
 (⟨.bin .neq (.tm 2) (.tm 0), .fr 5, none⟩, [])]) <|
 .cond (.fr 5)
 (.seq (.reg [
 ⟨.build [(.int .u8 0), (.int .u8 0), (.int .i64 0), (.int .i64 0), (.string ByteArray.empty)] [], .tm, none⟩,
 ⟨.storen 5 (.fr 1) (.tm 0), .no, none⟩,
 ⟨.mov (.c (.bool false)), .fr 2, none⟩]) <|
 .ret)
 (.skip)) <|
 .seq (.reg [
 ⟨.loadn 5 (.fr 3), .tm, none⟩,
 ⟨.storen 5 (.fr 1) (.tm 0), .no, none⟩,
 ⟨.mov (.c (.bool true)), .fr 2, none⟩]) <|
 .ret, [.cn 5 1, .t 2]⟩
def f36 : AFunc := ⟨[0, 1, 2],
 .seq (.reg [
 ⟨.box 65 5 (.fr 0), .fr 1, none⟩,
 ⟨.mov (.c (.slice none 0 0)), .fr 2, none⟩]) <|
 .seq (.reg [
 ⟨.loadn 5 (.fr 1), .tm, none⟩,
 ⟨.iface 65 (.tm 0), .tm, none⟩,
 ⟨.mkfn (.func 78) [] [(.fr 1)], .tm, none⟩,
 ⟨.callf 77 [(.c (.int .u8 5)), (.tm 1), (.tm 0)], .tm, none⟩,
 ⟨.mov (.tm 0), .fr 2, none⟩]) <|
 .ret, [.t 2]⟩
def f52 : AFunc := ⟨[0, 1, 2, 3, 27],
 .seq (.reg [
 ⟨.box 69 5 (.fr 0), .fr 1, none⟩,
 ⟨.mov (.c (.slice none 0 0)), .fr 2, none⟩]) <|
 .seq (.seq (.reg [
 ⟨.faddr 2 (.fr 1), .tm, none⟩,
 ⟨.load1 (.tm 0), .tm, none⟩,
 ⟨.bin .lss (.tm 0) (.c (.int .i64 0)), .tm, none⟩,
 ⟨.mov (.tm 0), .tm, none⟩,
 ⟨.faddr 2 (.fr 1), .tm, some ((.tm 0), false)⟩,
 ⟨.load1 (.tm 0), .tm, some ((.tm 1), false)⟩,
 ⟨.bin .gtr (.tm 0) (.c (.int .i64 4611686018427387904)), .tm, some ((.tm 2), false)⟩,
 ⟨.pick (.tm 3) (.c (.bool true)) (.tm 0), .tm, none⟩,
 ⟨.mov (.tm 0), .tm, none⟩,
 ⟨.faddr 3 (.fr 1), .tm, some ((.tm 0), false)⟩,
 ⟨.load1 (.tm 0), .tm, some ((.tm 1), false)⟩,
 ⟨.bin .lss (.tm 0) (.c (.int .i64 0)), .tm, some ((.tm 2), false)⟩,
 ⟨.pick (.tm 3) (.c (.bool true)) (.tm 0), .tm, none⟩,
 ⟨.mov (.tm 0), .tm, none⟩,
 ⟨.faddr 3 (.fr 1), .tm, some ((.tm 0), false)⟩,
 ⟨.load1 (.tm 0), .tm, some ((.tm 1), false)⟩,
 ⟨.bin .gtr (.tm 0) (.c (.int .i64 4611686018427387904)), .tm, some ((.tm 2), false)⟩,
 ⟨.pick (.tm 3) (.c (.bool true)) (.tm 0), .tm, none⟩,
 ⟨.mov (.tm 0), .tm, none⟩,
 ⟨.faddr 4 (.fr 1), .tm, some ((.tm 0), false)⟩,
 ⟨.load1 (.tm 0), .tm, some ((.tm 1), false)⟩,
 ⟨.len true (.tm 0), .tm, some ((.tm 2), false)⟩,
 ⟨.bin .gtr (.tm 0) (.c (.int .i64 2048)), .tm, some ((.tm 3), false)⟩,
 ⟨.pick (.tm 4) (.c (.bool true)) (.tm 0), .fr 4, none⟩]) <|
 .cond (.fr 4)
 (.seq (.reg [
 ⟨.mov (.c (.slice none 0 0)), .fr 2, none⟩]) <|
 .ret)
 (.skip)) <|
 .seq (.reg [
 ⟨.faddr 0 (.fr 1), .tm, none⟩,
 ⟨.load1 (.tm 0), .tm, none⟩,
 ⟨.faddr 1 (.fr 1), .tm, none⟩,
 ⟨.load1 (.tm 0), .tm, none⟩,
 ⟨.bslice 5 1 3 [(.int .u8 0), (.int .u8 0), (.int .u8 0)] [(0, 1, (.c (.int .u8 5))), (1, 1, (.tm 2)), (2, 1, (.tm 0))], .tm, none⟩,
 ⟨.mov (.tm 0), .fr 3, none⟩]) <|
 .seq (.reg [
 ⟨.mov (.fr 3), .tm, none⟩,
 ⟨.faddr 2 (.fr 1), .tm, none⟩,
 ⟨.load1 (.tm 0), .tm, none⟩,
 ⟨.i2i .u64 (.tm 0), .tm, none⟩,
 ⟨.callf 91 [(.tm 0), (.c (.int .i64 8))], .tm, none⟩,
 ⟨.app 5 1 1 (.tm 4) (.tm 0), .tm, none⟩,
 ⟨.mov (.tm 0), .fr 3, none⟩]) <|
 .seq (.reg [
 ⟨.mov (.fr 3), .tm, none⟩,
 ⟨.faddr 3 (.fr 1), .tm, none⟩,
 ⟨.load1 (.tm 0), .tm, none⟩,
 ⟨.i2i .u64 (.tm 0), .tm, none⟩,
 ⟨.callf 91 [(.tm 0), (.c (.int .i64 8))], .tm, none⟩,
 ⟨.app 5 1 1 (.tm 4) (.tm 0), .tm, none⟩,
 ⟨.mov (.tm 0), .fr 3, none⟩]) <|
 .seq (.reg [
 ⟨.mov (.fr 3), .tm, none⟩,
 ⟨.faddr 4 (.fr 1), .tm, none⟩,
 ⟨.load1 (.tm 0), .tm, none⟩,
 ⟨.len true (.tm 0), .tm, none⟩,
 ⟨.i2i .u64 (.tm 0), .tm, none⟩,
 ⟨.callf 91 [(.tm 0), (.c (.int .i64 2))], .tm, none⟩,
 ⟨.app 5 1 1 (.tm 5) (.tm 0), .tm, none⟩,
 ⟨.mov (.tm 0), .fr 3, none⟩]) <|
 .seq (.reg [
 ⟨.mov (.fr 3), .tm, none⟩,
 ⟨.faddr 4 (.fr 1), .tm, none⟩,
 ⟨.load1 (.tm 0), .tm, none⟩,
 ⟨.apps 5 1 (.tm 2) (.tm 0), .tm, none⟩,
 ⟨.callf 92 [(.tm 0)], .tm, none⟩,
 ⟨.mov (.tm 0), .fr 2, none⟩]) <|
 .ret, [.t 2]⟩
def f62 : AFunc := ⟨[0, 1, 4, 5, 6, 16],
 .seq (.reg [
 ⟨.mov (.c (.pointer none)), .fr 2, none⟩,
 ⟨.mov (.c (.bool false)), .fr 3, none⟩]) <|
 .seq (.seq (.reg [
 ⟨.mov (.fr 1), .tm, none⟩,
 ⟨.len false (.tm 0), .tm, none⟩,
 ⟨.bin .lss (.tm 0) (.c (.int .i64 5)), .tm, none⟩,
 ⟨.mov (.tm 0), .tm, none⟩,
 ⟨.mov (.fr 1), .tm, some ((.tm 0), false)⟩,
 ⟨.iaddr 1 (.tm 0) (.c (.int .i64 0)), .tm, some ((.tm 1), false)⟩,
 ⟨.load1 (.tm 0), .tm, some ((.tm 2), false)⟩,
 ⟨.mov (.fr 0), .tm, some ((.tm 3), false)⟩,
 ⟨.bin .neq (.tm 1) (.tm 0), .tm, some ((.tm 4), false)⟩,
 ⟨.pick (.tm 5) (.c (.bool true)) (.tm 0), .fr 5, none⟩]) <|
 .cond (.fr 5)
 (.seq (.reg [
 ⟨.mov (.c (.pointer none)), .fr 2, none⟩,
 ⟨.mov (.c (.bool false)), .fr 3, none⟩]) <|
 .ret)
 (.skip)) <|
 .seq (.reg [
 ⟨.mov (.fr 1), .tm, none⟩,
 ⟨.mov (.fr 1), .tm, none⟩,
 ⟨.len false (.tm 0), .tm, none⟩,
 ⟨.bin .sub (.tm 0) (.c (.int .i64 4)), .tm, none⟩,
 ⟨.slsl 1 (.tm 3) (some (.tm 0)) none none, .tm, none⟩,
 ⟨.callf 96 [(.tm 0)], .tm, none⟩,
 ⟨.mov (.tm 0), .fr 4, none⟩]) <|
 .seq (.dreg [
 (⟨.mov (.fr 1), .tm, none⟩, []),
 (⟨.mov (.fr 1), .tm, none⟩, []),
 (⟨.len false (.tm 0), .tm, none⟩, []),
 (⟨.bin .sub (.tm 0) (.c (.int .i64 4)), .tm, none⟩, []),
 (⟨.slsl 1 (.tm 3) (some (.c (.int .i64 1))) (some (.tm 0)) none, .tm, none⟩, []),
 (⟨.callf 96 [(.tm 0)], .tm, none⟩, []),
 (⟨.mov (.fr 4), .tm, none⟩, []),
 (⟨.callf 65 [(.tm 0)], .tm, none⟩, []),
 (⟨.mov (.fr 1), .tm, none⟩, []),
 (⟨.mov (.fr 1), .tm, none⟩, []),
 (⟨.len false (.tm 0), .tm, none⟩, []),
 (⟨.bin .sub (.tm 0) (.c (.int .i64 4)), .tm, none⟩, []),
 (⟨.slsl 1 (.tm 3) none (some (.tm 0)) none, .tm, none⟩, [5, 7]),
 (⟨.callf 97 [(.tm 0)], .tm, none⟩, []),
 (⟨.bin .eql (.tm 6) (.tm 0), .tm, none⟩, []),
 (⟨.mov (.tm 9), .fr 2, none⟩, []),
 (⟨.mov (.tm 0), .fr 3, none⟩, [])]) <|
 .ret, [.t 2, .t 3]⟩
def f67 : AFunc := ⟨[0, 1, 2, 6, 12],
 .seq (.reg [
 ⟨.mov (.c (.int .u64 0)), .fr 3, none⟩]) <|
 .seq (.seq (.reg [
 ⟨.mov (.fr 1), .tm, none⟩,
 ⟨.mov (.fr 2), .tm, none⟩,
 ⟨.bin .add (.tm 1) (.tm 0), .tm, none⟩,
 ⟨.mov (.fr 0), .tm, none⟩,
 ⟨.len false (.tm 0), .tm, none⟩,
 ⟨.bin .gtr (.tm 2) (.tm 0), .fr 4, none⟩]) <|
 .cond (.fr 4)
 (.seq (.reg [
 ⟨.mov (.c (.int .u64 0)), .fr 3, none⟩]) <|
 .ret)
 (.skip)) <|
 .seq (.reg [
 ⟨.mov (.fr 0), .tm, none⟩,
 ⟨.mov (.fr 1), .tm, none⟩,
 ⟨.mov (.fr 1), .tm, none⟩,
 ⟨.mov (.fr 2), .tm, none⟩,
 ⟨.bin .add (.tm 1) (.tm 0), .tm, none⟩,
 ⟨.slsl 1 (.tm 4) (some (.tm 3)) (some (.tm 0)) none, .tm, none⟩,
 ⟨.callf 102 [(.tm 0)], .tm, none⟩,
 ⟨.mov (.tm 0), .fr 3, none⟩]) <|
 .ret, [.t 3]⟩
def f76 : AFunc := ⟨[0, 1, 2, 5, 6, 7, 8, 25],
 .seq (.reg [
 ⟨.box 65 5 (.fr 2), .fr 3, none⟩,
 ⟨.new 65 5 [(.int .u8 0), (.int .u8 0), (.int .i64 0), (.int .i64 0), (.slice none 0 0)], .fr 4, none⟩,
 ⟨.mov (.c (.int .i64 0)), .fr 5, none⟩]) <|
 .seq (.reg [
 ⟨.new 65 5 [(.int .u8 0), (.int .u8 0), (.int .i64 0), (.int .i64 0), (.slice none 0 0)], .fr 6, none⟩]) <|
 .seq (.seq (.reg [
 ⟨.mov (.fr 1), .tm, none⟩,
 ⟨.un .not (.tm 0), .tm, none⟩,
 ⟨.mov (.tm 0), .tm, none⟩,
 ⟨.mov (.fr 0), .tm, some ((.tm 0), false)⟩,
 ⟨.callf 99 [(.tm 0)], .tm, some ((.tm 1), false)⟩,
 ⟨.pick (.tm 2) (.c (.bool true)) (.tm 0), .tm, none⟩,
 ⟨.mov (.tm 0), .tm, none⟩,
 ⟨.mov (.fr 0), .tm, some ((.tm 0), false)⟩,
 ⟨.callf 100 [(.tm 0)], .tm, some ((.tm 1), false)⟩,
 ⟨.bin .gtr (.tm 0) (.c (.int .i64 0)), .tm, some ((.tm 2), false)⟩,
 ⟨.pick (.tm 3) (.c (.bool true)) (.tm 0), .tm, none⟩,
 ⟨.mov (.tm 0), .tm, none⟩,
 ⟨.loadn 5 (.fr 3), .tm, some ((.tm 0), false)⟩,
 ⟨.iface 65 (.tm 0), .tm, some ((.tm 1), false)⟩,
 ⟨.callf 101 [(.tm 0)], .tm, some ((.tm 2), false)⟩,
 ⟨.un .not (.tm 0), .tm, some ((.tm 3), false)⟩,
 ⟨.pick (.tm 4) (.c (.bool true)) (.tm 0), .fr 7, none⟩]) <|
 .cond (.fr 7)
 (.seq (.reg [
 ⟨.loadn 5 (.fr 6), .tm, none⟩,
 ⟨.storen 5 (.fr 4) (.tm 0), .no, none⟩,
 ⟨.mov (.c (.int .i64 130)), .fr 5, none⟩]) <|
 .ret)
 (.skip)) <|
 .seq (.reg [
 ⟨.loadn 5 (.fr 3), .tm, none⟩,
 ⟨.storen 5 (.fr 4) (.tm 0), .no, none⟩,
 ⟨.mov (.c (.int .i64 0)), .fr 5, none⟩]) <|
 .ret, [.cn 5 4, .t 5]⟩
def f77 : AFunc := ⟨[0, 1, 2, 6, 7, 10],
 .seq (.reg [
 ⟨.mov (.c (.slice none 0 0)), .fr 3, none⟩]) <|
 .seq (.seq (.reg [
 ⟨.mov (.fr 1), .tm, none⟩,
 ⟨.callf 101 [(.tm 0)], .tm, none⟩,
 ⟨.un .not (.tm 0), .fr 5, none⟩]) <|
 .cond (.fr 5)
 (.seq (.reg [
 ⟨.mov (.c (.slice none 0 0)), .fr 3, none⟩]) <|
 .ret)
 (.skip)) <|
 .seq (.reg [
 ⟨.new 166 1 [(.slice none 0 0)], .fr 4, none⟩]) <|
 .seq (.reg [
 ⟨.mov (.fr 0), .tm, none⟩,
 ⟨.callf 79 [(.fr 4), (.tm 0)], .tm, none⟩]) <|
 .seq (.reg [
 ⟨.mov (.fr 2), .tm, none⟩,
 ⟨.callv (.tm 0) [(.fr 4)], .tm, none⟩]) <|
 .seq (.reg [
 ⟨.callf 104 [(.fr 4)], .tm, none⟩,
 ⟨.callf 97 [(.tm 0)], .tm, none⟩,
 ⟨.callf 85 [(.fr 4), (.tm 0)], .tm, none⟩]) <|
 .seq (.reg [
 ⟨.callf 104 [(.fr 4)], .tm, none⟩,
 ⟨.mov (.tm 0), .fr 3, none⟩]) <|
 .ret, [.t 3]⟩
def f78 : AFunc := ⟨[0, 1],
 .seq (.reg [
 ⟨.mov (.fr 0), .tm, none⟩,
 ⟨.faddr 0 (.fr 1), .tm, none⟩,
 ⟨.load1 (.tm 0), .tm, none⟩,
 ⟨.callf 79 [(.tm 2), (.tm 0)], .tm, none⟩]) <|
 .seq (.reg [
 ⟨.mov (.fr 0), .tm, none⟩,
 ⟨.faddr 1 (.fr 1), .tm, none⟩,
 ⟨.load1 (.tm 0), .tm, none⟩,
 ⟨.callf 79 [(.tm 2), (.tm 0)], .tm, none⟩]) <|
 .seq (.reg [
 ⟨.mov (.fr 0), .tm, none⟩,
 ⟨.faddr 2 (.fr 1), .tm, none⟩,
 ⟨.load1 (.tm 0), .tm, none⟩,
 ⟨.faddr 3 (.fr 1), .tm, none⟩,
 ⟨.load1 (.tm 0), .tm, none⟩,
 ⟨.bslice 2 1 2 [(.int .i64 0), (.int .i64 0)] [(0, 1, (.tm 2)), (1, 1, (.tm 0))], .tm, none⟩,
 ⟨.callf 80 [(.tm 5), (.tm 0)], .tm, none⟩]) <|
 .seq (.reg [
 ⟨.mov (.fr 0), .tm, none⟩,
 ⟨.faddr 4 (.fr 1), .tm, none⟩,
 ⟨.load1 (.tm 0), .tm, none⟩,
 ⟨.len false (.tm 0), .tm, none⟩,
 ⟨.i2i .u16 (.tm 0), .tm, none⟩,
 ⟨.callf 81 [(.tm 4), (.tm 0)], .tm, none⟩]) <|
 .reg [
 ⟨.mov (.fr 0), .tm, none⟩,
 ⟨.faddr 4 (.fr 1), .tm, none⟩,
 ⟨.load1 (.tm 0), .tm, none⟩,
 ⟨.callf 82 [(.tm 2), (.tm 0)], .tm, none⟩], []⟩
def f80 : AFunc := ⟨[0, 1, 5, 6, 7, 8, 9],
 .seq (.reg [
 ⟨.mov (.fr 1), .fr 3, none⟩,
 ⟨.len false (.fr 3), .fr 4, none⟩,
 ⟨.mov (.c (.int .i64 0)), .fr 5, none⟩]) <|
 .block 0 (.loop (.seq (.reg [
 ⟨.bin .lss (.fr 5) (.fr 4), .fr 6, none⟩]) <|
 .seq (.cond (.fr 6)
 (.skip)
 (.exit 0)) <|
 .seq (.block 1 (.seq (.reg [
 ⟨.iaddr 1 (.fr 3) (.fr 5), .tm, none⟩,
 ⟨.load1 (.tm 0), .tm, none⟩,
 ⟨.mov (.tm 0), .fr 2, none⟩]) <|
 .reg [
 ⟨.mov (.fr 0), .tm, none⟩,
 ⟨.mov (.fr 2), .tm, none⟩,
 ⟨.i2i .u64 (.tm 0), .tm, none⟩,
 ⟨.callf 84 [(.tm 2), (.tm 0)], .tm, none⟩])) <|
 .reg [
 ⟨.bin .add (.fr 5) (.c (.int .i64 1)), .tm, none⟩,
 ⟨.mov (.tm 0), .fr 5, none⟩])), []⟩
def f91 : AFunc := ⟨[0, 1, 4],
 .seq (.reg [
 ⟨.mov (.c (.slice none 0 0)), .fr 2, none⟩]) <|
 .seq (.reg [
 ⟨.mov (.fr 0), .tm, none⟩,
 ⟨.mov (.fr 1), .tm, none⟩,
 ⟨.callf 106 [(.tm 1), (.tm 0)], .tm, none⟩,
 ⟨.mov (.tm 0), .fr 2, none⟩]) <|
 .ret, [.t 2]⟩
def f92 : AFunc := ⟨[0, 2],
 .seq (.reg [
 ⟨.mov (.c (.slice none 0 0)), .fr 1, none⟩]) <|
 .seq (.reg [
 ⟨.mov (.fr 0), .tm, none⟩,
 ⟨.mov (.fr 0), .tm, none⟩,
 ⟨.callf 107 [(.tm 0)], .tm, none⟩,
 ⟨.i2i .u64 (.tm 0), .tm, none⟩,
 ⟨.callf 91 [(.tm 0), (.c (.int .i64 4))], .tm, none⟩,
 ⟨.app 5 1 1 (.tm 4) (.tm 0), .tm, none⟩,
 ⟨.mov (.tm 0), .fr 1, none⟩]) <|
 .ret, [.t 1]⟩
def f101 : AFunc := ⟨[0, 2, 3, 4, 5, 6, 7, 8, 9, 10, 16, 40, 52],
 .seq (.reg [
 ⟨.mov (.c (.bool false)), .fr 1, none⟩]) <|
 .seq (.seq (.reg [
 ⟨.mov (.fr 0), .tm, none⟩,
 ⟨.assert 30 (.agg #[(.int .u8 0), (.int .i64 0), (.int .u64 0), (.int .u32 0), (.int .u32 0), (.slice none 0 0)]) true (.tm 0), .tm, none⟩,
 ⟨.mov (.tm 0), .tm, none⟩,
 ⟨.extract (.tm 0) 0, .tm, none⟩,
 ⟨.extract (.tm 1) 1, .tm, none⟩,
 ⟨.new 30 6 [(.int .u8 0), (.int .i64 0), (.int .u64 0), (.int .u32 0), (.int .u32 0), (.slice none 0 0)], .fr 2, none⟩,
 ⟨.storen 6 (.fr 2) (.tm 1), .no, none⟩,
 ⟨.mov (.tm 0), .fr 3, none⟩]) <|
 .seq (.reg [
 ⟨.mov (.fr 3), .fr 10, none⟩]) <|
 .cond (.fr 10)
 (.seq (.reg [
 ⟨.faddr 1 (.fr 2), .tm, none⟩,
 ⟨.load1 (.tm 0), .tm, none⟩,
 ⟨.bslice 2 1 1 [(.int .i64 0)] [(0, 1, (.tm 0))], .tm, none⟩,
 ⟨.callf 111 [(.tm 0)], .tm, none⟩,
 ⟨.mov (.tm 0), .tm, none⟩,
 ⟨.faddr 2 (.fr 2), .tm, some ((.tm 0), true)⟩,
 ⟨.faddr 3 (.tm 0), .tm, some ((.tm 1), true)⟩,
 ⟨.load1 (.tm 0), .tm, some ((.tm 2), true)⟩,
 ⟨.len false (.tm 0), .tm, some ((.tm 3), true)⟩,
 ⟨.bin .leq (.tm 0) (.c (.int .i64 8)), .tm, some ((.tm 4), true)⟩,
 ⟨.pick (.tm 5) (.tm 0) (.c (.bool false)), .tm, none⟩,
 ⟨.mov (.tm 0), .tm, none⟩,
 ⟨.faddr 2 (.fr 2), .tm, some ((.tm 0), true)⟩,
 ⟨.faddr 3 (.tm 0), .tm, some ((.tm 1), true)⟩,
 ⟨.load1 (.tm 0), .tm, some ((.tm 2), true)⟩,
 ⟨.callf 112 [(.tm 0), (.fn 113)], .tm, some ((.tm 3), true)⟩,
 ⟨.un .not (.tm 0), .tm, some ((.tm 4), true)⟩,
 ⟨.pick (.tm 5) (.tm 0) (.c (.bool false)), .tm, none⟩,
 ⟨.mov (.tm 0), .fr 1, none⟩]) <|
 .ret)
 (.skip)) <|
 .seq (.seq (.reg [
 ⟨.mov (.fr 0), .tm, none⟩,
 ⟨.assert 42 (.agg #[(.int .u8 0), (.int .i64 0), (.int .i64 0), (.int .u64 0), (.int .u32 0)]) true (.tm 0), .tm, none⟩,
 ⟨.mov (.tm 0), .tm, none⟩,
 ⟨.extract (.tm 0) 0, .tm, none⟩,
 ⟨.extract (.tm 1) 1, .tm, none⟩,
 ⟨.new 42 5 [(.int .u8 0), (.int .i64 0), (.int .i64 0), (.int .u64 0), (.int .u32 0)], .fr 4, none⟩,
 ⟨.storen 5 (.fr 4) (.tm 1), .no, none⟩,
 ⟨.mov (.tm 0), .fr 5, none⟩]) <|
 .seq (.reg [
 ⟨.mov (.fr 5), .fr 11, none⟩]) <|
 .cond (.fr 11)
 (.seq (.reg [
 ⟨.faddr 1 (.fr 4), .tm, none⟩,
 ⟨.load1 (.tm 0), .tm, none⟩,
 ⟨.faddr 2 (.fr 4), .tm, none⟩,
 ⟨.load1 (.tm 0), .tm, none⟩,
 ⟨.bslice 2 1 2 [(.int .i64 0), (.int .i64 0)] [(0, 1, (.tm 2)), (1, 1, (.tm 0))], .tm, none⟩,
 ⟨.callf 111 [(.tm 0)], .tm, none⟩,
 ⟨.mov (.tm 0), .fr 1, none⟩]) <|
 .ret)
 (.skip)) <|
 .seq (.seq (.reg [
 ⟨.mov (.fr 0), .tm, none⟩,
 ⟨.assert 57 (.agg Z70.toArray) true (.tm 0), .tm, none⟩,
 ⟨.mov (.tm 0), .tm, none⟩,
 ⟨.extract (.tm 0) 0, .tm, none⟩,
 ⟨.extract (.tm 1) 1, .tm, none⟩,
 ⟨.new 57 70 Z70, .fr 6, none⟩,
 ⟨.storen 70 (.fr 6) (.tm 1), .no, none⟩,
 ⟨.mov (.tm 0), .fr 7, none⟩]) <|
 .seq (.reg [
 ⟨.mov (.fr 7), .fr 12, none⟩]) <|
 .cond (.fr 12)
 (.seq (.reg [
 ⟨.faddr 0 (.fr 6), .tm, none⟩,
 ⟨.load1 (.tm 0), .tm, none⟩,
 ⟨.faddr 1 (.fr 6), .tm, none⟩,
 ⟨.load1 (.tm 0), .tm, none⟩,
 ⟨.bslice 2 1 2 [(.int .i64 0), (.int .i64 0)] [(0, 1, (.tm 2)), (1, 1, (.tm 0))], .tm, none⟩,
 ⟨.callf 111 [(.tm 0)], .tm, none⟩,
 ⟨.mov (.tm 0), .fr 1, none⟩]) <|
 .ret)
 (.skip)) <|
 .seq (.reg [
 ⟨.mov (.fr 0), .tm, none⟩,
 ⟨.assert 65 (.agg #[(.int .u8 0), (.int .u8 0), (.int .i64 0), (.int .i64 0), (.slice none 0 0)]) true (.tm 0), .tm, none⟩,
 ⟨.mov (.tm 0), .tm, none⟩,
 ⟨.extract (.tm 0) 0, .tm, none⟩,
 ⟨.extract (.tm 1) 1, .tm, none⟩,
 ⟨.new 65 5 [(.int .u8 0), (.int .u8 0), (.int .i64 0), (.int .i64 0), (.slice none 0 0)], .fr 8, none⟩,
 ⟨.storen 5 (.fr 8) (.tm 1), .no, none⟩,
 ⟨.mov (.tm 0), .fr 9, none⟩]) <|
 .seq (.reg [
 ⟨.mov (.fr 9), .tm, none⟩,
 ⟨.un .not (.tm 0), .tm, none⟩,
 ⟨.mov (.tm 0), .tm, none⟩,
 ⟨.faddr 2 (.fr 8), .tm, some ((.tm 0), false)⟩,
 ⟨.load1 (.tm 0), .tm, some ((.tm 1), false)⟩,
 ⟨.bin .geq (.tm 0) (.c (.int .i64 0)), .tm, some ((.tm 2), false)⟩,
 ⟨.mov (.tm 0), .tm, some ((.tm 3), false)⟩,
 ⟨.faddr 2 (.fr 8), .tm, some ((.tm 0), true)⟩,
 ⟨.load1 (.tm 0), .tm, some ((.tm 1), true)⟩,
 ⟨.bin .leq (.tm 0) (.c (.int .i64 4611686018427387904)), .tm, some ((.tm 2), true)⟩,
 ⟨.pick (.tm 3) (.tm 0) (.c (.bool false)), .tm, some ((.tm 7), false)⟩,
 ⟨.mov (.tm 0), .tm, some ((.tm 8), false)⟩,
 ⟨.faddr 3 (.fr 8), .tm, some ((.tm 0), true)⟩,
 ⟨.load1 (.tm 0), .tm, some ((.tm 1), true)⟩,
 ⟨.bin .geq (.tm 0) (.c (.int .i64 0)), .tm, some ((.tm 2), true)⟩,
 ⟨.pick (.tm 3) (.tm 0) (.c (.bool false)), .tm, some ((.tm 12), false)⟩,
 ⟨.mov (.tm 0), .tm, some ((.tm 13), false)⟩,
 ⟨.faddr 3 (.fr 8), .tm, some ((.tm 0), true)⟩,
 ⟨.load1 (.tm 0), .tm, some ((.tm 1), true)⟩,
 ⟨.bin .leq (.tm 0) (.c (.int .i64 4611686018427387904)), .tm, some ((.tm 2), true)⟩,
 ⟨.pick (.tm 3) (.tm 0) (.c (.bool false)), .tm, some ((.tm 17), false)⟩,
 ⟨.mov (.tm 0), .tm, some ((.tm 18), false)⟩,
 ⟨.faddr 4 (.fr 8), .tm, some ((.tm 0), true)⟩,
 ⟨.load1 (.tm 0), .tm, some ((.tm 1), true)⟩,
 ⟨.len false (.tm 0), .tm, some ((.tm 2), true)⟩,
 ⟨.bin .leq (.tm 0) (.c (.int .i64 2048)), .tm, some ((.tm 3), true)⟩,
 ⟨.pick (.tm 4) (.tm 0) (.c (.bool false)), .tm, some ((.tm 23), false)⟩,
 ⟨.pick (.tm 24) (.c (.bool true)) (.tm 0), .tm, none⟩,
 ⟨.mov (.tm 0), .fr 1, none⟩]) <|
 .ret, [.t 1]⟩
def f111 : AFunc := ⟨[0, 2],
 .seq (.reg [
 ⟨.mov (.c (.bool false)), .fr 1, none⟩]) <|
 .seq (.reg [
 ⟨.mov (.fr 0), .tm, none⟩,
 ⟨.callf 116 [(.tm 0), (.fn 117)], .tm, none⟩,
 ⟨.un .not (.tm 0), .tm, none⟩,
 ⟨.mov (.tm 0), .fr 1, none⟩]) <|
 .ret, [.t 1]⟩
def f112 : AFunc := ⟨[0, 1, 4],
 .seq (.reg [
 ⟨.mov (.c (.bool false)), .fr 2, none⟩]) <|
 .seq (.reg [
 ⟨.mov (.fr 0), .tm, none⟩,
 ⟨.mov (.fr 1), .tm, none⟩,
 ⟨.callf 118 [(.tm 1), (.tm 0)], .tm, none⟩,
 ⟨.bin .geq (.tm 0) (.c (.int .i64 0)), .tm, none⟩,
 ⟨.mov (.tm 0), .fr 2, none⟩]) <|
 .ret, [.t 2]⟩
def f113 : AFunc := ⟨[0, 1, 2],
 .seq (.reg [
 ⟨.box 108 2 (.fr 0), .fr 1, none⟩,
 ⟨.mov (.c (.bool false)), .fr 2, none⟩]) <|
 .seq (.reg [
 ⟨.faddr 0 (.fr 1), .tm, none⟩,
 ⟨.load1 (.tm 0), .tm, none⟩,
 ⟨.bin .lss (.tm 0) (.c (.int .u8 1)), .tm, none⟩,
 ⟨.mov (.tm 0), .tm, none⟩,
 ⟨.faddr 0 (.fr 1), .tm, some ((.tm 0), false)⟩,
 ⟨.load1 (.tm 0), .tm, some ((.tm 1), false)⟩,
 ⟨.bin .gtr (.tm 0) (.c (.int .u8 3)), .tm, some ((.tm 2), false)⟩,
 ⟨.pick (.tm 3) (.c (.bool true)) (.tm 0), .tm, none⟩,
 ⟨.mov (.tm 0), .tm, none⟩,
 ⟨.faddr 1 (.fr 1), .tm, some ((.tm 0), false)⟩,
 ⟨.load1 (.tm 0), .tm, some ((.tm 1), false)⟩,
 ⟨.bin .lss (.tm 0) (.c (.int .i64 0)), .tm, some ((.tm 2), false)⟩,
 ⟨.pick (.tm 3) (.c (.bool true)) (.tm 0), .tm, none⟩,
 ⟨.mov (.tm 0), .tm, none⟩,
 ⟨.faddr 1 (.fr 1), .tm, some ((.tm 0), false)⟩,
 ⟨.load1 (.tm 0), .tm, some ((.tm 1), false)⟩,
 ⟨.bin .gtr (.tm 0) (.c (.int .i64 63)), .tm, some ((.tm 2), false)⟩,
 ⟨.pick (.tm 3) (.c (.bool true)) (.tm 0), .tm, none⟩,
 ⟨.mov (.tm 0), .fr 2, none⟩]) <|
 .ret, [.t 2]⟩
def f116 : AFunc := ⟨[0, 1, 4],
 .seq (.reg [
 ⟨.mov (.c (.bool false)), .fr 2, none⟩]) <|
 .seq (.reg [
 ⟨.mov (.fr 0), .tm, none⟩,
 ⟨.mov (.fr 1), .tm, none⟩,
 ⟨.callf 119 [(.tm 1), (.tm 0)], .tm, none⟩,
 ⟨.bin .geq (.tm 0) (.c (.int .i64 0)), .tm, none⟩,
 ⟨.mov (.tm 0), .fr 2, none⟩]) <|
 .ret, [.t 2]⟩
def f117 : AFunc := ⟨[0, 2],
 .seq (.reg [
 ⟨.mov (.c (.bool false)), .fr 1, none⟩]) <|
 .seq (.reg [
 ⟨.mov (.fr 0), .tm, none⟩,
 ⟨.bin .lss (.tm 0) (.c (.int .i64 0)), .tm, none⟩,
 ⟨.mov (.tm 0), .tm, none⟩,
 ⟨.mov (.fr 0), .tm, some ((.tm 0), false)⟩,
 ⟨.bin .gtr (.tm 0) (.c (.int .i64 1099511627776)), .tm, some ((.tm 1), false)⟩,
 ⟨.pick (.tm 2) (.c (.bool true)) (.tm 0), .tm, none⟩,
 ⟨.mov (.tm 0), .fr 1, none⟩]) <|
 .ret, [.t 1]⟩
def f118 : AFunc := ⟨[0, 1, 4, 5, 7, 8, 9, 16],
 .seq (.reg [
 ⟨.mov (.c (.int .i64 0)), .fr 2, none⟩]) <|
 .seq (.seq (.reg [
 ⟨.mov (.fr 0), .tm, none⟩,
 ⟨.len false (.tm 0), .fr 4, none⟩,
 ⟨.mov (.c (.int .i64 0)), .fr 5, none⟩]) <|
 .block 0 (.loop (.seq (.reg [
 ⟨.bin .lss (.fr 5) (.fr 4), .fr 6, none⟩]) <|
 .seq (.cond (.fr 6)
 (.skip)
 (.exit 0)) <|
 .seq (.block 1 (.seq (.reg [
 ⟨.mov (.fr 5), .tm, none⟩,
 ⟨.mov (.tm 0), .fr 3, none⟩]) <|
 .seq (.reg [
 ⟨.mov (.fr 1), .tm, none⟩,
 ⟨.mov (.fr 0), .tm, none⟩,
 ⟨.mov (.fr 3), .tm, none⟩,
 ⟨.iaddr 2 (.tm 1) (.tm 0), .tm, none⟩,
 ⟨.loadn 2 (.tm 0), .tm, none⟩,
 ⟨.callv (.tm 4) [(.tm 0)], .fr 7, none⟩]) <|
 .cond (.fr 7)
 (.seq (.reg [
 ⟨.mov (.fr 3), .tm, none⟩,
 ⟨.mov (.tm 0), .fr 2, none⟩]) <|
 .ret)
 (.skip))) <|
 .reg [
 ⟨.bin .add (.fr 5) (.c (.int .i64 1)), .tm, none⟩,
 ⟨.mov (.tm 0), .fr 5, none⟩]))) <|
 .seq (.reg [
 ⟨.mov (.c (.int .i64 (-1))), .fr 2, none⟩]) <|
 .ret, [.t 2]⟩
def f119 : AFunc := ⟨[0, 1, 4, 5, 7, 8, 9, 16],
 .seq (.reg [
 ⟨.mov (.c (.int .i64 0)), .fr 2, none⟩]) <|
 .seq (.seq (.reg [
 ⟨.mov (.fr 0), .tm, none⟩,
 ⟨.len false (.tm 0), .fr 4, none⟩,
 ⟨.mov (.c (.int .i64 0)), .fr 5, none⟩]) <|
 .block 0 (.loop (.seq (.reg [
 ⟨.bin .lss (.fr 5) (.fr 4), .fr 6, none⟩]) <|
 .seq (.cond (.fr 6)
 (.skip)
 (.exit 0)) <|
 .seq (.block 1 (.seq (.reg [
 ⟨.mov (.fr 5), .tm, none⟩,
 ⟨.mov (.tm 0), .fr 3, none⟩]) <|
 .seq (.reg [
 ⟨.mov (.fr 1), .tm, none⟩,
 ⟨.mov (.fr 0), .tm, none⟩,
 ⟨.mov (.fr 3), .tm, none⟩,
 ⟨.iaddr 1 (.tm 1) (.tm 0), .tm, none⟩,
 ⟨.load1 (.tm 0), .tm, none⟩,
 ⟨.callv (.tm 4) [(.tm 0)], .fr 7, none⟩]) <|
 .cond (.fr 7)
 (.seq (.reg [
 ⟨.mov (.fr 3), .tm, none⟩,
 ⟨.mov (.tm 0), .fr 2, none⟩]) <|
 .ret)
 (.skip))) <|
 .reg [
 ⟨.bin .add (.fr 5) (.c (.int .i64 1)), .tm, none⟩,
 ⟨.mov (.tm 0), .fr 5, none⟩]))) <|
 .seq (.reg [
 ⟨.mov (.c (.int .i64 (-1))), .fr 2, none⟩]) <|
 .ret, [.t 2]⟩
theorem f24_ok : compF Go.Proofs.Try.prog 0 [0, 2, 3, 4, 5, 6] 24 = some f24 := by kernel_rfl
theorem f24_n : argsOK Go.Proofs.Try.prog 24 1 = true := by kernel_rfl
theorem f25_ok : compF Go.Proofs.Try.prog 0 [0, 2, 3, 4, 7, 33] 25 = some f25 := by kernel_rfl
theorem f25_n : argsOK Go.Proofs.Try.prog 25 1 = true := by kernel_rfl
theorem f36_ok : compF Go.Proofs.Try.prog 0 [0, 1, 2] 36 = some f36 := by kernel_rfl
theorem f36_n : argsOK Go.Proofs.Try.prog 36 1 = true := by kernel_rfl
theorem f52_ok : compF Go.Proofs.Try.prog 0 [0, 1, 2, 3, 27] 52 = some f52 := by kernel_rfl
theorem f52_n : argsOK Go.Proofs.Try.prog 52 1 = true := by kernel_rfl
theorem f62_ok : compF Go.Proofs.Try.prog 0 [0, 1, 4, 5, 6, 16] 62 = some f62 := by kernel_rfl
theorem f62_n : argsOK Go.Proofs.Try.prog 62 2 = true := by kernel_rfl
theorem f67_ok : compF Go.Proofs.Try.prog 0 [0, 1, 2, 6, 12] 67 = some f67 := by kernel_rfl
theorem f67_n : argsOK Go.Proofs.Try.prog 67 3 = true := by kernel_rfl
theorem f76_ok : compF Go.Proofs.Try.prog 0 [0, 1, 2, 5, 6, 7, 8, 25] 76 = some f76 := by kernel_rfl
theorem f76_n : argsOK Go.Proofs.Try.prog 76 3 = true := by kernel_rfl
theorem f77_ok : compF Go.Proofs.Try.prog 0 [0, 1, 2, 6, 7, 10] 77 = some f77 := by kernel_rfl
theorem f77_n : argsOK Go.Proofs.Try.prog 77 3 = true := by kernel_rfl
theorem f78_ok : compF Go.Proofs.Try.prog 0 [0, 1] 78 = some f78 := by kernel_rfl
theorem f78_n : argsOK Go.Proofs.Try.prog 78 2 = true := by kernel_rfl
theorem f80_ok : compF Go.Proofs.Try.prog 0 [0, 1, 5, 6, 7, 8, 9] 80 = some f80 := by kernel_rfl
theorem f80_n : argsOK Go.Proofs.Try.prog 80 2 = true := by kernel_rfl
theorem f91_ok : compF Go.Proofs.Try.prog 0 [0, 1, 4] 91 = some f91 := by kernel_rfl
theorem f91_n : argsOK Go.Proofs.Try.prog 91 2 = true := by kernel_rfl
theorem f92_ok : compF Go.Proofs.Try.prog 0 [0, 2] 92 = some f92 := by kernel_rfl
theorem f92_n : argsOK Go.Proofs.Try.prog 92 1 = true := by kernel_rfl
theorem f101_ok : compF Go.Proofs.Try.prog 0 [0, 2, 3, 4, 5, 6, 7, 8, 9, 10, 16, 40, 52] 101 = some f101 := by kernel_rfl
theorem f101_n : argsOK Go.Proofs.Try.prog 101 1 = true := by kernel_rfl
theorem f111_ok : compF Go.Proofs.Try.prog 0 [0, 2] 111 = some f111 := by kernel_rfl
theorem f111_n : argsOK Go.Proofs.Try.prog 111 1 = true := by kernel_rfl
theorem f112_ok : compF Go.Proofs.Try.prog 0 [0, 1, 4] 112 = some f112 := by kernel_rfl
theorem f112_n : argsOK Go.Proofs.Try.prog 112 2 = true := by kernel_rfl
theorem f113_ok : compF Go.Proofs.Try.prog 0 [0, 1, 2] 113 = some f113 := by kernel_rfl
theorem f113_n : argsOK Go.Proofs.Try.prog 113 1 = true := by kernel_rfl
theorem f116_ok : compF Go.Proofs.Try.prog 0 [0, 1, 4] 116 = some f116 := by kernel_rfl
theorem f116_n : argsOK Go.Proofs.Try.prog 116 2 = true := by kernel_rfl
theorem f117_ok : compF Go.Proofs.Try.prog 0 [0, 2] 117 = some f117 := by kernel_rfl
theorem f117_n : argsOK Go.Proofs.Try.prog 117 1 = true := by kernel_rfl
theorem f118_ok : compF Go.Proofs.Try.prog 0 [0, 1, 4, 5, 7, 8, 9, 16] 118 = some f118 := by kernel_rfl
theorem f118_n : argsOK Go.Proofs.Try.prog 118 2 = true := by kernel_rfl
theorem f119_ok : compF Go.Proofs.Try.prog 0 [0, 1, 4, 5, 7, 8, 9, 16] 119 = some f119 := by kernel_rfl
theorem f119_n : argsOK Go.Proofs.Try.prog 119 2 = true := by kernel_rfl
end Go.AM.F

set_option maxRecDepth 100000
namespace Go.AM.F
def f97 : AFunc := ⟨[0, 2, 3, 5, 6, 7, 8, 9],
 .seq (.reg [
 ⟨.mov (.c (.int .u32 0)), .fr 1, none⟩]) <|
 .seq (.reg [
 ⟨.mov (.c (.int .u32 4294967295)), .fr 2, none⟩]) <|
 .seq (.seq (.reg [
 ⟨.mov (.fr 0), .fr 4, none⟩,
 ⟨.len false (.fr 4), .fr 5, none⟩,
 ⟨.mov (.c (.int .i64 0)), .fr 6, none⟩]) <|
 .block 0 (.loop (.seq (.reg [
 ⟨.bin .lss (.fr 6) (.fr 5), .fr 7, none⟩]) <|
 .seq (.cond (.fr 7)
 (.skip)
 (.exit 0)) <|
 .seq (.block 1 (.seq (.reg [
 ⟨.iaddr 1 (.fr 4) (.fr 6), .tm, none⟩,
 ⟨.load1 (.tm 0), .tm, none⟩,
 ⟨.mov (.tm 0), .fr 3, none⟩]) <|
 .reg [
 ⟨.mov (.fr 2), .tm, none⟩,
 ⟨.mov (.fr 3), .tm, none⟩,
 ⟨.i2i .u32 (.tm 0), .tm, none⟩,
 ⟨.bin .xor (.tm 2) (.tm 0), .tm, none⟩,
 ⟨.callf 108 [(.tm 0), (.fn 109)], .tm, none⟩,
 ⟨.mov (.tm 0), .fr 2, none⟩])) <|
 .reg [
 ⟨.bin .add (.fr 6) (.c (.int .i64 1)), .tm, none⟩,
 ⟨.mov (.tm 0), .fr 6, none⟩]))) <|
 .seq (.reg [
 ⟨.mov (.fr 2), .tm, none⟩,
 ⟨.un .xor (.tm 0), .tm, none⟩,
 ⟨.mov (.tm 0), .fr 1, none⟩]) <|
 .ret, [.t 1]⟩
def f107 : AFunc := ⟨[0, 2],
 .seq (.reg [
 ⟨.mov (.c (.int .u32 0)), .fr 1, none⟩]) <|
 .seq (.reg [
 ⟨.mov (.fr 0), .tm, none⟩,
 ⟨.callf 115 [(.c (.int .u32 4294967295)), (.tm 0)], .tm, none⟩,
 ⟨.un .xor (.tm 0), .tm, none⟩,
 ⟨.mov (.tm 0), .fr 1, none⟩]) <|
 .ret, [.t 1]⟩
def f108 : AFunc := ⟨[0, 1, 4, 5, 6],
 .seq (.reg [
 ⟨.mov (.c (.int .u32 0)), .fr 2, none⟩]) <|
 .seq (.seq (.reg [
 ⟨.mov (.c (.int .i64 0)), .fr 3, none⟩]) <|
 .block 0 (.loop (.seq (.reg [
 ⟨.bin .lss (.fr 3) (.c (.int .i64 8)), .fr 4, none⟩]) <|
 .seq (.cond (.fr 4)
 (.skip)
 (.exit 0)) <|
 .seq (.block 1 (.reg [
 ⟨.mov (.fr 1), .tm, none⟩,
 ⟨.mov (.fr 0), .tm, none⟩,
 ⟨.callv (.tm 1) [(.tm 0)], .tm, none⟩,
 ⟨.mov (.tm 0), .fr 0, none⟩])) <|
 .reg [
 ⟨.bin .add (.fr 3) (.c (.int .i64 1)), .tm, none⟩,
 ⟨.mov (.tm 0), .fr 3, none⟩]))) <|
 .seq (.reg [
 ⟨.mov (.fr 0), .tm, none⟩,
 ⟨.mov (.tm 0), .fr 2, none⟩]) <|
 .ret, [.t 2]⟩
def f109 : AFunc := ⟨[0, 2, 5],
 .seq (.reg [
 ⟨.mov (.c (.int .u32 0)), .fr 1, none⟩]) <|
 .seq (.seq (.reg [
 ⟨.mov (.fr 0), .tm, none⟩,
 ⟨.bin .and (.tm 0) (.c (.int .u32 1)), .tm, none⟩,
 ⟨.bin .gtr (.tm 0) (.c (.int .u32 0)), .fr 2, none⟩]) <|
 .cond (.fr 2)
 (.seq (.reg [
 ⟨.mov (.fr 0), .tm, none⟩,
 ⟨.bin .shr (.tm 0) (.c (.int .u64 1)), .tm, none⟩,
 ⟨.bin .xor (.tm 0) (.c (.int .u32 3988292384)), .tm, none⟩,
 ⟨.mov (.tm 0), .fr 1, none⟩]) <|
 .ret)
 (.skip)) <|
 .seq (.reg [
 ⟨.mov (.fr 0), .tm, none⟩,
 ⟨.bin .shr (.tm 0) (.c (.int .u64 1)), .tm, none⟩,
 ⟨.mov (.tm 0), .fr 1, none⟩]) <|
 .ret, [.t 1]⟩
def f115 : AFunc := ⟨[0, 1, 4, 5, 6, 7, 8, 13, 26, 33],
 .seq (.reg [
 ⟨.mov (.c (.int .u32 0)), .fr 2, none⟩]) <|
 .seq (.reg [
 ⟨.bslice 25 1 8 [(.int .u32 0), (.int .u32 0), (.int .u32 0), (.int .u32 0), (.int .u32 0), (.int .u32 0), (.int .u32 0), (.int .u32 0)] [(0, 1, (.c (.int .u32 1996959894))), (1, 1, (.c (.int .u32 3993919788))), (2, 1, (.c (.int .u32 124634137))), (3, 1, (.c (.int .u32 249268274))), (4, 1, (.c (.int .u32 498536548))), (5, 1, (.c (.int .u32 997073096))), (6, 1, (.c (.int .u32 1994146192))), (7, 1, (.c (.int .u32 3988292384)))], .tm, none⟩,
 ⟨.mov (.tm 0), .fr 3, none⟩]) <|
 .seq (.seq (.reg [
 ⟨.mov (.c (.int .i64 0)), .fr 4, none⟩]) <|
 .block 0 (.loop (.seq (.seq (.reg [
 ⟨.mov (.fr 4), .tm, none⟩,
 ⟨.mov (.fr 1), .tm, none⟩,
 ⟨.len false (.tm 0), .tm, none⟩,
 ⟨.bin .lss (.tm 2) (.tm 0), .fr 7, none⟩]) <|
 .cond (.fr 7)
 (.skip)
 (.exit 0)) <|
 .seq (.block 1 (.seq (.reg [
 ⟨.mov (.fr 0), .tm, none⟩,
 ⟨.i2i .u8 (.tm 0), .tm, none⟩,
 ⟨.mov (.fr 1), .tm, none⟩,
 ⟨.mov (.fr 4), .tm, none⟩,
 ⟨.iaddr 1 (.tm 1) (.tm 0), .tm, none⟩,
 ⟨.load1 (.tm 0), .tm, none⟩,
 ⟨.bin .xor (.tm 4) (.tm 0), .tm, none⟩,
 ⟨.mov (.tm 0), .fr 5, none⟩]) <|
 .seq (.reg [
 ⟨.mov (.fr 0), .tm, none⟩,
 ⟨.bin .shr (.tm 0) (.c (.int .u64 8)), .tm, none⟩,
 ⟨.mov (.tm 0), .fr 0, none⟩]) <|
 .seq (.reg [
 ⟨.mov (.c (.int .i64 0)), .fr 6, none⟩]) <|
 .block 2 (.loop (.seq (.seq (.reg [
 ⟨.mov (.fr 6), .tm, none⟩,
 ⟨.bin .lss (.tm 0) (.c (.int .i64 8)), .fr 8, none⟩]) <|
 .cond (.fr 8)
 (.skip)
 (.exit 2)) <|
 .seq (.block 3 (.seq (.reg [
 ⟨.mov (.fr 5), .tm, none⟩,
 ⟨.mov (.fr 6), .tm, none⟩,
 ⟨.bin .shr (.tm 1) (.tm 0), .tm, none⟩,
 ⟨.bin .and (.tm 0) (.c (.int .u8 1)), .tm, none⟩,
 ⟨.bin .eql (.tm 0) (.c (.int .u8 1)), .fr 9, none⟩]) <|
 .cond (.fr 9)
 (.reg [
 ⟨.mov (.fr 0), .tm, none⟩,
 ⟨.mov (.fr 3), .tm, none⟩,
 ⟨.mov (.fr 6), .tm, none⟩,
 ⟨.iaddr 1 (.tm 1) (.tm 0), .tm, none⟩,
 ⟨.load1 (.tm 0), .tm, none⟩,
 ⟨.bin .xor (.tm 4) (.tm 0), .tm, none⟩,
 ⟨.mov (.tm 0), .fr 0, none⟩])
 (.skip))) <|
 .reg [
 ⟨.mov (.fr 6), .tm, none⟩,
 ⟨.bin .add (.tm 0) (.c (.int .i64 1)), .tm, none⟩,
 ⟨.mov (.tm 0), .fr 6, none⟩])))) <|
 .reg [
 ⟨.mov (.fr 4), .tm, none⟩,
 ⟨.bin .add (.tm 0) (.c (.int .i64 1)), .tm, none⟩,
 ⟨.mov (.tm 0), .fr 4, none⟩]))) <|
 .seq (.reg [
 ⟨.mov (.fr 0), .tm, none⟩,
 ⟨.mov (.tm 0), .fr 2, none⟩]) <|
 .ret, [.t 2]⟩
theorem f97_ok : compF Go.Proofs.Try.prog 0 [0, 2, 3, 5, 6, 7, 8, 9] 97 = some f97 := by kernel_rfl
theorem f97_n : argsOK Go.Proofs.Try.prog 97 1 = true := by kernel_rfl
theorem f107_ok : compF Go.Proofs.Try.prog 0 [0, 2] 107 = some f107 := by kernel_rfl
theorem f107_n : argsOK Go.Proofs.Try.prog 107 1 = true := by kernel_rfl
theorem f108_ok : compF Go.Proofs.Try.prog 0 [0, 1, 4, 5, 6] 108 = some f108 := by kernel_rfl
theorem f108_n : argsOK Go.Proofs.Try.prog 108 2 = true := by kernel_rfl
theorem f109_ok : compF Go.Proofs.Try.prog 0 [0, 2, 5] 109 = some f109 := by kernel_rfl
theorem f109_n : argsOK Go.Proofs.Try.prog 109 1 = true := by kernel_rfl
theorem f115_ok : compF Go.Proofs.Try.prog 0 [0, 1, 4, 5, 6, 7, 8, 13, 26, 33] 115 = some f115 := by kernel_rfl
theorem f115_n : argsOK Go.Proofs.Try.prog 115 2 = true := by kernel_rfl
end Go.AM.F

set_option maxRecDepth 100000
namespace Go.AM.F
def f63 : AFunc := ⟨[0, 2],
 .seq (.reg [
 ⟨.mov (.c (.int .u8 0)), .fr 1, none⟩]) <|
 .seq (.reg [
 ⟨.mov (.fr 0), .tm, none⟩,
 ⟨.callf 98 [(.tm 0), (.c (.int .i64 1))], .tm, none⟩,
 ⟨.assert 5 (.int .u8 0) false (.tm 0), .tm, none⟩,
 ⟨.mov (.tm 0), .fr 1, none⟩]) <|
 .ret, [.t 1]⟩
def f64 : AFunc := ⟨[0, 2],
 .seq (.reg [
 ⟨.mov (.c (.int .u64 0)), .fr 1, none⟩]) <|
 .seq (.reg [
 ⟨.mov (.fr 0), .tm, none⟩,
 ⟨.callf 98 [(.tm 0), (.c (.int .i64 8))], .tm, none⟩,
 ⟨.assert 24 (.int .u64 0) false (.tm 0), .tm, none⟩,
 ⟨.mov (.tm 0), .fr 1, none⟩]) <|
 .ret, [.t 1]⟩
def f65 : AFunc := ⟨[0, 2],
 .seq (.reg [
 ⟨.mov (.c (.int .u32 0)), .fr 1, none⟩]) <|
 .seq (.reg [
 ⟨.mov (.fr 0), .tm, none⟩,
 ⟨.callf 98 [(.tm 0), (.c (.int .i64 4))], .tm, none⟩,
 ⟨.assert 25 (.int .u32 0) false (.tm 0), .tm, none⟩,
 ⟨.mov (.tm 0), .fr 1, none⟩]) <|
 .ret, [.t 1]⟩
def f73 : AFunc := ⟨[0, 2, 4],
 .seq (.reg [
 ⟨.mov (.c (.slice none 0 0)), .fr 1, none⟩]) <|
 .seq (.seq (.reg [
 ⟨.mov (.fr 0), .tm, none⟩,
 ⟨.eqv 2 false (.tm 0) (.c (.slice none 0 0)), .fr 2, none⟩]) <|
 .cond (.fr 2)
 (.seq (.reg [
 ⟨.mov (.c (.slice none 0 0)), .fr 1, none⟩]) <|
 .ret)
 (.skip)) <|
 .seq (.reg [
 ⟨.bslice 5 1 0 [] [], .tm, none⟩,
 ⟨.mov (.fr 0), .tm, none⟩,
 ⟨.app 5 1 1 (.tm 1) (.tm 0), .tm, none⟩,
 ⟨.mov (.tm 0), .fr 1, none⟩]) <|
 .ret, [.t 1]⟩
def f74 : AFunc := ⟨[0, 1, 4],
 .seq (.reg [
 ⟨.mov (.c (.slice none 0 0)), .fr 2, none⟩]) <|
 .seq (.reg [
 ⟨.mov (.fr 0), .tm, none⟩,
 ⟨.mov (.fr 1), .tm, none⟩,
 ⟨.callf 103 [(.tm 1), (.tm 0)], .tm, none⟩,
 ⟨.mov (.tm 0), .fr 2, none⟩]) <|
 .ret, [.t 2]⟩
def f75 : AFunc := ⟨[0, 2],
 .seq (.reg [
 ⟨.mov (.c (.int .u16 0)), .fr 1, none⟩]) <|
 .seq (.reg [
 ⟨.mov (.fr 0), .tm, none⟩,
 ⟨.callf 98 [(.tm 0), (.c (.int .i64 2))], .tm, none⟩,
 ⟨.assert 111 (.int .u16 0) false (.tm 0), .tm, none⟩,
 ⟨.mov (.tm 0), .fr 1, none⟩]) <|
 .ret, [.t 1]⟩
def f79 : AFunc := ⟨[0, 1],
 .reg [
 ⟨.mov (.fr 0), .tm, none⟩,
 ⟨.mov (.fr 1), .tm, none⟩,
 ⟨.iface 5 (.tm 0), .tm, none⟩,
 ⟨.callf 105 [(.tm 2), (.tm 0)], .tm, none⟩], []⟩
def f81 : AFunc := ⟨[0, 1],
 .reg [
 ⟨.mov (.fr 0), .tm, none⟩,
 ⟨.mov (.fr 1), .tm, none⟩,
 ⟨.iface 111 (.tm 0), .tm, none⟩,
 ⟨.callf 105 [(.tm 2), (.tm 0)], .tm, none⟩], []⟩
def f82 : AFunc := ⟨[0, 1, 5],
 .seq (.reg [
 ⟨.mov (.fr 0), .tm, none⟩,
 ⟨.eqv 1 true (.tm 0) (.c (.pointer none)), .fr 2, none⟩]) <|
 .cond (.fr 2)
 (.reg [
 ⟨.mov (.fr 0), .tm, none⟩,
 ⟨.mov (.fr 0), .tm, none⟩,
 ⟨.nilck (.tm 0), .tm, none⟩,
 ⟨.faddr 0 (.tm 0), .tm, none⟩,
 ⟨.load1 (.tm 0), .tm, none⟩,
 ⟨.mov (.fr 1), .tm, none⟩,
 ⟨.app 5 1 1 (.tm 1) (.tm 0), .tm, none⟩,
 ⟨.nilck (.tm 6), .tm, none⟩,
 ⟨.faddr 0 (.tm 0), .tm, none⟩,
 ⟨.store1 (.tm 0) (.tm 2), .no, none⟩])
 (.skip), []⟩
def f84 : AFunc := ⟨[0, 1],
 .reg [
 ⟨.mov (.fr 0), .tm, none⟩,
 ⟨.mov (.fr 1), .tm, none⟩,
 ⟨.iface 24 (.tm 0), .tm, none⟩,
 ⟨.callf 105 [(.tm 2), (.tm 0)], .tm, none⟩], []⟩
def f85 : AFunc := ⟨[0, 1],
 .reg [
 ⟨.mov (.fr 0), .tm, none⟩,
 ⟨.mov (.fr 1), .tm, none⟩,
 ⟨.iface 25 (.tm 0), .tm, none⟩,
 ⟨.callf 105 [(.tm 2), (.tm 0)], .tm, none⟩], []⟩
def f96 : AFunc := ⟨[0, 2],
 .seq (.reg [
 ⟨.mov (.c (.pointer none)), .fr 1, none⟩]) <|
 .seq (.reg [
 ⟨.mov (.fr 0), .tm, none⟩,
 ⟨.callf 73 [(.tm 0)], .tm, none⟩,
 ⟨.build [(.slice none 0 0), (.bool false)] [(0, 1, (.tm 0))], .tm, none⟩,
 ⟨.box 171 2 (.tm 0), .tm, none⟩,
 ⟨.mov (.tm 0), .fr 1, none⟩]) <|
 .ret, [.t 1]⟩
def f98 : AFunc := ⟨[0, 1, 4],
 .seq (.reg [
 ⟨.mov (.c .nilIface), .fr 2, none⟩]) <|
 .seq (.reg [
 ⟨.mov (.fr 0), .tm, none⟩,
 ⟨.mov (.fr 1), .tm, none⟩,
 ⟨.callf 103 [(.tm 1), (.tm 0)], .tm, none⟩,
 ⟨.mov (.fr 1), .tm, none⟩,
 ⟨.callf 110 [(.tm 1), (.tm 0)], .tm, none⟩,
 ⟨.mov (.tm 0), .fr 2, none⟩]) <|
 .ret, [.t 2]⟩
def f99 : AFunc := ⟨[0, 2],
 .seq (.reg [
 ⟨.mov (.c (.bool false)), .fr 1, none⟩]) <|
 .seq (.reg [
 ⟨.mov (.fr 0), .tm, none⟩,
 ⟨.eqv 1 false (.tm 0) (.c (.pointer none)), .tm, none⟩,
 ⟨.mov (.tm 0), .tm, none⟩,
 ⟨.mov (.fr 0), .tm, some ((.tm 0), false)⟩,
 ⟨.nilck (.tm 0), .tm, some ((.tm 1), false)⟩,
 ⟨.faddr 1 (.tm 0), .tm, some ((.tm 2), false)⟩,
 ⟨.load1 (.tm 0), .tm, some ((.tm 3), false)⟩,
 ⟨.pick (.tm 4) (.c (.bool true)) (.tm 0), .tm, none⟩,
 ⟨.mov (.tm 0), .fr 1, none⟩]) <|
 .ret, [.t 1]⟩
def f100 : AFunc := ⟨[0, 2, 4],
 .seq (.reg [
 ⟨.mov (.c (.int .i64 0)), .fr 1, none⟩]) <|
 .seq (.seq (.reg [
 ⟨.mov (.fr 0), .tm, none⟩,
 ⟨.eqv 1 false (.tm 0) (.c (.pointer none)), .fr 2, none⟩]) <|
 .cond (.fr 2)
 (.seq (.reg [
 ⟨.mov (.c (.int .i64 0)), .fr 1, none⟩]) <|
 .ret)
 (.skip)) <|
 .seq (.reg [
 ⟨.mov (.fr 0), .tm, none⟩,
 ⟨.nilck (.tm 0), .tm, none⟩,
 ⟨.faddr 0 (.tm 0), .tm, none⟩,
 ⟨.load1 (.tm 0), .tm, none⟩,
 ⟨.len false (.tm 0), .tm, none⟩,
 ⟨.mov (.tm 0), .fr 1, none⟩]) <|
 .ret, [.t 1]⟩
def f102 : AFunc := ⟨[0, 2, 3, 4, 8],
 .seq (.reg [
 ⟨.mov (.c (.int .u64 0)), .fr 1, none⟩]) <|
 .seq (.reg [
 ⟨.mov (.c (.int .u64 0)), .fr 2, none⟩]) <|
 .seq (.seq (.reg [
 ⟨.mov (.c (.int .i64 0)), .fr 3, none⟩]) <|
 .block 0 (.loop (.seq (.seq (.reg [
 ⟨.mov (.fr 3), .tm, none⟩,
 ⟨.mov (.fr 0), .tm, none⟩,
 ⟨.len false (.tm 0), .tm, none⟩,
 ⟨.bin .lss (.tm 2) (.tm 0), .fr 4, none⟩]) <|
 .cond (.fr 4)
 (.skip)
 (.exit 0)) <|
 .seq (.block 1 (.reg [
 ⟨.mov (.fr 2), .tm, none⟩,
 ⟨.bin .shl (.tm 0) (.c (.int .u64 8)), .tm, none⟩,
 ⟨.mov (.fr 0), .tm, none⟩,
 ⟨.mov (.fr 3), .tm, none⟩,
 ⟨.iaddr 1 (.tm 1) (.tm 0), .tm, none⟩,
 ⟨.load1 (.tm 0), .tm, none⟩,
 ⟨.i2i .u64 (.tm 0), .tm, none⟩,
 ⟨.bin .or (.tm 5) (.tm 0), .tm, none⟩,
 ⟨.mov (.tm 0), .fr 2, none⟩])) <|
 .reg [
 ⟨.mov (.fr 3), .tm, none⟩,
 ⟨.bin .add (.tm 0) (.c (.int .i64 1)), .tm, none⟩,
 ⟨.mov (.tm 0), .fr 3, none⟩]))) <|
 .seq (.reg [
 ⟨.mov (.fr 2), .tm, none⟩,
 ⟨.mov (.tm 0), .fr 1, none⟩]) <|
 .ret, [.t 1]⟩
def f103 : AFunc := ⟨[0, 1, 4, 5, 6, 9],
 .seq (.reg [
 ⟨.mov (.c (.slice none 0 0)), .fr 2, none⟩]) <|
 .seq (.block 0 (.seq (.reg [
 ⟨.mov (.fr 0), .tm, none⟩,
 ⟨.eqv 1 false (.tm 0) (.c (.pointer none)), .tm, none⟩,
 ⟨.mov (.tm 0), .fr 4, none⟩]) <|
 .cond (.fr 4)
 (.seq (.reg [
 ⟨.mov (.c (.slice none 0 0)), .fr 2, none⟩]) <|
 .ret)
 (.seq (.reg [
 ⟨.mov (.fr 0), .tm, none⟩,
 ⟨.nilck (.tm 0), .tm, none⟩,
 ⟨.faddr 1 (.tm 0), .tm, none⟩,
 ⟨.load1 (.tm 0), .tm, none⟩,
 ⟨.mov (.tm 0), .tm, none⟩,
 ⟨.mov (.fr 1), .tm, some ((.tm 0), false)⟩,
 ⟨.bin .lss (.tm 0) (.c (.int .i64 0)), .tm, some ((.tm 1), false)⟩,
 ⟨.pick (.tm 2) (.c (.bool true)) (.tm 0), .tm, none⟩,
 ⟨.mov (.tm 0), .tm, none⟩,
 ⟨.mov (.fr 1), .tm, some ((.tm 0), false)⟩,
 ⟨.mov (.fr 0), .tm, some ((.tm 1), false)⟩,
 ⟨.nilck (.tm 0), .tm, some ((.tm 2), false)⟩,
 ⟨.faddr 0 (.tm 0), .tm, some ((.tm 3), false)⟩,
 ⟨.load1 (.tm 0), .tm, some ((.tm 4), false)⟩,
 ⟨.len false (.tm 0), .tm, some ((.tm 5), false)⟩,
 ⟨.bin .gtr (.tm 5) (.tm 0), .tm, some ((.tm 6), false)⟩,
 ⟨.pick (.tm 7) (.c (.bool true)) (.tm 0), .tm, none⟩,
 ⟨.mov (.tm 0), .fr 5, none⟩]) <|
 .cond (.fr 5)
 (.seq (.reg [
 ⟨.mov (.fr 0), .tm, none⟩,
 ⟨.mov (.fr 0), .tm, none⟩,
 ⟨.nilck (.tm 1), .tm, none⟩,
 ⟨.faddr 0 (.tm 0), .tm, none⟩,
 ⟨.store1 (.tm 0) (.c (.slice none 0 0)), .no, none⟩,
 ⟨.nilck (.tm 2), .tm, none⟩,
 ⟨.faddr 1 (.tm 0), .tm, none⟩,
 ⟨.store1 (.tm 0) (.c (.bool true)), .no, none⟩]) <|
 .seq (.reg [
 ⟨.mov (.c (.slice none 0 0)), .fr 2, none⟩]) <|
 .ret)
 (.skip)))) <|
 .seq (.reg [
 ⟨.mov (.fr 0), .tm, none⟩,
 ⟨.nilck (.tm 0), .tm, none⟩,
 ⟨.faddr 0 (.tm 0), .tm, none⟩,
 ⟨.load1 (.tm 0), .tm, none⟩,
 ⟨.mov (.fr 1), .tm, none⟩,
 ⟨.mov (.fr 1), .tm, none⟩,
 ⟨.slsl 1 (.tm 2) none (some (.tm 1)) (some (.tm 0)), .tm, none⟩,
 ⟨.mov (.tm 0), .fr 3, none⟩]) <|
 .seq (.reg [
 ⟨.mov (.fr 0), .tm, none⟩,
 ⟨.mov (.fr 0), .tm, none⟩,
 ⟨.nilck (.tm 0), .tm, none⟩,
 ⟨.faddr 0 (.tm 0), .tm, none⟩,
 ⟨.load1 (.tm 0), .tm, none⟩,
 ⟨.mov (.fr 1), .tm, none⟩,
 ⟨.slsl 1 (.tm 1) (some (.tm 0)) none none, .tm, none⟩,
 ⟨.nilck (.tm 6), .tm, none⟩,
 ⟨.faddr 0 (.tm 0), .tm, none⟩,
 ⟨.store1 (.tm 0) (.tm 2), .no, none⟩]) <|
 .seq (.reg [
 ⟨.mov (.fr 3), .tm, none⟩,
 ⟨.mov (.tm 0), .fr 2, none⟩]) <|
 .ret, [.t 2]⟩
def f104 : AFunc := ⟨[0, 2, 4],
 .seq (.reg [
 ⟨.mov (.c (.slice none 0 0)), .fr 1, none⟩]) <|
 .seq (.seq (.reg [
 ⟨.mov (.fr 0), .tm, none⟩,
 ⟨.eqv 1 false (.tm 0) (.c (.pointer none)), .fr 2, none⟩]) <|
 .cond (.fr 2)
 (.seq (.reg [
 ⟨.mov (.c (.slice none 0 0)), .fr 1, none⟩]) <|
 .ret)
 (.skip)) <|
 .seq (.reg [
 ⟨.mov (.fr 0), .tm, none⟩,
 ⟨.nilck (.tm 0), .tm, none⟩,
 ⟨.faddr 0 (.tm 0), .tm, none⟩,
 ⟨.load1 (.tm 0), .tm, none⟩,
 ⟨.callf 73 [(.tm 0)], .tm, none⟩,
 ⟨.mov (.tm 0), .fr 1, none⟩]) <|
 .ret, [.t 1]⟩
def f105 : AFunc := ⟨[0, 1, 4, 5, 6, 8, 18],
 .seq (.seq (.reg [
 ⟨.mov (.fr 0), .tm, none⟩,
 ⟨.eqv 1 false (.tm 0) (.c (.pointer none)), .fr 5, none⟩]) <|
 .cond (.fr 5)
 (.ret)
 (.skip)) <|
 .seq (.reg [
 ⟨.mov (.fr 1), .tm, none⟩,
 ⟨.callf 114 [(.tm 0)], .tm, none⟩,
 ⟨.mov (.tm 0), .tm, none⟩,
 ⟨.extract (.tm 0) 0, .tm, none⟩,
 ⟨.extract (.tm 1) 1, .tm, none⟩,
 ⟨.mov (.tm 1), .fr 2, none⟩,
 ⟨.mov (.tm 0), .fr 3, none⟩]) <|
 .seq (.reg [
 ⟨.mov (.fr 3), .tm, none⟩,
 ⟨.bin .sub (.tm 0) (.c (.int .i64 1)), .tm, none⟩,
 ⟨.bin .mul (.c (.int .i64 8)) (.tm 0), .tm, none⟩,
 ⟨.mov (.tm 0), .fr 4, none⟩]) <|
 .block 0 (.loop (.seq (.seq (.reg [
 ⟨.mov (.fr 4), .tm, none⟩,
 ⟨.bin .geq (.tm 0) (.c (.int .i64 0)), .fr 6, none⟩]) <|
 .cond (.fr 6)
 (.skip)
 (.exit 0)) <|
 .seq (.block 1 (.dreg [
 (⟨.mov (.fr 0), .tm, none⟩, []),
 (⟨.mov (.fr 0), .tm, none⟩, []),
 (⟨.nilck (.tm 0), .tm, none⟩, []),
 (⟨.faddr 0 (.tm 0), .tm, none⟩, []),
 (⟨.load1 (.tm 0), .tm, none⟩, []),
 (⟨.mov (.fr 2), .tm, none⟩, []),
 (⟨.mov (.fr 4), .tm, none⟩, []),
 (⟨.bin .shr (.tm 1) (.tm 0), .tm, none⟩, []),
 (⟨.i2i .u8 (.tm 0), .tm, none⟩, []),
 (⟨.bslice 5 1 1 [(.int .u8 0)] [(0, 1, (.tm 0))], .tm, none⟩, []),
 (⟨.app 5 1 1 (.tm 5) (.tm 0), .tm, none⟩, []),
 (⟨.nilck (.tm 10), .tm, none⟩, []),
 (⟨.faddr 0 (.tm 0), .tm, none⟩, []),
 (⟨.store1 (.tm 0) (.tm 2), .no, none⟩, [])])) <|
 .reg [
 ⟨.mov (.fr 4), .tm, none⟩,
 ⟨.bin .sub (.tm 0) (.c (.int .i64 8)), .tm, none⟩,
 ⟨.mov (.tm 0), .fr 4, none⟩])), []⟩
def f106 : AFunc := ⟨[0, 1, 4, 5, 6, 10],
 .seq (.reg [
 ⟨.mov (.c (.slice none 0 0)), .fr 2, none⟩]) <|
 .seq (.reg [
 ⟨.mov (.c (.slice none 0 0)), .fr 3, none⟩]) <|
 .seq (.seq (.reg [
 ⟨.mov (.fr 1), .tm, none⟩,
 ⟨.bin .sub (.tm 0) (.c (.int .i64 1)), .tm, none⟩,
 ⟨.mov (.tm 0), .fr 4, none⟩]) <|
 .block 0 (.loop (.seq (.seq (.reg [
 ⟨.mov (.fr 4), .tm, none⟩,
 ⟨.bin .geq (.tm 0) (.c (.int .i64 0)), .fr 5, none⟩]) <|
 .cond (.fr 5)
 (.skip)
 (.exit 0)) <|
 .seq (.block 1 (.reg [
 ⟨.mov (.fr 3), .tm, none⟩,
 ⟨.mov (.fr 0), .tm, none⟩,
 ⟨.mov (.fr 4), .tm, none⟩,
 ⟨.bin .mul (.c (.int .i64 8)) (.tm 0), .tm, none⟩,
 ⟨.bin .shr (.tm 2) (.tm 0), .tm, none⟩,
 ⟨.i2i .u8 (.tm 0), .tm, none⟩,
 ⟨.bslice 5 1 1 [(.int .u8 0)] [(0, 1, (.tm 0))], .tm, none⟩,
 ⟨.app 5 1 1 (.tm 6) (.tm 0), .tm, none⟩,
 ⟨.mov (.tm 0), .fr 3, none⟩])) <|
 .reg [
 ⟨.mov (.fr 4), .tm, none⟩,
 ⟨.bin .sub (.tm 0) (.c (.int .i64 1)), .tm, none⟩,
 ⟨.mov (.tm 0), .fr 4, none⟩]))) <|
 .seq (.reg [
 ⟨.mov (.fr 3), .tm, none⟩,
 ⟨.mov (.tm 0), .fr 2, none⟩]) <|
 .ret, [.t 2]⟩
def f110 : AFunc := ⟨[0, 1, 4, 5, 7, 8, 9, 10, 11, 20, 21, 26, 31],
 .seq (.reg [
 ⟨.mov (.c .nilIface), .fr 2, none⟩]) <|
 .seq (.reg [
 ⟨.mov (.c (.int .u64 0)), .fr 3, none⟩]) <|
 .seq (.seq (.reg [
 ⟨.mov (.fr 0), .fr 5, none⟩,
 ⟨.len false (.fr 5), .fr 6, none⟩,
 ⟨.mov (.c (.int .i64 0)), .fr 7, none⟩]) <|
 .block 0 (.loop (.seq (.reg [
 ⟨.bin .lss (.fr 7) (.fr 6), .fr 8, none⟩]) <|
 .seq (.cond (.fr 8)
 (.skip)
 (.exit 0)) <|
 .seq (.block 1 (.seq (.reg [
 ⟨.iaddr 1 (.fr 5) (.fr 7), .tm, none⟩,
 ⟨.load1 (.tm 0), .tm, none⟩,
 ⟨.mov (.tm 0), .fr 4, none⟩]) <|
 .reg [
 ⟨.mov (.fr 3), .tm, none⟩,
 ⟨.bin .shl (.tm 0) (.c (.int .u64 8)), .tm, none⟩,
 ⟨.mov (.fr 4), .tm, none⟩,
 ⟨.i2i .u64 (.tm 0), .tm, none⟩,
 ⟨.bin .or (.tm 2) (.tm 0), .tm, none⟩,
 ⟨.mov (.tm 0), .fr 3, none⟩])) <|
 .reg [
 ⟨.bin .add (.fr 7) (.c (.int .i64 1)), .tm, none⟩,
 ⟨.mov (.tm 0), .fr 7, none⟩]))) <|
 .seq (.seq (.reg [
 ⟨.mov (.fr 1), .fr 9, none⟩]) <|
 .block 2 (.seq (.reg [
 ⟨.bin .eql (.fr 9) (.c (.int .i64 1)), .tm, none⟩,
 ⟨.mov (.tm 0), .fr 10, none⟩]) <|
 .cond (.fr 10)
 (.seq (.reg [
 ⟨.mov (.fr 3), .tm, none⟩,
 ⟨.i2i .u8 (.tm 0), .tm, none⟩,
 ⟨.iface 5 (.tm 0), .tm, none⟩,
 ⟨.mov (.tm 0), .fr 2, none⟩]) <|
 .ret)
 (.seq (.reg [
 ⟨.bin .eql (.fr 9) (.c (.int .i64 2)), .tm, none⟩,
 ⟨.mov (.tm 0), .fr 11, none⟩]) <|
 .cond (.fr 11)
 (.seq (.reg [
 ⟨.mov (.fr 3), .tm, none⟩,
 ⟨.i2i .u16 (.tm 0), .tm, none⟩,
 ⟨.iface 111 (.tm 0), .tm, none⟩,
 ⟨.mov (.tm 0), .fr 2, none⟩]) <|
 .ret)
 (.seq (.reg [
 ⟨.bin .eql (.fr 9) (.c (.int .i64 4)), .tm, none⟩,
 ⟨.mov (.tm 0), .fr 12, none⟩]) <|
 .cond (.fr 12)
 (.seq (.reg [
 ⟨.mov (.fr 3), .tm, none⟩,
 ⟨.i2i .u32 (.tm 0), .tm, none⟩,
 ⟨.iface 25 (.tm 0), .tm, none⟩,
 ⟨.mov (.tm 0), .fr 2, none⟩]) <|
 .ret)
 (.skip))))) <|
 .seq (.reg [
 ⟨.mov (.fr 3), .tm, none⟩,
 ⟨.iface 24 (.tm 0), .tm, none⟩,
 ⟨.mov (.tm 0), .fr 2, none⟩]) <|
 .ret, [.t 2]⟩
def f114 : AFunc := ⟨[0, 2, 3, 4, 5, 6, 7, 8, 9, 15, 23, 31],
 .seq (.reg [
 ⟨.mov (.c (.int .u64 0)), .fr 1, none⟩,
 ⟨.mov (.c (.int .i64 0)), .fr 2, none⟩]) <|
 .seq (.seq (.reg [
 ⟨.mov (.fr 0), .tm, none⟩,
 ⟨.assert 5 (.int .u8 0) true (.tm 0), .tm, none⟩,
 ⟨.mov (.tm 0), .tm, none⟩,
 ⟨.extract (.tm 0) 0, .tm, none⟩,
 ⟨.extract (.tm 1) 1, .tm, none⟩,
 ⟨.mov (.tm 1), .fr 3, none⟩,
 ⟨.mov (.tm 0), .fr 4, none⟩]) <|
 .seq (.reg [
 ⟨.mov (.fr 4), .fr 9, none⟩]) <|
 .cond (.fr 9)
 (.seq (.reg [
 ⟨.mov (.fr 3), .tm, none⟩,
 ⟨.i2i .u64 (.tm 0), .tm, none⟩,
 ⟨.mov (.tm 0), .fr 1, none⟩,
 ⟨.mov (.c (.int .i64 1)), .fr 2, none⟩]) <|
 .ret)
 (.skip)) <|
 .seq (.seq (.reg [
 ⟨.mov (.fr 0), .tm, none⟩,
 ⟨.assert 111 (.int .u16 0) true (.tm 0), .tm, none⟩,
 ⟨.mov (.tm 0), .tm, none⟩,
 ⟨.extract (.tm 0) 0, .tm, none⟩,
 ⟨.extract (.tm 1) 1, .tm, none⟩,
 ⟨.mov (.tm 1), .fr 5, none⟩,
 ⟨.mov (.tm 0), .fr 6, none⟩]) <|
 .seq (.reg [
 ⟨.mov (.fr 6), .fr 10, none⟩]) <|
 .cond (.fr 10)
 (.seq (.reg [
 ⟨.mov (.fr 5), .tm, none⟩,
 ⟨.i2i .u64 (.tm 0), .tm, none⟩,
 ⟨.mov (.tm 0), .fr 1, none⟩,
 ⟨.mov (.c (.int .i64 2)), .fr 2, none⟩]) <|
 .ret)
 (.skip)) <|
 .seq (.seq (.reg [
 ⟨.mov (.fr 0), .tm, none⟩,
 ⟨.assert 25 (.int .u32 0) true (.tm 0), .tm, none⟩,
 ⟨.mov (.tm 0), .tm, none⟩,
 ⟨.extract (.tm 0) 0, .tm, none⟩,
 ⟨.extract (.tm 1) 1, .tm, none⟩,
 ⟨.mov (.tm 1), .fr 7, none⟩,
 ⟨.mov (.tm 0), .fr 8, none⟩]) <|
 .seq (.reg [
 ⟨.mov (.fr 8), .fr 11, none⟩]) <|
 .cond (.fr 11)
 (.seq (.reg [
 ⟨.mov (.fr 7), .tm, none⟩,
 ⟨.i2i .u64 (.tm 0), .tm, none⟩,
 ⟨.mov (.tm 0), .fr 1, none⟩,
 ⟨.mov (.c (.int .i64 4)), .fr 2, none⟩]) <|
 .ret)
 (.skip)) <|
 .seq (.reg [
 ⟨.mov (.fr 0), .tm, none⟩,
 ⟨.assert 24 (.int .u64 0) false (.tm 0), .tm, none⟩,
 ⟨.mov (.tm 0), .fr 1, none⟩,
 ⟨.mov (.c (.int .i64 8)), .fr 2, none⟩]) <|
 .ret, [.t 1, .t 2]⟩
theorem f63_ok : compF Go.Proofs.Try.prog 0 [0, 2] 63 = some f63 := by kernel_rfl
theorem f63_n : argsOK Go.Proofs.Try.prog 63 1 = true := by kernel_rfl
theorem f64_ok : compF Go.Proofs.Try.prog 0 [0, 2] 64 = some f64 := by kernel_rfl
theorem f64_n : argsOK Go.Proofs.Try.prog 64 1 = true := by kernel_rfl
theorem f65_ok : compF Go.Proofs.Try.prog 0 [0, 2] 65 = some f65 := by kernel_rfl
theorem f65_n : argsOK Go.Proofs.Try.prog 65 1 = true := by kernel_rfl
theorem f73_ok : compF Go.Proofs.Try.prog 0 [0, 2, 4] 73 = some f73 := by kernel_rfl
theorem f73_n : argsOK Go.Proofs.Try.prog 73 1 = true := by kernel_rfl
theorem f74_ok : compF Go.Proofs.Try.prog 0 [0, 1, 4] 74 = some f74 := by kernel_rfl
theorem f74_n : argsOK Go.Proofs.Try.prog 74 2 = true := by kernel_rfl
theorem f75_ok : compF Go.Proofs.Try.prog 0 [0, 2] 75 = some f75 := by kernel_rfl
theorem f75_n : argsOK Go.Proofs.Try.prog 75 1 = true := by kernel_rfl
theorem f79_ok : compF Go.Proofs.Try.prog 0 [0, 1] 79 = some f79 := by kernel_rfl
theorem f79_n : argsOK Go.Proofs.Try.prog 79 2 = true := by kernel_rfl
theorem f81_ok : compF Go.Proofs.Try.prog 0 [0, 1] 81 = some f81 := by kernel_rfl
theorem f81_n : argsOK Go.Proofs.Try.prog 81 2 = true := by kernel_rfl
theorem f82_ok : compF Go.Proofs.Try.prog 0 [0, 1, 5] 82 = some f82 := by kernel_rfl
theorem f82_n : argsOK Go.Proofs.Try.prog 82 2 = true := by kernel_rfl
theorem f84_ok : compF Go.Proofs.Try.prog 0 [0, 1] 84 = some f84 := by kernel_rfl
theorem f84_n : argsOK Go.Proofs.Try.prog 84 2 = true := by kernel_rfl
theorem f85_ok : compF Go.Proofs.Try.prog 0 [0, 1] 85 = some f85 := by kernel_rfl
theorem f85_n : argsOK Go.Proofs.Try.prog 85 2 = true := by kernel_rfl
theorem f96_ok : compF Go.Proofs.Try.prog 0 [0, 2] 96 = some f96 := by kernel_rfl
theorem f96_n : argsOK Go.Proofs.Try.prog 96 1 = true := by kernel_rfl
theorem f98_ok : compF Go.Proofs.Try.prog 0 [0, 1, 4] 98 = some f98 := by kernel_rfl
theorem f98_n : argsOK Go.Proofs.Try.prog 98 2 = true := by kernel_rfl
theorem f99_ok : compF Go.Proofs.Try.prog 0 [0, 2] 99 = some f99 := by kernel_rfl
theorem f99_n : argsOK Go.Proofs.Try.prog 99 1 = true := by kernel_rfl
theorem f100_ok : compF Go.Proofs.Try.prog 0 [0, 2, 4] 100 = some f100 := by kernel_rfl
theorem f100_n : argsOK Go.Proofs.Try.prog 100 1 = true := by kernel_rfl
theorem f102_ok : compF Go.Proofs.Try.prog 0 [0, 2, 3, 4, 8] 102 = some f102 := by kernel_rfl
theorem f102_n : argsOK Go.Proofs.Try.prog 102 1 = true := by kernel_rfl
theorem f103_ok : compF Go.Proofs.Try.prog 0 [0, 1, 4, 5, 6, 9] 103 = some f103 := by kernel_rfl
theorem f103_n : argsOK Go.Proofs.Try.prog 103 2 = true := by kernel_rfl
theorem f104_ok : compF Go.Proofs.Try.prog 0 [0, 2, 4] 104 = some f104 := by kernel_rfl
theorem f104_n : argsOK Go.Proofs.Try.prog 104 1 = true := by kernel_rfl
theorem f105_ok : compF Go.Proofs.Try.prog 0 [0, 1, 4, 5, 6, 8, 18] 105 = some f105 := by kernel_rfl
theorem f105_n : argsOK Go.Proofs.Try.prog 105 2 = true := by kernel_rfl
theorem f106_ok : compF Go.Proofs.Try.prog 0 [0, 1, 4, 5, 6, 10] 106 = some f106 := by kernel_rfl
theorem f106_n : argsOK Go.Proofs.Try.prog 106 2 = true := by kernel_rfl
theorem f110_ok : compF Go.Proofs.Try.prog 0 [0, 1, 4, 5, 7, 8, 9, 10, 11, 20, 21, 26, 31] 110 = some f110 := by kernel_rfl
theorem f110_n : argsOK Go.Proofs.Try.prog 110 2 = true := by kernel_rfl
theorem f114_ok : compF Go.Proofs.Try.prog 0 [0, 2, 3, 4, 5, 6, 7, 8, 9, 15, 23, 31] 114 = some f114 := by kernel_rfl
theorem f114_n : argsOK Go.Proofs.Try.prog 114 1 = true := by kernel_rfl
end Go.AM.F

set_option linter.unusedSimpArgs false
set_option linter.unusedVariables false
namespace Go.AM
section
variable {P : Program} {ng : Nat} {H : AHeap} {KF : List Value → AHeap → Prop} {fr tm : List Value} {tr : List TE} {Q : AQ}
def boolIs (v : Value) (b : Bool) : Bool := wantA (some (.c v, b)) [] []
def stR (P : Program) (ng : Nat) (op : AOp Value) (d : D) (r : List AOper) (fr tm : List Value) (H : AHeap) (KF : List Value → AHeap → Prop) : Prop :=
  stepA P ng op H fun v H' => RW P ng r (d.frame v fr) (d.temps v tm) H' KF
def goR (P : Program) (ng : Nat) (o : Option (Value × AHeap)) (d : D) (r : List AOper) (fr tm : List Value) (KF : List Value → AHeap → Prop) : Prop :=
  ∃ v H', o = some (v, H') ∧ RW P ng r (d.frame v fr) (d.temps v tm) H' KF
def gdR (P : Program) (ng : Nat) (c : Bool) (op : AOp AX) (d : D) (r : List AOper) (fr tm : List Value) (H : AHeap) (KF : List Value → AHeap → Prop) : Prop :=
  if c then RW P ng (⟨op, d, none⟩ :: r) fr tm H KF else RW P ng r (d.frame undef fr) (d.temps undef tm) H KF
abbrev callR (P : Program) (ng : Nat) (f : FuncId) (xs : List Value) (d : D) (r : List AOper) (fr tm : List Value) (H : AHeap) (KF : List Value → AHeap → Prop) : Prop :=
  ∃ v H', ARun P ng f xs H v H' ∧ RW P ng r (d.frame v fr) (d.temps v tm) H' KF
theorem r_nil : RW P ng [] fr tm H KF = KF fr H := _root_.id rfl
theorem r_cons (op : AOp AX) (d : D) (r : List AOper) : RW P ng (⟨op, d, none⟩ :: r) fr tm H KF = stR P ng (op.map (AX.ev fr tm)) d r fr tm H KF := RW_cons op d r
theorem r_consg (op : AOp AX) (d : D) (x : AX) (b : Bool) (r : List AOper) : RW P ng (⟨op, d, some (x, b)⟩ :: r) fr tm H KF = gdR P ng (wantA (some (x, b)) fr tm) op d r fr tm H KF := by
  rw [RW_consg]; unfold gdR; rw [RW_cons]
theorem gd_true (op : AOp AX) (d : D) (r : List AOper) : gdR P ng true op d r fr tm H KF = stR P ng (op.map (AX.ev fr tm)) d r fr tm H KF := by unfold gdR; rw [if_pos rfl]; exact RW_cons op d r
theorem gd_false (op : AOp AX) (d : D) (r : List AOper) : gdR P ng false op d r fr tm H KF = RW P ng r (d.frame undef fr) (d.temps undef tm) H KF := by unfold gdR; rw [if_neg (by simp)]
theorem go_some (v : Value) (d : D) (r : List AOper) : goR P ng (some (v, H)) d r fr tm KF = RW P ng r (d.frame v fr) (d.temps v tm) H KF :=
  propext ⟨fun ⟨v, H', e, k⟩ => by cases e; exact k, fun k => ⟨_, _, rfl, k⟩⟩
theorem st_call (f : FuncId) (xs : List Value) (d : D) (r : List AOper) : stR P ng (.callf f xs) d r fr tm H KF = callR P ng f xs d r fr tm H KF := _root_.id rfl
theorem st_callv (g : FuncId) (first cap : Array Value) (xs : List Value) (d : D) (r : List AOper) : stR P ng (.callv (.func (.func g) first cap) xs) d r fr tm H KF = callR P ng g (first.toList ++ xs ++ cap.toList) d r fr tm H KF := _root_.id rfl
theorem at_n (K : List Value → AHeap → Prop) : Q.andThen K .normal fr H = K fr H := _root_.id rfl
theorem at_e (K : List Value → AHeap → Prop) (i : Nat) : Q.andThen K (.exit i) fr H = Q (.exit i) fr H := _root_.id rfl
theorem at_r (K : List Value → AHeap → Prop) : Q.andThen K .ret fr H = Q .ret fr H := _root_.id rfl
theorem ib_n (i : Nat) : Q.inBlock i .normal fr H = Q .normal fr H := _root_.id rfl
theorem ib_r (i : Nat) : Q.inBlock i .ret fr H = Q .ret fr H := _root_.id rfl
theorem ib_e (i : Nat) : Q.inBlock i (.exit i) fr H = Q .normal fr H := by simp [AQ.inBlock]
theorem ib_x {i j : Nat} (h : ¬ j = i) : Q.inBlock i (.exit j) fr H = Q (.exit j) fr H := by simp [AQ.inBlock, h]
theorem want_x (x : AX) (b : Bool) : wantA (some (x, b)) fr tm = boolIs (x.ev fr tm) b := by
  simp only [boolIs, wantA, AX.ev]
theorem bi_tt : boolIs (.bool true) true = true := by simp [boolIs, wantA, AX.ev]
theorem bi_tf : boolIs (.bool true) false = false := by simp [boolIs, wantA, AX.ev]
theorem bi_ft : boolIs (.bool false) true = false := by simp [boolIs, wantA, AX.ev]
theorem bi_ff : boolIs (.bool false) false = true := by simp [boolIs, wantA, AX.ev]
theorem pk_t (a b : Value) : asem (.pick (.bool true) a b) H = some (a, H) := _root_.id rfl
theorem pk_f (a b : Value) : asem (.pick (.bool false) a b) H = some (b, H) := _root_.id rfl
theorem walk2 {f : Nat} {sl : List Nat} {af : AFunc} (hc : compF P ng sl f = some af) {args : List Value} {R : Value → AHeap → Prop} (hargs : argsOK P f args.length = true)
    (h : ∀ Q : AQ, (∀ fr H2, (∃ v, resO af.res fr H2 = some v ∧ R v H2) → Q .normal fr H2) → (∀ fr H2, (∃ v, resO af.res fr H2 = some v ∧ R v H2) → Q .ret fr H2) → W P ng af.body Q (initFr af.sl args) H) : ∃ v H', ARun P ng f args H v H' ∧ R v H' :=
  walk hc hargs (h _ (fun _ _ h => h) (fun _ _ h => h))
def stD (P : Program) (ng : Nat) (op : AOp Value) (d : D) (un : List Nat) (r : List (AOper × List Nat)) (fr tm : List Value) (H : AHeap) (tr : List TE) (KF : List Value → AHeap → Prop) : Prop :=
  stepA P ng op H fun v H' => oblA (clsA op) (touchA op H) H H' tr un ∧ RD P ng r (d.frame v fr) (d.temps v tm) H' (tr ++ [⟨clsA op, touchA op H, H, H'⟩]) KF
def goD (P : Program) (ng : Nat) (op : AOp Value) (o : Option (Value × AHeap)) (d : D) (un : List Nat) (r : List (AOper × List Nat)) (fr tm : List Value) (H : AHeap) (tr : List TE) (KF : List Value → AHeap → Prop) : Prop :=
  ∃ v H', o = some (v, H') ∧ oblA (clsA op) (touchA op H) H H' tr un ∧ RD P ng r (d.frame v fr) (d.temps v tm) H' (tr ++ [⟨clsA op, touchA op H, H, H'⟩]) KF
def gdD (P : Program) (ng : Nat) (c : Bool) (op : AOp AX) (d : D) (un : List Nat) (r : List (AOper × List Nat)) (fr tm : List Value) (H : AHeap) (tr : List TE) (KF : List Value → AHeap → Prop) : Prop :=
  if c then stD P ng (op.map (AX.ev fr tm)) d un r fr tm H tr KF else RD P ng r (d.frame undef fr) (d.temps undef tm) H (tr ++ [⟨9, [], H, H⟩]) KF
abbrev callD (P : Program) (ng : Nat) (f : FuncId) (xs : List Value) (d : D) (un : List Nat) (r : List (AOper × List Nat)) (fr tm : List Value) (H : AHeap) (tr : List TE) (KF : List Value → AHeap → Prop) : Prop :=
  ∃ v H', ARun P ng f xs H v H' ∧ oblA 3 [] H H' tr un ∧ RD P ng r (d.frame v fr) (d.temps v tm) H' (tr ++ [⟨3, [], H, H'⟩]) KF
theorem d_nil : RD P ng [] fr tm H tr KF = KF fr H := _root_.id rfl
theorem cls_ev (op : AOp AX) : clsA (op.map (AX.ev fr tm)) = clsA op := cls_map _ _
theorem d_cons (op : AOp AX) (d : D) (un : List Nat) (r : List (AOper × List Nat)) : RD P ng ((⟨op, d, none⟩, un) :: r) fr tm H tr KF = stD P ng (op.map (AX.ev fr tm)) d un r fr tm H tr KF := by
  rw [RD_cons]; unfold stD; rw [cls_ev]
theorem d_consg (op : AOp AX) (d : D) (x : AX) (b : Bool) (un : List Nat) (r : List (AOper × List Nat)) : RD P ng ((⟨op, d, some (x, b)⟩, un) :: r) fr tm H tr KF = gdD P ng (wantA (some (x, b)) fr tm) op d un r fr tm H tr KF := by
  rw [RD_consg]; unfold gdD stD; rw [cls_ev]
theorem gdD_true (op : AOp AX) (d : D) (un : List Nat) (r : List (AOper × List Nat)) : gdD P ng true op d un r fr tm H tr KF = stD P ng (op.map (AX.ev fr tm)) d un r fr tm H tr KF := by unfold gdD; rw [if_pos rfl]
theorem gdD_false (op : AOp AX) (d : D) (un : List Nat) (r : List (AOper × List Nat)) : gdD P ng false op d un r fr tm H tr KF = RD P ng r (d.frame undef fr) (d.temps undef tm) H (tr ++ [⟨9, [], H, H⟩]) KF := by unfold gdD; rw [if_neg (by simp)]
theorem goD_some {H' : AHeap} (op : AOp Value) (v : Value) (d : D) (r : List (AOper × List Nat)) : goD P ng op (some (v, H')) d [] r fr tm H tr KF = RD P ng r (d.frame v fr) (d.temps v tm) H' (tr ++ [⟨clsA op, touchA op H, H, H'⟩]) KF := by
  exact propext ⟨fun ⟨v, H', e, _, k⟩ => by cases e; exact k, fun k => ⟨_, _, rfl, trivial, k⟩⟩
theorem goD_some' {H' : AHeap} (op : AOp Value) (v : Value) (d : D) (u : Nat) (un : List Nat) (r : List (AOper × List Nat)) : goD P ng op (some (v, H')) d (u :: un) r fr tm H tr KF =
    (oblA (clsA op) (touchA op H) H H' tr (u :: un) ∧ RD P ng r (d.frame v fr) (d.temps v tm) H' (tr ++ [⟨clsA op, touchA op H, H, H'⟩]) KF) := by
  exact propext ⟨fun ⟨v, H', e, k⟩ => by cases e; exact k, fun k => ⟨_, _, rfl, k⟩⟩
theorem stD_call (f : FuncId) (xs : List Value) (d : D) (un : List Nat) (r : List (AOper × List Nat)) : stD P ng (.callf f xs) d un r fr tm H tr KF = callD P ng f xs d un r fr tm H tr KF := _root_.id rfl
def condW (P : Program) (ng : Nat) (v : Value) (t e : ACode) (Q : AQ) (fr : List Value) (H : AHeap) : Prop := match v with
  | .bool b => if b then W P ng t Q fr H else W P ng e Q fr H
  | _ => False
theorem w_cond (c : AX) (t e : ACode) : W P ng (.cond c t e) Q fr H = condW P ng (c.ev fr []) t e Q fr H := _root_.id rfl
theorem cond_true (t e : ACode) : condW P ng (.bool true) t e Q fr H = W P ng t Q fr H := by simp [condW]
theorem cond_false (t e : ACode) : condW P ng (.bool false) t e Q fr H = W P ng e Q fr H := by simp [condW]
section
variable (d : D) (r : List AOper) (un : List Nat) (rd : List (AOper × List Nat))
theorem st_of {op : AOp Value} (h1 : ∀ f xs, op ≠ .callf f xs) (h2 : ∀ f xs, op ≠ .callv f xs) : stR P ng op d r fr tm H KF = goR P ng (asem op H) d r fr tm KF := by
  unfold stR goR
  cases op <;> first | rfl | exact absurd rfl (h1 _ _) | exact absurd rfl (h2 _ _)
theorem stD_of {op : AOp Value} (h1 : ∀ f xs, op ≠ .callf f xs) (h2 : ∀ f xs, op ≠ .callv f xs) : stD P ng op d un rd fr tm H tr KF = goD P ng op (asem op H) d un rd fr tm H tr KF := by
  unfold stD goD
  cases op <;> first | rfl | exact absurd rfl (h1 _ _) | exact absurd rfl (h2 _ _)
theorem st_mov (x : Value) : stR P ng (.mov x) d r fr tm H KF = RW P ng r (d.frame x fr) (d.temps x tm) H KF := by rw [st_of d r (by simp) (by simp)]; exact go_some x d r
theorem st_pick (c a b : Value) : stR P ng (.pick c a b) d r fr tm H KF = goR P ng (asem (.pick c a b) H) d r fr tm KF := st_of d r (by simp) (by simp)
theorem sd_pick (c a b : Value) : stD P ng (.pick c a b) d un rd fr tm H tr KF = goD P ng (.pick c a b) (asem (.pick c a b) H) d un rd fr tm H tr KF := stD_of d un rd (by simp) (by simp)
theorem st_new (e s : Nat) (z : List Value) : stR P ng (.new e s z) d r fr tm H KF = goR P ng (asem (.new e s z) H) d r fr tm KF := st_of d r (by simp) (by simp)
theorem sd_new (e s : Nat) (z : List Value) : stD P ng (.new e s z) d un rd fr tm H tr KF = goD P ng (.new e s z) (asem (.new e s z) H) d un rd fr tm H tr KF := stD_of d un rd (by simp) (by simp)
theorem st_box (e s : Nat) (x : Value) : stR P ng (.box e s x) d r fr tm H KF = goR P ng (asem (.box e s x) H) d r fr tm KF := st_of d r (by simp) (by simp)
theorem sd_box (e s : Nat) (x : Value) : stD P ng (.box e s x) d un rd fr tm H tr KF = goD P ng (.box e s x) (asem (.box e s x) H) d un rd fr tm H tr KF := stD_of d un rd (by simp) (by simp)
theorem st_build (z : List Value) (ps : List (Nat × Nat × Value)) : stR P ng (.build z ps) d r fr tm H KF = goR P ng (asem (.build z ps) H) d r fr tm KF := st_of d r (by simp) (by simp)
theorem sd_build (z : List Value) (ps : List (Nat × Nat × Value)) : stD P ng (.build z ps) d un rd fr tm H tr KF = goD P ng (.build z ps) (asem (.build z ps) H) d un rd fr tm H tr KF := stD_of d un rd (by simp) (by simp)
theorem st_bslice (e s n : Nat) (z : List Value) (ps : List (Nat × Nat × Value)) : stR P ng (.bslice e s n z ps) d r fr tm H KF = goR P ng (asem (.bslice e s n z ps) H) d r fr tm KF := st_of d r (by simp) (by simp)
theorem sd_bslice (e s n : Nat) (z : List Value) (ps : List (Nat × Nat × Value)) : stD P ng (.bslice e s n z ps) d un rd fr tm H tr KF = goD P ng (.bslice e s n z ps) (asem (.bslice e s n z ps) H) d un rd fr tm H tr KF := stD_of d un rd (by simp) (by simp)
theorem st_load1 (x : Value) : stR P ng (.load1 x) d r fr tm H KF = goR P ng (asem (.load1 x) H) d r fr tm KF := st_of d r (by simp) (by simp)
theorem sd_load1 (x : Value) : stD P ng (.load1 x) d un rd fr tm H tr KF = goD P ng (.load1 x) (asem (.load1 x) H) d un rd fr tm H tr KF := stD_of d un rd (by simp) (by simp)
theorem st_loadn (n : Nat) (x : Value) : stR P ng (.loadn n x) d r fr tm H KF = goR P ng (asem (.loadn n x) H) d r fr tm KF := st_of d r (by simp) (by simp)
theorem sd_loadn (n : Nat) (x : Value) : stD P ng (.loadn n x) d un rd fr tm H tr KF = goD P ng (.loadn n x) (asem (.loadn n x) H) d un rd fr tm H tr KF := stD_of d un rd (by simp) (by simp)
theorem st_store1 (a x : Value) : stR P ng (.store1 a x) d r fr tm H KF = goR P ng (asem (.store1 a x) H) d r fr tm KF := st_of d r (by simp) (by simp)
theorem sd_store1 (a x : Value) : stD P ng (.store1 a x) d un rd fr tm H tr KF = goD P ng (.store1 a x) (asem (.store1 a x) H) d un rd fr tm H tr KF := stD_of d un rd (by simp) (by simp)
theorem st_storen (n : Nat) (a x : Value) : stR P ng (.storen n a x) d r fr tm H KF = goR P ng (asem (.storen n a x) H) d r fr tm KF := st_of d r (by simp) (by simp)
theorem sd_storen (n : Nat) (a x : Value) : stD P ng (.storen n a x) d un rd fr tm H tr KF = goD P ng (.storen n a x) (asem (.storen n a x) H) d un rd fr tm H tr KF := stD_of d un rd (by simp) (by simp)
theorem st_nilck (x : Value) : stR P ng (.nilck x) d r fr tm H KF = goR P ng (asem (.nilck x) H) d r fr tm KF := st_of d r (by simp) (by simp)
theorem sd_nilck (x : Value) : stD P ng (.nilck x) d un rd fr tm H tr KF = goD P ng (.nilck x) (asem (.nilck x) H) d un rd fr tm H tr KF := stD_of d un rd (by simp) (by simp)
theorem st_bin (o : BinOp) (x y : Value) : stR P ng (.bin o x y) d r fr tm H KF = goR P ng (asem (.bin o x y) H) d r fr tm KF := st_of d r (by simp) (by simp)
theorem sd_bin (o : BinOp) (x y : Value) : stD P ng (.bin o x y) d un rd fr tm H tr KF = goD P ng (.bin o x y) (asem (.bin o x y) H) d un rd fr tm H tr KF := stD_of d un rd (by simp) (by simp)
theorem st_eqv (k : Nat) (n : Bool) (x y : Value) : stR P ng (.eqv k n x y) d r fr tm H KF = goR P ng (asem (.eqv k n x y) H) d r fr tm KF := st_of d r (by simp) (by simp)
theorem sd_eqv (k : Nat) (n : Bool) (x y : Value) : stD P ng (.eqv k n x y) d un rd fr tm H tr KF = goD P ng (.eqv k n x y) (asem (.eqv k n x y) H) d un rd fr tm H tr KF := stD_of d un rd (by simp) (by simp)
theorem st_un (o : UnOp) (x : Value) : stR P ng (.un o x) d r fr tm H KF = goR P ng (asem (.un o x) H) d r fr tm KF := st_of d r (by simp) (by simp)
theorem sd_un (o : UnOp) (x : Value) : stD P ng (.un o x) d un rd fr tm H tr KF = goD P ng (.un o x) (asem (.un o x) H) d un rd fr tm H tr KF := stD_of d un rd (by simp) (by simp)
theorem st_i2i (k : IntKind) (x : Value) : stR P ng (.i2i k x) d r fr tm H KF = goR P ng (asem (.i2i k x) H) d r fr tm KF := st_of d r (by simp) (by simp)
theorem sd_i2i (k : IntKind) (x : Value) : stD P ng (.i2i k x) d un rd fr tm H tr KF = goD P ng (.i2i k x) (asem (.i2i k x) H) d un rd fr tm H tr KF := stD_of d un rd (by simp) (by simp)
theorem st_s2s (x : Value) : stR P ng (.s2s x) d r fr tm H KF = goR P ng (asem (.s2s x) H) d r fr tm KF := st_of d r (by simp) (by simp)
theorem sd_s2s (x : Value) : stD P ng (.s2s x) d un rd fr tm H tr KF = goD P ng (.s2s x) (asem (.s2s x) H) d un rd fr tm H tr KF := stD_of d un rd (by simp) (by simp)
theorem st_s2b (e : Nat) (x : Value) : stR P ng (.s2b e x) d r fr tm H KF = goR P ng (asem (.s2b e x) H) d r fr tm KF := st_of d r (by simp) (by simp)
theorem sd_s2b (e : Nat) (x : Value) : stD P ng (.s2b e x) d un rd fr tm H tr KF = goD P ng (.s2b e x) (asem (.s2b e x) H) d un rd fr tm H tr KF := stD_of d un rd (by simp) (by simp)
theorem st_b2s (x : Value) : stR P ng (.b2s x) d r fr tm H KF = goR P ng (asem (.b2s x) H) d r fr tm KF := st_of d r (by simp) (by simp)
theorem sd_b2s (x : Value) : stD P ng (.b2s x) d un rd fr tm H tr KF = goD P ng (.b2s x) (asem (.b2s x) H) d un rd fr tm H tr KF := stD_of d un rd (by simp) (by simp)
theorem st_iface (t : TypeId) (x : Value) : stR P ng (.iface t x) d r fr tm H KF = goR P ng (asem (.iface t x) H) d r fr tm KF := st_of d r (by simp) (by simp)
theorem sd_iface (t : TypeId) (x : Value) : stD P ng (.iface t x) d un rd fr tm H tr KF = goD P ng (.iface t x) (asem (.iface t x) H) d un rd fr tm H tr KF := stD_of d un rd (by simp) (by simp)
theorem st_mkfn (f : Fn) (xs ys : List Value) : stR P ng (.mkfn f xs ys) d r fr tm H KF = goR P ng (asem (.mkfn f xs ys) H) d r fr tm KF := st_of d r (by simp) (by simp)
theorem sd_mkfn (f : Fn) (xs ys : List Value) : stD P ng (.mkfn f xs ys) d un rd fr tm H tr KF = goD P ng (.mkfn f xs ys) (asem (.mkfn f xs ys) H) d un rd fr tm H tr KF := stD_of d un rd (by simp) (by simp)
theorem st_mksl (e s b : Nat) (z : List Value) (l c : Value) : stR P ng (.mksl e s b z l c) d r fr tm H KF = goR P ng (asem (.mksl e s b z l c) H) d r fr tm KF := st_of d r (by simp) (by simp)
theorem sd_mksl (e s b : Nat) (z : List Value) (l c : Value) : stD P ng (.mksl e s b z l c) d un rd fr tm H tr KF = goD P ng (.mksl e s b z l c) (asem (.mksl e s b z l c) H) d un rd fr tm H tr KF := stD_of d un rd (by simp) (by simp)
theorem st_slstr (x : Value) (lo hi : Option Value) : stR P ng (.slstr x lo hi) d r fr tm H KF = goR P ng (asem (.slstr x lo hi) H) d r fr tm KF := st_of d r (by simp) (by simp)
theorem sd_slstr (x : Value) (lo hi : Option Value) : stD P ng (.slstr x lo hi) d un rd fr tm H tr KF = goD P ng (.slstr x lo hi) (asem (.slstr x lo hi) H) d un rd fr tm H tr KF := stD_of d un rd (by simp) (by simp)
theorem st_slsl (s : Nat) (x : Value) (lo hi mx : Option Value) : stR P ng (.slsl s x lo hi mx) d r fr tm H KF = goR P ng (asem (.slsl s x lo hi mx) H) d r fr tm KF := st_of d r (by simp) (by simp)
theorem sd_slsl (s : Nat) (x : Value) (lo hi mx : Option Value) : stD P ng (.slsl s x lo hi mx) d un rd fr tm H tr KF = goD P ng (.slsl s x lo hi mx) (asem (.slsl s x lo hi mx) H) d un rd fr tm H tr KF := stD_of d un rd (by simp) (by simp)
theorem st_faddr (o : Nat) (x : Value) : stR P ng (.faddr o x) d r fr tm H KF = goR P ng (asem (.faddr o x) H) d r fr tm KF := st_of d r (by simp) (by simp)
theorem sd_faddr (o : Nat) (x : Value) : stD P ng (.faddr o x) d un rd fr tm H tr KF = goD P ng (.faddr o x) (asem (.faddr o x) H) d un rd fr tm H tr KF := stD_of d un rd (by simp) (by simp)
theorem st_fld1 (o : Nat) (x : Value) : stR P ng (.fld1 o x) d r fr tm H KF = goR P ng (asem (.fld1 o x) H) d r fr tm KF := st_of d r (by simp) (by simp)
theorem sd_fld1 (o : Nat) (x : Value) : stD P ng (.fld1 o x) d un rd fr tm H tr KF = goD P ng (.fld1 o x) (asem (.fld1 o x) H) d un rd fr tm H tr KF := stD_of d un rd (by simp) (by simp)
theorem st_fldn (o n : Nat) (x : Value) : stR P ng (.fldn o n x) d r fr tm H KF = goR P ng (asem (.fldn o n x) H) d r fr tm KF := st_of d r (by simp) (by simp)
theorem sd_fldn (o n : Nat) (x : Value) : stD P ng (.fldn o n x) d un rd fr tm H tr KF = goD P ng (.fldn o n x) (asem (.fldn o n x) H) d un rd fr tm H tr KF := stD_of d un rd (by simp) (by simp)
theorem st_iaddr (s : Nat) (x i : Value) : stR P ng (.iaddr s x i) d r fr tm H KF = goR P ng (asem (.iaddr s x i) H) d r fr tm KF := st_of d r (by simp) (by simp)
theorem sd_iaddr (s : Nat) (x i : Value) : stD P ng (.iaddr s x i) d un rd fr tm H tr KF = goD P ng (.iaddr s x i) (asem (.iaddr s x i) H) d un rd fr tm H tr KF := stD_of d un rd (by simp) (by simp)
theorem st_idxs (x i : Value) : stR P ng (.idxs x i) d r fr tm H KF = goR P ng (asem (.idxs x i) H) d r fr tm KF := st_of d r (by simp) (by simp)
theorem sd_idxs (x i : Value) : stD P ng (.idxs x i) d un rd fr tm H tr KF = goD P ng (.idxs x i) (asem (.idxs x i) H) d un rd fr tm H tr KF := stD_of d un rd (by simp) (by simp)
theorem st_assert (t : TypeId) (z : Value) (ok : Bool) (x : Value) : stR P ng (.assert t z ok x) d r fr tm H KF = goR P ng (asem (.assert t z ok x) H) d r fr tm KF := st_of d r (by simp) (by simp)
theorem sd_assert (t : TypeId) (z : Value) (ok : Bool) (x : Value) : stD P ng (.assert t z ok x) d un rd fr tm H tr KF = goD P ng (.assert t z ok x) (asem (.assert t z ok x) H) d un rd fr tm H tr KF := stD_of d un rd (by simp) (by simp)
theorem st_extract (x : Value) (i : Nat) : stR P ng (.extract x i) d r fr tm H KF = goR P ng (asem (.extract x i) H) d r fr tm KF := st_of d r (by simp) (by simp)
theorem sd_extract (x : Value) (i : Nat) : stD P ng (.extract x i) d un rd fr tm H tr KF = goD P ng (.extract x i) (asem (.extract x i) H) d un rd fr tm H tr KF := stD_of d un rd (by simp) (by simp)
theorem st_len (s : Bool) (x : Value) : stR P ng (.len s x) d r fr tm H KF = goR P ng (asem (.len s x) H) d r fr tm KF := st_of d r (by simp) (by simp)
theorem sd_len (s : Bool) (x : Value) : stD P ng (.len s x) d un rd fr tm H tr KF = goD P ng (.len s x) (asem (.len s x) H) d un rd fr tm H tr KF := stD_of d un rd (by simp) (by simp)
theorem st_mark (x : Value) : stR P ng (.mark x) d r fr tm H KF = goR P ng (asem (.mark x) H) d r fr tm KF := st_of d r (by simp) (by simp)
theorem sd_mark (x : Value) : stD P ng (.mark x) d un rd fr tm H tr KF = goD P ng (.mark x) (asem (.mark x) H) d un rd fr tm H tr KF := stD_of d un rd (by simp) (by simp)
theorem sd_mov (x : Value) : stD P ng (.mov x) d un rd fr tm H tr KF = goD P ng (.mov x) (asem (.mov x) H) d un rd fr tm H tr KF := stD_of d un rd (by simp) (by simp)
theorem sd_app (e s b : Nat) (x y : Value) : stD P ng (.app e s b x y) d un rd fr tm H tr KF = goD P ng (.app e s b x y) (asem (.app e s b x y) H) d un rd fr tm H tr KF := stD_of d un rd (by simp) (by simp)
end
theorem a_mov (x : Value) : asem (.mov x) H = some (x, H) := _root_.id rfl
theorem a_pick (t : Bool) (a b : Value) : asem (.pick (.bool t) a b) H = some (if t then a else b, H) := _root_.id rfl
theorem a_new (e esz : Nat) (z : List Value) : asem (.new e esz z) H = if z.all Value.oneCell' then some (ptr H.n 0, H.alloc (.cells true false esz z e)) else none := _root_.id rfl
theorem a_box (e esz : Nat) (x : Value) : asem (.box e esz x) H = if x.cells.toList.all Value.oneCell' then some (ptr H.n 0, H.alloc (.cells true false esz x.cells.toList e)) else none := _root_.id rfl
theorem a_build (z : List Value) (ps : List (Nat × Nat × Value)) : asem (.build z ps) H = (fillA z ps).map fun c => (.agg c.toArray, H) := _root_.id rfl
theorem a_load1 (b o : Nat) : asem (.load1 (ptr b o)) H = (cellA H b o).map fun v => (v, H) := _root_.id rfl
theorem a_loadn (n b o : Nat) : asem (.loadn n (ptr b o)) H = (rangeA H b o n).map fun c => (.agg c.toArray, H) := _root_.id rfl
theorem a_store1 {b o : Nat} {x : Value} {room : Bool} {esz e : Nat} {c : List Value} (h : H.get b = some (.cells true room esz c e)) : asem (.store1 (ptr b o) x) H = if o < c.length ∧ x.oneCell' = true then some (undef, H.set b (.cells true room esz (c.set o x) e)) else none := by
  simp only [asem, ptr, h]
theorem a_nilck (b o : Nat) : asem (.nilck (ptr b o)) H = some (ptr b o, H) := _root_.id rfl
theorem a_bin (op : BinOp) (x y : Value) : asem (.bin op x y) H = (binA op x y).map fun v => (v, H) := _root_.id rfl
theorem a_eqv (k : Nat) (neg : Bool) (x y : Value) : asem (.eqv k neg x y) H = (eqA k x y).map fun b => (.bool (if neg then !b else b), H) := _root_.id rfl
theorem a_not (b : Bool) : asem (.un .not (.bool b)) H = some (.bool (!b), H) := _root_.id rfl
theorem a_neg (k : IntKind) (n : Int) : asem (.un .neg (.int k n)) H = some (.int k (k.wrap (0 - n)), H) := _root_.id rfl
theorem a_i2i (k k' : IntKind) (n : Int) : asem (.i2i k (.int k' n)) H = some (.int k (k.wrap n), H) := _root_.id rfl
theorem a_s2s (s : ByteArray) : asem (.s2s (.string s)) H = some (.string s, H) := _root_.id rfl
theorem a_s2b (e : Nat) (l : List UInt8) : asem (.s2b e (.string ⟨l.toArray⟩)) H = some (slc H.n 0 l.length l.length, H.alloc (.cells true true 1 (cellsOf l) e)) := by
  simp only [asem, cellsOf]
  simp [ByteArray.size]
theorem a_iface (t : TypeId) (x : Value) : asem (.iface t x) H = some (.iface t x, H) := _root_.id rfl
theorem a_mkfn (fn : Fn) (xs ys : List Value) : asem (.mkfn fn xs ys) H = some (.func fn xs.toArray ys.toArray, H) := _root_.id rfl
theorem a_faddr (off b o : Nat) : asem (.faddr off (ptr b o)) H = some (ptr b (o + off), H) := _root_.id rfl
theorem a_fld1 (off : Nat) (cs : Array Value) : asem (.fld1 off (.agg cs)) H = cs.toList[off]?.map fun v => (v, H) := _root_.id rfl
theorem a_iaddr (esz b o n k : Nat) (kd : IntKind) (i : Int) : asem (.iaddr esz (slc b o n k) (.int kd i)) H = if 0 ≤ i ∧ i < (n : Int) then some (ptr b (o + i.toNat * esz), H) else none := _root_.id rfl
theorem a_assert (t u : TypeId) (z v : Value) (ok : Bool) : asem (.assert t z ok (.iface u v)) H = if u = t then some (if ok then .tuple #[v, .bool true] else v, H) else if ok then some (.tuple #[z, .bool false], H) else none := _root_.id rfl
theorem a_extract (vs : Array Value) (i : Nat) : asem (.extract (.tuple vs) i) H = vs.toList[i]?.map fun v => (v, H) := _root_.id rfl
theorem a_len (a : Option Addr) (n k : Nat) : asem (.len false (.slice a n k)) H = some (.int .i64 n, H) := _root_.id rfl
theorem a_lenc (b o n k : Nat) : asem (.len false (slc b o n k)) H = some (.int .i64 n, H) := _root_.id rfl
theorem a_lens (l : List UInt8) : asem (.len true (.string ⟨l.toArray⟩)) H = some (.int .i64 l.length, H) := by
  simp [asem, lenA, ByteArray.size]
theorem a_slsl_nil {esz : Nat} {lo hi mx : Option Value} (h : ∃ m hh l, bndA mx 0 0 = some m ∧ bndA hi 0 m = some hh ∧ bndA lo 0 hh = some l) : asem (.slsl esz (.slice none 0 0) lo hi mx) H = some (.slice none 0 0, H) := by
  obtain ⟨m, hh, l, h1, h2, h3⟩ := h
  simp only [asem, h1, h2, h3]
theorem a_slsl {esz b o n k m hh l e : Nat} {own room : Bool} {c : List Value} {lo hi mx : Option Value} (hb : H.get b = some (.cells own room esz c e)) (h1 : bndA mx k k = some m) (h2 : bndA hi n m = some hh) (h3 : bndA lo 0 hh = some l) :
    asem (.slsl esz (slc b o n k) lo hi mx) H = some (slc b (o + l * esz) (hh - l) (m - l), H) := by
  simp only [asem, slc, h1, h2, h3, hb, true_or, if_true]
theorem BS.len {v : Value} {l : List UInt8} (h : BS H v l) : asem (.len false v) H = some (.int .i64 l.length, H) := by
  obtain ⟨a, k, rfl⟩ := h.sh
  rfl
theorem one_int (k : IntKind) (n : Int) : (Value.int k n).oneCell' = true := _root_.id rfl
theorem one_bool (b : Bool) : (Value.bool b).oneCell' = true := _root_.id rfl
theorem one_str (b : ByteArray) : (Value.string b).oneCell' = true := _root_.id rfl
theorem one_sl (a : Option Addr) (n k : Nat) : (Value.slice a n k).oneCell' = true := _root_.id rfl
theorem one_slc (b o n k : Nat) : (slc b o n k).oneCell' = true := _root_.id rfl
theorem one_ptr (b o : Nat) : (ptr b o).oneCell' = true := _root_.id rfl
theorem one_pn (a : Option Addr) : (Value.pointer a).oneCell' = true := _root_.id rfl
theorem one_if (t : TypeId) (v : Value) : (Value.iface t v).oneCell' = true := _root_.id rfl
theorem one_map (t : Option Nat) : (Value.map t).oneCell' = true := _root_.id rfl
def one1 (x : Value) : Prop := x.oneCell' = true
theorem a_st {b o : Nat} {x : Value} {room : Bool} {esz e : Nat} {c : List Value} (h : H.get b = some (.cells true room esz c e)) (ho : o < c.length) (hx : one1 x) : asem (.store1 (ptr b o) x) H = some (undef, H.set b (.cells true room esz (c.set o x) e)) := by
  rw [a_store1 h, if_pos ⟨ho, hx⟩]
theorem o_int (k : IntKind) (n : Int) : one1 (Value.int k n) = True := by simp [one1, one_int]
theorem o_bool (b : Bool) : one1 (Value.bool b) = True := by simp [one1, one_bool]
theorem o_str (b : ByteArray) : one1 (Value.string b) = True := by simp [one1, one_str]
theorem o_sl (a : Option Addr) (n k : Nat) : one1 (Value.slice a n k) = True := by simp [one1, one_sl]
theorem o_slc (b o n k : Nat) : one1 (slc b o n k) = True := by simp [one1, one_slc]
theorem o_ptr (b o : Nat) : one1 (ptr b o) = True := by simp [one1, one_ptr]
theorem o_pn (a : Option Addr) : one1 (Value.pointer a) = True := by simp [one1, one_pn]
theorem o_if (t : TypeId) (v : Value) : one1 (Value.iface t v) = True := by simp [one1, one_if]
theorem o_map (t : Option Nat) : one1 (Value.map t) = True := by simp [one1, one_map]
theorem appR {d : D} {r : List AOper} {e esz bytes : Nat} {s x : Value} {n m : Nat} {c news : List Value} (h : AP H e esz s n c) (hx : ∃ a k, x = .slice a m k) (h1 : elemsA H esz x = some news) (hm : news.length = m * esz)
    (hs : (n + m) * bytes ≤ 140737488355328 ∧ n + m ≤ 140737488355328)
    (hk : ∀ v' H', AP H' e esz v' (n + m) (c ++ news) → Chg (blkL s) H H' → (blk v' = blk s ∨ blk v' = some H.n) → RW P ng r (d.frame v' fr) (d.temps v' tm) H' KF) : stR P ng (.app e esz bytes s x) d r fr tm H KF :=
  s_appAP h hx h1 hm hs hk
end
end Go.AM

set_option linter.unusedSimpArgs false
set_option linter.unusedVariables false
namespace Go.AM
inductive HT
  | leaf
  | node (v : AO) (l r : HT)
def HT.look (t : HT) : Nat → Option AO := match t with
  | .leaf => fun _ => none
  | .node v l r => fun k => match k with
    | 0 => some v
    | m + 1 => if m % 2 = 0 then l.look (m / 2) else r.look (m / 2)
noncomputable def HT.getK (t : HT) : Nat → (AO → Bool) → Bool :=
  HT.rec (motive := fun _ => Nat → (AO → Bool) → Bool) (fun _ _ => false)
    (fun v _ _ gl gr k K => Nat.rec (motive := fun _ => Bool) (K v) (fun m _ => Nat.rec (motive := fun _ => Bool) (gl (Nat.div m 2) K) (fun _ _ => gr (Nat.div m 2) K) (Nat.mod m 2)) k) t
noncomputable def HT.setK (t : HT) : Nat → AO → (HT → Bool) → Bool :=
  HT.rec (motive := fun _ => Nat → AO → (HT → Bool) → Bool) (fun k o K => Nat.rec (motive := fun _ => Bool) (K (.node o .leaf .leaf)) (fun _ _ => false) k)
    (fun v l r sl sr k o K => Nat.rec (motive := fun _ => Bool) (K (.node o l r)) (fun m _ =>
      Nat.rec (motive := fun _ => Bool) (sl (Nat.div m 2) o fun l' => K (.node v l' r)) (fun _ _ => sr (Nat.div m 2) o fun r' => K (.node v l r')) (Nat.mod m 2)) k) t
theorem natrec_c {α : Type} (a b : α) (n : Nat) : Nat.rec (motive := fun _ => α) a (fun _ _ => b) n = if n = 0 then a else b := by
  cases n <;> rfl
theorem HT.getK_spec : ∀ (t : HT) (k : Nat) (K : AO → Bool), t.getK k K = match t.look k with | some o => K o | none => false
  | .leaf, k, K => rfl
  | .node v l r, 0, K => rfl
  | .node v l r, m + 1, K => by
    have h1 := HT.getK_spec l (m / 2) K
    have h2 := HT.getK_spec r (m / 2) K
    have : (HT.node v l r).getK (m + 1) K = Nat.rec (motive := fun _ => Bool) (l.getK (Nat.div m 2) K) (fun _ _ => r.getK (Nat.div m 2) K) (Nat.mod m 2) := rfl
    rw [this, natrec_c]
    show (if m % 2 = 0 then l.getK (m / 2) K else r.getK (m / 2) K) = _
    rw [h1, h2]
    simp only [HT.look]
    split <;> rfl
theorem HT.setK_spec : ∀ (t : HT) (k : Nat) (o : AO) (K : HT → Bool), t.setK k o K = true → ∃ t', K t' = true ∧ ∀ j, t'.look j = if j = k then some o else t.look j
  | .leaf, 0, o, K, h => ⟨.node o .leaf .leaf, h, fun j => by
      cases j with
      | zero => rfl
      | succ m => simp [HT.look]⟩
  | .leaf, k + 1, o, K, h => by cases h
  | .node v l r, 0, o, K, h => ⟨.node o l r, h, fun j => by cases j <;> simp [HT.look]⟩
  | .node v l r, m + 1, o, K, h => by
    have e : (HT.node v l r).setK (m + 1) o K = Nat.rec (motive := fun _ => Bool) (l.setK (Nat.div m 2) o fun l' => K (.node v l' r)) (fun _ _ => r.setK (Nat.div m 2) o fun r' => K (.node v l r')) (Nat.mod m 2) := rfl
    rw [e, natrec_c] at h
    change (if m % 2 = 0 then l.setK (m / 2) o (fun l' => K (.node v l' r)) else r.setK (m / 2) o (fun r' => K (.node v l r'))) = true at h
    split at h
    · rename_i hm
      obtain ⟨t', h1, h2⟩ := HT.setK_spec l (m / 2) o _ h
      refine ⟨_, h1, fun j => ?_⟩
      cases j with
      | zero => simp [HT.look]
      | succ i =>
        simp only [HT.look, h2]
        by_cases hi : i % 2 = 0
        · simp only [hi, if_true]
          by_cases hj : i / 2 = m / 2
          · rw [if_pos hj, if_pos (by omega)]
          · rw [if_neg hj, if_neg (by omega)]
        · simp only [hi, if_false]
          rw [if_neg (by omega)]
    · rename_i hm
      obtain ⟨t', h1, h2⟩ := HT.setK_spec r (m / 2) o _ h
      refine ⟨_, h1, fun j => ?_⟩
      cases j with
      | zero => simp [HT.look]
      | succ i =>
        simp only [HT.look, h2]
        by_cases hi : i % 2 = 0
        · simp only [hi, if_true]
          rw [if_neg (by omega)]
        · simp only [hi, if_false]
          by_cases hj : i / 2 = m / 2
          · rw [if_pos hj, if_pos (by omega)]
          · rw [if_neg hj, if_neg (by omega)]
structure Rp (n : Nat) (t : HT) (H : AHeap) : Prop where
  n : H.n = n
  get : ∀ b, H.get b = t.look b
theorem Rp.getK {n : Nat} {t : HT} {H : AHeap} (r : Rp n t H) {b : Nat} {K : AO → Bool} (h : t.getK b K = true) : ∃ o, H.get b = some o ∧ K o = true := by
  rw [HT.getK_spec] at h
  rw [r.get]
  cases e : t.look b with
  | none => rw [e] at h; cases h
  | some o => rw [e] at h; exact ⟨o, rfl, h⟩
theorem Rp.alloc {n : Nat} {t : HT} {H : AHeap} (r : Rp n t H) {o : AO} {K : HT → Bool} (h : t.setK n o K = true) : ∃ t', K t' = true ∧ Rp (n + 1) t' (H.alloc o) := by
  obtain ⟨t', h1, h2⟩ := HT.setK_spec t n o K h
  refine ⟨t', h1, by rw [alloc_n, r.n], fun b => ?_⟩
  rw [alloc_get, h2, r.n, r.get]
theorem Rp.set {n : Nat} {t : HT} {H : AHeap} (r : Rp n t H) {b : Nat} {o : AO} {K : HT → Bool} (hb : (H.get b).isSome = true) (h : t.setK b o K = true) : ∃ t', K t' = true ∧ Rp n t' (H.set b o) := by
  obtain ⟨t', h1, h2⟩ := HT.setK_spec t b o K h
  refine ⟨t', h1, by rw [set_n, r.n], fun x => ?_⟩
  rw [set_get o hb, h2, r.get]
noncomputable def forceN (n : Nat) (K : Nat → Bool) : Bool := Nat.rec (motive := fun _ => Bool) (K 0) (fun m _ => K (m + 1)) n
theorem forceN_eq (n : Nat) (K : Nat → Bool) : forceN n K = K n := by cases n <;> rfl
noncomputable def forceI (i : Int) (K : Int → Bool) : Bool := Int.rec (motive := fun _ => Bool) (fun n => forceN n fun n => K (.ofNat n)) (fun n => forceN n fun n => K (.negSucc n)) i
theorem forceI_eq (i : Int) (K : Int → Bool) : forceI i K = K i := by cases i <;> simp only [forceI, forceN_eq]
noncomputable def forceB (b : Bool) (K : Bool → Bool) : Bool := Bool.rec (motive := fun _ => Bool) (K false) (K true) b
theorem forceB_eq (b : Bool) (K : Bool → Bool) : forceB b K = K b := by cases b <;> rfl
noncomputable def nthK (l : List Value) : Nat → (Value → Bool) → Bool :=
  List.rec (motive := fun _ => Nat → (Value → Bool) → Bool) (fun _ K => K undef) (fun x _ ih i K => Nat.rec (motive := fun _ => Bool) (K x) (fun m _ => ih m K) i) l
theorem nthK_eq : ∀ (l : List Value) (i : Nat) (K : Value → Bool), nthK l i K = K (l.getD i undef)
  | [], i, K => rfl
  | x :: l, 0, K => rfl
  | x :: l, i + 1, K => (nthK_eq l i K).trans (by simp [List.getD])
noncomputable def nthO (l : List Value) : Nat → (Value → Bool) → Bool :=
  List.rec (motive := fun _ => Nat → (Value → Bool) → Bool) (fun _ K => false) (fun x _ ih i K => Nat.rec (motive := fun _ => Bool) (K x) (fun m _ => ih m K) i) l
theorem nthO_eq : ∀ (l : List Value) (i : Nat) (K : Value → Bool), nthO l i K = match l[i]? with | some v => K v | none => false
  | [], i, K => rfl
  | x :: l, 0, K => rfl
  | x :: l, i + 1, K => (nthO_eq l i K).trans (by simp)
noncomputable def updK (v : Value) (l : List Value) : Nat → (List Value → Bool) → Bool :=
  List.rec (motive := fun _ => Nat → (List Value → Bool) → Bool) (fun _ K => K []) (fun x r ih i K => Nat.rec (motive := fun _ => Bool) (K (v :: r)) (fun m _ => ih m fun r' => K (x :: r')) i) l
theorem updK_eq (v : Value) : ∀ (l : List Value) (i : Nat) (K : List Value → Bool), updK v l i K = K (l.set i v)
  | [], i, K => rfl
  | x :: l, 0, K => rfl
  | x :: l, i + 1, K => updK_eq v l i _
noncomputable def evX (x : AX) (fr tm : List Value) (K : Value → Bool) : Bool := match x with
  | .fr i => nthK fr i K
  | .tm i => nthK tm i K
  | .c v => K v
  | .g n => K (.pointer (some ⟨n, 0, none⟩))
  | .fn f => K (.func (.func f) #[] #[])
theorem evX_eq (x : AX) (fr tm : List Value) (K : Value → Bool) : evX x fr tm K = K (x.ev fr tm) := by
  cases x <;> simp only [evX, AX.ev, nthK_eq]
noncomputable def evXs (l : List AX) (fr tm : List Value) : (List Value → Bool) → Bool :=
  List.rec (motive := fun _ => (List Value → Bool) → Bool) (fun K => K []) (fun x _ ih K => evX x fr tm fun v => ih fun vs => K (v :: vs)) l
theorem evXs_eq : ∀ (l : List AX) (fr tm : List Value) (K : List Value → Bool), evXs l fr tm K = K (l.map (AX.ev fr tm))
  | [], fr, tm, K => rfl
  | x :: l, fr, tm, K => by
    have : evXs (x :: l) fr tm K = evX x fr tm fun v => evXs l fr tm fun vs => K (v :: vs) := rfl
    rw [this, evX_eq, evXs_eq l]; rfl
noncomputable def evO (x : Option AX) (fr tm : List Value) (K : Option Value → Bool) : Bool := match x with
  | none => K none
  | some x => evX x fr tm fun v => K (some v)
theorem evO_eq (x : Option AX) (fr tm : List Value) (K : Option Value → Bool) : evO x fr tm K = K (x.map (AX.ev fr tm)) := by
  cases x <;> simp only [evO, evX_eq, Option.map]
noncomputable def evPs (l : List (Nat × Nat × AX)) (fr tm : List Value) : (List (Nat × Nat × Value) → Bool) → Bool :=
  List.rec (motive := fun _ => (List (Nat × Nat × Value) → Bool) → Bool) (fun K => K []) (fun p _ ih K => evX p.2.2 fr tm fun v => ih fun vs => K ((p.1, p.2.1, v) :: vs)) l
theorem evPs_eq : ∀ (l : List (Nat × Nat × AX)) (fr tm : List Value) (K : List (Nat × Nat × Value) → Bool), evPs l fr tm K = K (l.map fun p => (p.1, p.2.1, p.2.2.ev fr tm))
  | [], fr, tm, K => rfl
  | x :: l, fr, tm, K => by
    have : evPs (x :: l) fr tm K = evX x.2.2 fr tm fun v => evPs l fr tm fun vs => K ((x.1, x.2.1, v) :: vs) := rfl
    rw [this, evX_eq, evPs_eq l]; rfl
def kNum : IntKind → Nat
  | .i8 => 0 | .i16 => 1 | .i32 => 2 | .i64 => 3 | .u8 => 4 | .u16 => 5 | .u32 => 6 | .u64 => 7
theorem kNum_inj {a b : IntKind} (h : Nat.beq (kNum a) (kNum b) = true) : a = b := by
  have := Nat.eq_of_beq_eq_true h
  cases a <;> cases b <;> first | rfl | (exact absurd this (by decide))
def kMax : IntKind → Nat
  | .i8 => 128 | .i16 => 32768 | .i32 => 2147483648 | .i64 => 9223372036854775808 | .u8 => 256 | .u16 => 65536 | .u32 => 4294967296 | .u64 => 18446744073709551616
noncomputable def wrapT (k : IntKind) (n : Int) (K : Int → Bool) : Bool :=
  Int.rec (motive := fun _ => Bool) (fun m => forceB (Nat.ble (kMax k) m) fun b => Bool.rec (motive := fun _ => Bool) (forceN m fun m => K (.ofNat m)) (forceI (k.wrap (.ofNat m)) K) b)
    (fun m => forceI (k.wrap (.negSucc m)) K) n
theorem wrap_fit {k : IntKind} {m : Nat} (h : m < kMax k) : k.wrap (m : Int) = m := by
  cases k <;> simp [kMax, IntKind.wrap, IntKind.bits, IntKind.signed] at h ⊢ <;> omega
theorem wrapT_eq (k : IntKind) (n : Int) (K : Int → Bool) : wrapT k n K = K (k.wrap n) := by
  cases n with
  | negSucc m => simp only [wrapT, forceI_eq]
  | ofNat m =>
    simp only [wrapT, forceB_eq, forceN_eq, forceI_eq]
    cases h : Nat.ble (kMax k) m
    · have : ¬ kMax k ≤ m := fun h2 => by rw [Nat.ble_eq_true_of_le h2] at h; cases h
      have := wrap_fit (k := k) (m := m) (by omega)
      show K (Int.ofNat m) = _
      rw [show Int.ofNat m = (m : Int) from rfl, this]
    · rfl
def iLt : Int → Int → Bool
  | .ofNat a, .ofNat b => Nat.ble (a + 1) b
  | .ofNat _, .negSucc _ => false
  | .negSucc _, .ofNat _ => true
  | .negSucc a, .negSucc b => Nat.ble (b + 1) a
theorem iLt_eq (a b : Int) : iLt a b = decide (a < b) := by
  cases a <;> cases b <;> simp only [iLt] <;> rw [Bool.eq_iff_iff] <;> simp <;> omega
def iEq : Int → Int → Bool
  | .ofNat a, .ofNat b => Nat.beq a b
  | .negSucc a, .negSucc b => Nat.beq a b
  | _, _ => false
theorem iEq_eq (a b : Int) : iEq a b = (a == b) := by
  cases a <;> cases b <;> simp only [iEq] <;> rw [Bool.eq_iff_iff] <;> simp [Nat.beq_eq] <;> omega
noncomputable def bitT (k : IntKind) (f : Nat → Nat → Nat) (slow : Int) (a b : Int) (K : Int → Bool) : Bool :=
  match a, b with
  | .ofNat m, .ofNat n => forceB (Nat.ble (kMax k) m) fun x => forceB (Nat.ble (kMax k) n) fun y => match x, y with
    | false, false => forceN (f m n) fun r => K (.ofNat r)
    | _, _ => forceI slow K
  | _, _ => forceI slow K
theorem kMax_le (k : IntKind) : kMax k ≤ 2 ^ k.bits := by cases k <;> decide
theorem kMax_pow (k : IntKind) : ∃ j, kMax k = 2 ^ j := by
  cases k
  · exact ⟨7, rfl⟩
  · exact ⟨15, rfl⟩
  · exact ⟨31, rfl⟩
  · exact ⟨63, rfl⟩
  · exact ⟨8, rfl⟩
  · exact ⟨16, rfl⟩
  · exact ⟨32, rfl⟩
  · exact ⟨64, rfl⟩
theorem bitT_eq {k : IntKind} {f : Nat → Nat → Nat} {slow a b : Int} {K : Int → Bool} (h : ∀ m n : Nat, m < kMax k → n < kMax k → a = m → b = n → slow = (f m n : Nat)) : bitT k f slow a b K = K slow := by
  cases a with
  | negSucc m => simp only [bitT, forceI_eq]
  | ofNat m =>
    cases b with
    | negSucc n => simp only [bitT, forceI_eq]
    | ofNat n =>
      simp only [bitT, forceB_eq]
      cases h1 : Nat.ble (kMax k) m <;> cases h2 : Nat.ble (kMax k) n <;> simp only [forceI_eq, forceN_eq]
      have a1 : ¬ kMax k ≤ m := fun h2 => by rw [Nat.ble_eq_true_of_le h2] at h1; cases h1
      have a2 : ¬ kMax k ≤ n := fun h3 => by rw [Nat.ble_eq_true_of_le h3] at h2; cases h2
      rw [h m n (by omega) (by omega) rfl rfl]
      rfl
theorem ofInt_fit {k : IntKind} {m : Nat} (h : m < kMax k) : (BitVec.ofInt k.bits (m : Int)).toNat = m := by
  rw [BitVec.ofInt_natCast, BitVec.toNat_ofNat]
  exact Nat.mod_eq_of_lt (Nat.lt_of_lt_of_le h (kMax_le k))
theorem and_fit {k : IntKind} {m n : Nat} (h1 : m < kMax k) (h2 : n < kMax k) : k.wrap ((BitVec.ofInt k.bits (m : Int) &&& BitVec.ofInt k.bits (n : Int)).toNat : Int) = ((Nat.land m n : Nat) : Int) := by
  rw [BitVec.toNat_and, ofInt_fit h1, ofInt_fit h2]
  exact wrap_fit (Nat.lt_of_le_of_lt Nat.and_le_left h1)
theorem or_fit {k : IntKind} {m n : Nat} (h1 : m < kMax k) (h2 : n < kMax k) : k.wrap ((BitVec.ofInt k.bits (m : Int) ||| BitVec.ofInt k.bits (n : Int)).toNat : Int) = ((Nat.lor m n : Nat) : Int) := by
  rw [BitVec.toNat_or, ofInt_fit h1, ofInt_fit h2]
  obtain ⟨j, hj⟩ := kMax_pow k
  exact wrap_fit (by rw [hj] at h1 h2 ⊢; exact Nat.or_lt_two_pow h1 h2)
theorem xor_fit {k : IntKind} {m n : Nat} (h1 : m < kMax k) (h2 : n < kMax k) : k.wrap ((BitVec.ofInt k.bits (m : Int) ^^^ BitVec.ofInt k.bits (n : Int)).toNat : Int) = ((Nat.xor m n : Nat) : Int) := by
  rw [BitVec.toNat_xor, ofInt_fit h1, ofInt_fit h2]
  obtain ⟨j, hj⟩ := kMax_pow k
  exact wrap_fit (by rw [hj] at h1 h2 ⊢; exact Nat.xor_lt_two_pow h1 h2)
theorem andNot_eq {w : Nat} (x y : BitVec w) : x &&& ~~~y = x ^^^ (x &&& y) := by
  apply BitVec.eq_of_getLsbD_eq
  intro i hi
  simp only [BitVec.getLsbD_and, BitVec.getLsbD_not, BitVec.getLsbD_xor, hi, decide_true, Bool.true_and]
  cases x.getLsbD i <;> cases y.getLsbD i <;> rfl
theorem andNot_fit {k : IntKind} {m n : Nat} (h1 : m < kMax k) (h2 : n < kMax k) : k.wrap ((BitVec.ofInt k.bits (m : Int) &&& ~~~ BitVec.ofInt k.bits (n : Int)).toNat : Int) = ((Nat.xor m (Nat.land m n) : Nat) : Int) := by
  rw [andNot_eq, BitVec.toNat_xor, BitVec.toNat_and, ofInt_fit h1, ofInt_fit h2]
  obtain ⟨j, hj⟩ := kMax_pow k
  exact wrap_fit (by rw [hj] at h1 h2 ⊢; exact Nat.xor_lt_two_pow h1 (Nat.lt_of_le_of_lt Nat.and_le_left h1))
noncomputable def shT (k : IntKind) (b : Int) (K : Nat → Bool) : Bool := match b with
  | .ofNat s => Bool.rec (motive := fun _ => Bool) (K k.bits) (forceN s K) (Nat.ble s k.bits)
  | .negSucc _ => false
theorem shT_true {k : IntKind} {b : Int} {K : Nat → Bool} (h : shT k b K = true) : 0 ≤ b ∧ K (min b.toNat k.bits) = true := by
  cases b with
  | negSucc _ => cases h
  | ofNat s =>
    refine ⟨Int.natCast_nonneg _, ?_⟩
    simp only [shT] at h
    cases e : Nat.ble s k.bits <;> rw [e] at h <;> simp only [forceN_eq] at h
    · have : ¬ s ≤ k.bits := fun h2 => by rw [Nat.ble_eq_true_of_le h2] at e; cases e
      rw [show min (Int.ofNat s).toNat k.bits = k.bits from by simp; omega]; exact h
    · have := Nat.le_of_ble_eq_true e
      rw [show min (Int.ofNat s).toNat k.bits = s from by simp; omega]; exact h
def upT (a : Int) (s : Nat) : Int := match a with
  | .ofNat m => .ofNat (Nat.mul m (Nat.pow 2 s))
  | a => a * 2 ^ s
def downT (a : Int) (s : Nat) : Int := match a with
  | .ofNat m => .ofNat (Nat.div m (Nat.pow 2 s))
  | a => a.fdiv (2 ^ s)
theorem upT_eq (a : Int) (s : Nat) : upT a s = a * 2 ^ s := by
  cases a with
  | negSucc m => rfl
  | ofNat m =>
    show ((m * 2 ^ s : Nat) : Int) = (m : Int) * 2 ^ s
    push_cast; rfl
theorem downT_eq (a : Int) (s : Nat) : downT a s = a.fdiv (2 ^ s) := by
  cases a with
  | negSucc m => rfl
  | ofNat m =>
    show ((m / 2 ^ s : Nat) : Int) = (m : Int).fdiv (2 ^ s)
    rw [show ((2 : Int) ^ s) = ((2 ^ s : Nat) : Int) by push_cast; rfl, Int.fdiv_eq_ediv_of_nonneg _ (Int.natCast_nonneg _)]
    push_cast; rfl
noncomputable def intT (op : BinOp) (k : IntKind) (a b : Int) (K : Value → Bool) : Bool := match op with
  | .add => wrapT k (a + b) fun r => K (.int k r)
  | .sub => wrapT k (a - b) fun r => K (.int k r)
  | .mul => wrapT k (a * b) fun r => K (.int k r)
  | .quo => Bool.rec (motive := fun _ => Bool) (wrapT k (a.tdiv b) fun r => K (.int k r)) false (iEq b 0)
  | .rem => Bool.rec (motive := fun _ => Bool) (forceI (a.tmod b) fun r => K (.int k r)) false (iEq b 0)
  | .and => bitT k Nat.land (k.wrap (BitVec.ofInt k.bits a &&& BitVec.ofInt k.bits b).toNat) a b fun r => K (.int k r)
  | .or => bitT k Nat.lor (k.wrap (BitVec.ofInt k.bits a ||| BitVec.ofInt k.bits b).toNat) a b fun r => K (.int k r)
  | .xor => bitT k Nat.xor (k.wrap (BitVec.ofInt k.bits a ^^^ BitVec.ofInt k.bits b).toNat) a b fun r => K (.int k r)
  | .andNot => bitT k (fun m n => Nat.xor m (Nat.land m n)) (k.wrap (BitVec.ofInt k.bits a &&& ~~~ BitVec.ofInt k.bits b).toNat) a b fun r => K (.int k r)
  | .eql => forceB (iEq a b) fun r => K (.bool r)
  | .neq => forceB (iEq a b) fun r => K (.bool (!r))
  | .lss => forceB (iLt a b) fun r => K (.bool r)
  | .leq => forceB (iLt b a) fun r => K (.bool (!r))
  | .gtr => forceB (iLt b a) fun r => K (.bool r)
  | .geq => forceB (iLt a b) fun r => K (.bool (!r))
  | _ => false
theorem iEq_zero {b : Int} : iEq b 0 = decide (b = 0) := by rw [iEq_eq, Bool.eq_iff_iff]; simp
theorem intT_true {op : BinOp} {k : IntKind} {a b : Int} {K : Value → Bool} (h : intT op k a b K = true) : ∃ v, intA op k a b = some v ∧ K v = true := by
  cases op <;> simp only [intT, wrapT_eq, forceB_eq, forceI_eq, iLt_eq, iEq_zero] at h <;> simp only [intA]
  case quo =>
    by_cases hb : b = 0
    · subst hb; cases h
    · rw [if_neg hb]; simp only [hb, decide_false] at h; exact ⟨_, rfl, h⟩
  case rem =>
    by_cases hb : b = 0
    · subst hb; cases h
    · rw [if_neg hb]; simp only [hb, decide_false] at h; exact ⟨_, rfl, h⟩
  case and => rw [bitT_eq (fun m n h1 h2 e1 e2 => by subst e1 e2; exact and_fit h1 h2)] at h; exact ⟨_, rfl, h⟩
  case or => rw [bitT_eq (fun m n h1 h2 e1 e2 => by subst e1 e2; exact or_fit h1 h2)] at h; exact ⟨_, rfl, h⟩
  case xor => rw [bitT_eq (fun m n h1 h2 e1 e2 => by subst e1 e2; exact xor_fit h1 h2)] at h; exact ⟨_, rfl, h⟩
  case andNot => rw [bitT_eq (fun m n h1 h2 e1 e2 => by subst e1 e2; exact andNot_fit h1 h2)] at h; exact ⟨_, rfl, h⟩
  case eql => rw [iEq_eq] at h; exact ⟨_, rfl, h⟩
  case neq => rw [iEq_eq] at h; exact ⟨_, rfl, by rw [show (a != b) = !(a == b) from rfl]; exact h⟩
  case leq => exact ⟨_, rfl, by rw [show decide (a ≤ b) = !decide (b < a) from by rw [Bool.eq_iff_iff]; simp]; exact h⟩
  case geq => exact ⟨_, rfl, by rw [show decide (b ≤ a) = !decide (a < b) from by rw [Bool.eq_iff_iff]; simp]; exact h⟩
  all_goals first | exact ⟨_, rfl, h⟩ | (cases h; done)
noncomputable def bEq (a b : List UInt8) : Bool :=
  List.rec (motive := fun _ => List UInt8 → Bool) (fun b => List.rec (motive := fun _ => Bool) true (fun _ _ _ => false) b)
    (fun x _ ih b => List.rec (motive := fun _ => Bool) false (fun y r _ => Bool.rec (motive := fun _ => Bool) false (ih r) (Nat.beq x.toNat y.toNat)) b) a b
theorem bEq_eq : ∀ a b : List UInt8, bEq a b = decide (a = b)
  | [], [] => by simp [bEq]
  | [], y :: b => by simp [bEq]
  | x :: a, [] => by simp [bEq]
  | x :: a, y :: b => by
    have h : bEq (x :: a) (y :: b) = Bool.rec (motive := fun _ => Bool) false (bEq a b) (Nat.beq x.toNat y.toNat) := rfl
    rw [h, bEq_eq a b]
    cases e : Nat.beq x.toNat y.toNat
    · have : x ≠ y := fun h => by subst h; rw [Nat.beq_refl] at e; cases e
      simp [this]
    · have : x = y := UInt8.toNat_inj.1 (Nat.eq_of_beq_eq_true e)
      simp [this]
theorem bstr_eq (a b : ByteArray) : decide (a = b) = bEq a.data.toList b.data.toList := by
  rw [bEq_eq, Bool.eq_iff_iff]
  simp only [decide_eq_true_eq]
  constructor
  · intro h; rw [h]
  · intro h
    have : a.data = b.data := Array.toList_inj.1 h
    cases a; cases b; simp_all
def bCat (a b : ByteArray) : ByteArray := ⟨⟨a.data.toList ++ b.data.toList⟩⟩
theorem bCat_eq (a b : ByteArray) : bCat a b = a ++ b := by
  have : (a ++ b).data.toList = a.data.toList ++ b.data.toList := by rw [ByteArray.data_append]; simp
  have h2 : (bCat a b).data = (a ++ b).data := Array.toList_inj.1 (by rw [this]; rfl)
  cases h : bCat a b; cases h3 : a ++ b; rw [h, h3] at h2; simp_all
def bSub (s : ByteArray) (l h : Nat) : ByteArray := ⟨⟨(s.data.toList.take h).drop l⟩⟩
theorem bSub_eq (s : ByteArray) (l h : Nat) : bSub s l h = s.extract l h := by
  have : (s.extract l h).data.toList = (s.data.toList.take h).drop l := by
    rw [ByteArray.data_extract]; simp [List.extract_eq_take_drop, List.drop_take]
  have h2 : (bSub s l h).data = (s.extract l h).data := Array.toList_inj.1 (by rw [this]; rfl)
  cases h3 : bSub s l h; cases h4 : s.extract l h; rw [h3, h4] at h2; simp_all
def bLen (s : ByteArray) : Nat := s.data.toList.length
theorem bLen_eq (s : ByteArray) : bLen s = s.size := by simp [bLen]
noncomputable def strT (op : BinOp) (a b : ByteArray) (K : Value → Bool) : Bool := match op with
  | .add => Bool.rec (motive := fun _ => Bool) false (K (.string (bCat a b))) (Nat.ble (bLen a + bLen b) 140737488355328)
  | .eql => forceB (bEq a.data.toList b.data.toList) fun r => K (.bool r)
  | .neq => forceB (bEq a.data.toList b.data.toList) fun r => K (.bool (!r))
  | .lss => forceB (Op.bytesLess a.data.toList b.data.toList) fun r => K (.bool r)
  | .leq => forceB (Op.bytesLess a.data.toList b.data.toList || bEq a.data.toList b.data.toList) fun r => K (.bool r)
  | .gtr => forceB (!(Op.bytesLess a.data.toList b.data.toList || bEq a.data.toList b.data.toList)) fun r => K (.bool r)
  | .geq => forceB (!Op.bytesLess a.data.toList b.data.toList) fun r => K (.bool r)
  | _ => false
theorem strT_true {op : BinOp} {a b : ByteArray} {K : Value → Bool} (h : strT op a b K = true) : ∃ v, strA op a b = some v ∧ K v = true := by
  cases op <;> simp only [strT, forceB_eq, bCat_eq, bLen_eq, ← bstr_eq] at h <;> simp only [strA]
  case add =>
    cases e : Nat.ble (a.size + b.size) 140737488355328
    · rw [e] at h; cases h
    · rw [e] at h
      rw [if_pos (Nat.le_of_ble_eq_true e)]; exact ⟨_, rfl, h⟩
  all_goals first | exact ⟨_, rfl, h⟩ | (cases h; done)
noncomputable def binT (op : BinOp) (x y : Value) (K : Value → Bool) : Bool := match x, y with
  | .int k a, .int k' b => match op with
    | .shl => shT k b fun s => wrapT k (upT a s) fun r => K (.int k r)
    | .shr => shT k b fun s => forceI (downT a s) fun r => K (.int k r)
    | op => Bool.rec (motive := fun _ => Bool) false (intT op k a b K) (Nat.beq (kNum k) (kNum k'))
  | .string a, .string b => strT op a b K
  | _, _ => false
theorem binT_true {op : BinOp} {x y : Value} {K : Value → Bool} (h : binT op x y K = true) : ∃ v, binA op x y = some v ∧ K v = true := by
  unfold binT at h
  split at h
  · rename_i k a k' b
    split at h
    · obtain ⟨h1, h2⟩ := shT_true h
      rw [wrapT_eq, upT_eq] at h2
      exact ⟨_, by simp only [binA, h1, if_true], h2⟩
    · obtain ⟨h1, h2⟩ := shT_true h
      rw [forceI_eq, downT_eq] at h2
      exact ⟨_, by simp only [binA, h1, if_true], h2⟩
    · rename_i n1 n2
      cases e : Nat.beq (kNum k) (kNum k')
      · rw [e] at h; cases h
      · rw [e] at h
        have := kNum_inj e
        subst this
        obtain ⟨v, h1, h2⟩ := intT_true h
        refine ⟨v, ?_, h2⟩
        cases op <;> first | exact absurd rfl n1 | exact absurd rfl n2 | (simp only [binA, if_true]; exact h1)
  · obtain ⟨v, h1, h2⟩ := strT_true h
    exact ⟨v, h1, h2⟩
  · cases h
end Go.AM

set_option linter.unusedSimpArgs false
set_option linter.unusedVariables false
namespace Go.AM
def valEq : Value → Value → Bool
  | .bool a, .bool b => match a, b with
    | true, true => true
    | false, false => true
    | _, _ => false
  | .int k a, .int k' b => match Nat.beq (kNum k) (kNum k') with
    | true => iEq a b
    | false => false
  | .string a, .string b => decide (a = b)
  | .pointer a, .pointer b => decide (a = b)
  | .slice a n k, .slice b m l => match Nat.beq n m, Nat.beq k l with
    | true, true => decide (a = b)
    | _, _ => false
  | .map a, .map b => decide (a = b)
  | .nilFunc, .nilFunc => true
  | .nilIface, .nilIface => true
  | _, _ => false
theorem valEq_true {a b : Value} (h : valEq a b = true) : a = b := by
  unfold valEq at h
  split at h
  · split at h <;> first | rfl | cases h
  · split at h
    · rename_i e
      have := kNum_inj e
      subst this
      rw [iEq_eq] at h
      rw [eq_of_beq h]
    · cases h
  · rw [of_decide_eq_true h]
  · rw [of_decide_eq_true h]
  · split at h
    · rename_i e1 e2
      rw [of_decide_eq_true h, Nat.eq_of_beq_eq_true e1, Nat.eq_of_beq_eq_true e2]
    · cases h
  · rw [of_decide_eq_true h]
  · rfl
  · rfl
  · cases h
def vals0 : List Value → List Value → Bool
  | [], [] => true
  | a :: l, b :: m => match valEq a b with
    | true => vals0 l m
    | false => false
  | _, _ => false
theorem vals0_true : ∀ {a b : List Value}, vals0 a b = true → a = b
  | [], [], _ => rfl
  | a :: l, b :: m, h => by
    simp only [vals0] at h
    split at h
    · rename_i e; rw [valEq_true e, vals0_true h]
    · cases h
  | [], _ :: _, h => by cases h
  | _ :: _, [], h => by cases h
def valEq1 : Value → Value → Bool
  | .iface t a, .iface u b => match Nat.beq t u, a, b with
    | true, .agg xs, .agg ys => vals0 xs.toList ys.toList
    | true, a, b => valEq a b
    | false, _, _ => false
  | .func (.func f) xs ys, .func (.func g) us vs => match Nat.beq f g with
    | true => match vals0 xs.toList us.toList with
      | true => vals0 ys.toList vs.toList
      | false => false
    | false => false
  | a, b => valEq a b
theorem valEq1_true {a b : Value} (h : valEq1 a b = true) : a = b := by
  unfold valEq1 at h
  split at h
  · split at h
    · rename_i e
      rw [Nat.eq_of_beq_eq_true e, Array.toList_inj.1 (vals0_true h)]
    · rename_i e _
      rw [Nat.eq_of_beq_eq_true e, valEq_true h]
    · cases h
  · split at h
    · rename_i e
      split at h
      · rename_i e2
        rw [Nat.eq_of_beq_eq_true e, Array.toList_inj.1 (vals0_true e2), Array.toList_inj.1 (vals0_true h)]
      · cases h
    · cases h
  · exact valEq_true h
def valsEq : List Value → List Value → Bool
  | [], [] => true
  | a :: l, b :: m => match valEq1 a b with
    | true => valsEq l m
    | false => false
  | _, _ => false
theorem valsEq_true : ∀ {a b : List Value}, valsEq a b = true → a = b
  | [], [], _ => rfl
  | a :: l, b :: m, h => by
    simp only [valsEq] at h
    split at h
    · rename_i e; rw [valEq1_true e, valsEq_true h]
    · cases h
  | [], _ :: _, h => by cases h
  | _ :: _, [], h => by cases h
def aoEq : AO → AO → Bool
  | .cells o r z c e, .cells o' r' z' c' e' => match o == o', r == r', Nat.beq z z', Nat.beq e e' with
    | true, true, true, true => valsEq c c'
    | _, _, _, _ => false
  | _, _ => false
theorem aoEq_true {a b : AO} (h : aoEq a b = true) : a = b := by
  unfold aoEq at h
  split at h
  · split at h
    · rename_i e1 e2 e3 e4
      rw [eq_of_beq e1, eq_of_beq e2, Nat.eq_of_beq_eq_true e3, Nat.eq_of_beq_eq_true e4, valsEq_true h]
    · cases h
  · cases h
noncomputable def allocT (o : AO) (n : Nat) (t : HT) (K : Nat → HT → Bool) : Bool := t.setK n o fun t' => forceN (n + 1) fun n' => K n' t'
theorem Rp.allocT {n : Nat} {t : HT} {H : AHeap} (r : Rp n t H) {o : AO} {K : Nat → HT → Bool} (h : AM.allocT o n t K = true) : ∃ n' t', K n' t' = true ∧ Rp n' t' (H.alloc o) := by
  obtain ⟨t', h1, h2⟩ := r.alloc h
  rw [forceN_eq] at h1
  exact ⟨_, t', h1, h2⟩
def allOne : List Value → Bool
  | [] => true
  | v :: l => match v.oneCell' with
    | true => allOne l
    | false => false
theorem allOne_eq : ∀ l : List Value, allOne l = l.all Value.oneCell'
  | [] => rfl
  | v :: l => by simp only [allOne, List.all_cons, allOne_eq l]; cases v.oneCell' <;> rfl
noncomputable def asT (b : Bool) (K : Bool) : Bool := Bool.rec (motive := fun _ => Bool) false K b
theorem asT_true {b K : Bool} (h : asT b K = true) : b = true ∧ K = true := by cases b <;> simp_all [asT]
noncomputable def elemsT (t : HT) (esz : Nat) (x : Value) (K : List Value → Bool) : Bool := match x with
  | .slice none _ _ => K []
  | .slice (some ⟨b, o, none⟩) n _ => t.getK b fun ao => match ao with
    | .cells _ _ _ c _ => asT (Nat.ble (o + n * esz) c.length) (K ((c.drop o).take (n * esz)))
    | _ => false
  | _ => false
theorem elemsT_true {n : Nat} {t : HT} {H : AHeap} (r : Rp n t H) {esz : Nat} {x : Value} {K : List Value → Bool} (h : elemsT t esz x K = true) : ∃ c, elemsA H esz x = some c ∧ K c = true := by
  unfold elemsT at h
  split at h
  · exact ⟨_, rfl, h⟩
  · obtain ⟨o, h1, h2⟩ := r.getK h
    split at h2
    · obtain ⟨h3, h4⟩ := asT_true h2
      refine ⟨_, ?_, h4⟩
      simp only [elemsA, h1]
      rw [if_pos (Nat.le_of_ble_eq_true h3)]
    · cases h2
  · cases h
def plainT (op : AOp Value) : Option Value := match op with
  | .mov x => some x
  | .pick c a b => match c with
    | .bool t => some (if t then a else b)
    | _ => none
  | .build z ps => (fillA z ps).map fun c => .agg c.toArray
  | .nilck x => match x with
    | .pointer (some _) => some x
    | .iface _ _ => some x
    | .func (.func _) _ _ => some x
    | _ => none
  | .eqv k neg x y => (eqA k x y).map fun b => .bool (if neg then !b else b)
  | .un op x => match op, x with
    | .not, .bool b => some (.bool (!b))
    | .neg, .int k n => some (.int k (k.wrap (0 - n)))
    | .xor, .int k n => some (.int k (k.wrap (BitVec.ofInt k.bits (if k.signed then -1 else k.max) ^^^ BitVec.ofInt k.bits n).toNat))
    | _, _ => none
  | .s2s x => match x with
    | .string s => some (.string s)
    | _ => none
  | .iface t x => some (.iface t x)
  | .mkfn fn xs ys => some (.func fn xs.toArray ys.toArray)
  | .fldn off n x => match x with
    | .agg cs => if off + n ≤ cs.size then some (.agg ((cs.toList.drop off).take n).toArray) else none
    | _ => none
  | .idxs x i => match x, i with
    | .string s, .int _ i => if 0 ≤ i ∧ i < (s.size : Int) then (s.data.toList[i.toNat]?).map fun b => .int .u8 b.toNat else none
    | _, _ => none
  | .idxa agg esz n x i => match x, i with
    | .agg cs, .int _ i => if 0 ≤ i ∧ i < (n : Int) then
        (if agg then (if i.toNat * esz + esz ≤ cs.size then some (.agg ((cs.toList.drop (i.toNat * esz)).take esz).toArray) else none)
        else cs.toList[i.toNat * esz]?) else none
    | _, _ => none
  | .eqs cs neg x y => match x, y with
    | .agg xs, .agg ys => (eqCs cs xs.toList ys.toList).map fun b => .bool (if neg then !b else b)
    | _, _ => none
  | .mm mx x y => match x, y with
    | .int k a, .int k' b => if k = k' then some (.int k (if mx then (if b > a then b else a) else (if b < a then b else a))) else none
    | _, _ => none
  | .i2str x => match x with
    | .int _ n => some (.string (Utf8.encode n))
    | _ => none
  | .assert t z ok x => match x with
    | .iface u v => if u = t then some (if ok then .tuple #[v, .bool true] else v) else if ok then some (.tuple #[z, .bool false]) else none
    | .nilIface => if ok then some (.tuple #[z, .bool false]) else none
    | _ => none
  | _ => none
theorem plainT_sound {op : AOp Value} {H : AHeap} {v : Value} (h : plainT op = some v) : asem op H = some (v, H) := by
  cases op <;> simp only [plainT] at h <;> simp only [asem] <;> try (cases h; done)
  case mov => cases h; rfl
  case pick => split at h <;> first | (cases h; rfl) | cases h
  case build => simp only [Option.map_eq_some_iff] at h ⊢; obtain ⟨c, h1, h2⟩ := h; exact ⟨c, h1, by rw [h2]⟩
  case nilck => split at h <;> first | (cases h; rfl) | cases h
  case eqv => simp only [Option.map_eq_some_iff] at h ⊢; obtain ⟨c, h1, h2⟩ := h; exact ⟨c, h1, by rw [h2]⟩
  case un => split at h <;> first | (cases h; rfl) | cases h
  case s2s => split at h <;> first | (cases h; rfl) | cases h
  case iface => cases h; rfl
  case mkfn => cases h; rfl
  case fldn =>
    split at h
    · split at h
      · rename_i hh; cases h; dsimp only; rw [if_pos hh]
      · cases h
    · cases h
  case idxs =>
    split at h
    · split at h
      · rename_i hh; dsimp only; rw [if_pos hh]; simp only [Option.map_eq_some_iff] at h ⊢; obtain ⟨c, h1, h2⟩ := h; exact ⟨c, h1, by rw [h2]⟩
      · cases h
    · cases h
  case idxa agg esz n x i =>
    split at h
    · split at h
      · rename_i hh
        dsimp only
        rw [if_pos hh]
        cases agg
        · simp only [Bool.false_eq_true, if_false] at h ⊢; rw [h]; rfl
        · simp only [if_true] at h ⊢
          split at h
          · rename_i hle; cases h; rw [if_pos hle]
          · cases h
      · cases h
    · cases h
  case eqs =>
    split at h
    · simp only [Option.map_eq_some_iff] at h ⊢; obtain ⟨c, h1, h2⟩ := h; exact ⟨c, h1, by rw [h2]⟩
    · cases h
  case mm =>
    split at h
    · split at h
      · rename_i hh; cases h; dsimp only; rw [if_pos hh]
      · cases h
    · cases h
  case i2str => split at h <;> first | (cases h; rfl) | cases h
  case assert =>
    split at h
    · split at h
      · rename_i hh; dsimp only; rw [if_pos hh]; cases h; rfl
      · rename_i hh; dsimp only; rw [if_neg hh]; split at h
        · rename_i h2; rw [if_pos h2]; cases h; rfl
        · cases h
    · split at h
      · rename_i h2; dsimp only; rw [if_pos h2]; cases h; rfl
      · cases h
    · cases h
noncomputable def optK (o : Option Value) (K : Value → Bool) : Bool := match o with
  | some v => K v
  | none => false
theorem optK_true {o : Option Value} {K : Value → Bool} (h : optK o K = true) : ∃ v, o = some v ∧ K v = true := by
  cases o with
  | none => cases h
  | some v => exact ⟨v, rfl, h⟩
noncomputable def bndT (x : Option Value) (dflt top : Nat) (K : Nat → Bool) : Bool := match x with
  | none => K dflt
  | some (.int _ (.ofNat i)) => asT (Nat.ble i top) (forceN i K)
  | _ => false
theorem bndT_true {x : Option Value} {dflt top : Nat} {K : Nat → Bool} (h : bndT x dflt top K = true) : ∃ i, bndA x dflt top = some i ∧ K i = true := by
  unfold bndT at h
  split at h
  · exact ⟨_, rfl, h⟩
  · rename_i k i
    obtain ⟨h1, h2⟩ := asT_true h
    rw [forceN_eq] at h2
    have := Nat.le_of_ble_eq_true h1
    refine ⟨i, ?_, h2⟩
    simp only [bndA]
    rw [if_pos ⟨Int.natCast_nonneg _, by simpa using this⟩]
    rfl
  · cases h
noncomputable def appT (e : TypeId) (esz bytes : Nat) (s : Value) (m : Nat) (news : List Value) (n : Nat) (t : HT) (K : Value → Nat → HT → Bool) : Bool := match s with
  | .slice none a b => asT (Nat.beq a 0) (asT (Nat.beq b 0) (match Nat.beq m 0 with
    | false => asT (Nat.ble (m * bytes) 140737488355328) (asT (Nat.ble m 140737488355328) (allocT (.cells true true esz news e) n t fun n' t' => K (slc n 0 m m) n' t'))
    | true => K (.slice none 0 0) n t))
  | .slice (some ⟨b, o, none⟩) a k => match Nat.beq m 0 with
    | false => asT (Nat.ble ((a + m) * bytes) 140737488355328) (asT (Nat.ble (a + m) 140737488355328) (t.getK b fun ao => match ao with
      | .cells own room esz' c e' => asT (Nat.beq esz' esz) (asT (Nat.beq e' e) (asT (Nat.ble (o + k * esz) c.length) (forceN (a + m) fun am => match Nat.ble am k with
        | true => asT own (t.setK b (.cells true room esz (c.take (o + a * esz) ++ news ++ c.drop (o + a * esz + news.length)) e) fun t' => K (slc b o am k) n t')
        | false => match !room || Nat.ble (o + k * esz + 1) c.length with
        | false => match own with
          | true => t.setK b .dead fun t1 => allocT (.cells true true esz ((c.drop o).take (a * esz) ++ news) e) n t1 fun n' t' => K (slc n 0 am am) n' t'
          | false => false
        | true => allocT (.cells true true esz ((c.drop o).take (a * esz) ++ news) e) n t fun n' t' => K (slc n 0 am am) n' t')))
      | _ => false))
    | true => K s n t
  | _ => false
def KP (K : Value → Nat → HT → Bool) : Value → AHeap → Prop := fun v H => ∃ n t, Rp n t H ∧ K v n t = true
theorem appT_true {e esz bytes : Nat} {s : Value} {m : Nat} {news : List Value} {n : Nat} {t : HT} {H : AHeap} (r : Rp n t H) {K : Value → Nat → HT → Bool} (h : appT e esz bytes s m news n t K = true) :
    ∃ v H', appA H e esz bytes s m news = some (v, H') ∧ KP K v H' := by
  have hn := r.n
  unfold appT at h
  split at h
  · rename_i a b
    obtain ⟨a1, k1⟩ := asT_true h
    obtain ⟨a2, k2⟩ := asT_true k1
    have b1 := Nat.eq_of_beq_eq_true a1
    have b2 := Nat.eq_of_beq_eq_true a2
    subst b1 b2
    split at k2
    · rename_i em
      have hm : m ≠ 0 := fun e => by subst e; cases em
      obtain ⟨a3, k3⟩ := asT_true k2
      obtain ⟨a4, k4⟩ := asT_true k3
      obtain ⟨n', t', h3, h4⟩ := r.allocT k4
      refine ⟨slc H.n 0 m m, _, ?_, n', t', h4, by rw [hn]; exact h3⟩
      simp only [appA, and_self, if_true]
      rw [if_neg hm, if_pos ⟨Nat.le_of_ble_eq_true a3, Nat.le_of_ble_eq_true a4⟩]
    · rename_i em
      have hm : m = 0 := Nat.eq_of_beq_eq_true em
      exact ⟨_, H, by simp only [appA, and_self, if_true, hm], n, t, r, k2⟩
  · rename_i b o a k
    split at h
    · rename_i em
      have hm : m ≠ 0 := fun e => by subst e; cases em
      obtain ⟨a3, k3⟩ := asT_true h
      obtain ⟨a4, k4⟩ := asT_true k3
      obtain ⟨ao, h3, k5⟩ := r.getK k4
      split at k5
      · rename_i own room esz' c e'
        obtain ⟨a5, k6⟩ := asT_true k5
        obtain ⟨a6, k6'⟩ := asT_true k6
        obtain ⟨a7, k7⟩ := asT_true k6'
        have e7 := Nat.le_of_ble_eq_true a7
        have e5 := Nat.eq_of_beq_eq_true a5
        have e6 := Nat.eq_of_beq_eq_true a6
        subst e5 e6
        rw [forceN_eq] at k7
        simp only [appA]
        rw [if_neg hm, if_pos ⟨Nat.le_of_ble_eq_true a3, Nat.le_of_ble_eq_true a4⟩]
        simp only [h3, true_and]
        rw [if_pos e7]
        split at k7
        · rename_i ef
          obtain ⟨ho, k8⟩ := asT_true k7
          subst ho
          rw [if_pos (Nat.le_of_ble_eq_true ef)]
          obtain ⟨t', m1, m2⟩ := r.set (by rw [h3]; rfl) k8
          exact ⟨_, _, rfl, n, t', m2, m1⟩
        rename_i ef
        rw [if_neg (fun hh => by rw [Nat.ble_eq_true_of_le hh] at ef; cases ef)]
        split at k7
        · rename_i ec
          have hc : ¬ (room = false ∨ o + k * esz' < c.length) := by
            rintro (c2 | c2)
            · subst c2; cases ec
            · rw [Nat.ble_eq_true_of_le c2] at ec
              simp at ec
          rw [if_neg hc]
          split at k7
          · obtain ⟨t1, m1, m2⟩ := r.set (o := .dead) (by rw [h3]; rfl) k7
            obtain ⟨n', t', h5, h6⟩ := m2.allocT m1
            exact ⟨_, _, rfl, n', t', h6, by rw [hn]; exact h5⟩
          · cases k7
        · rename_i ec
          have hc : room = false ∨ o + k * esz' < c.length := by
            cases room
            · exact .inl rfl
            · exact .inr (Nat.le_of_ble_eq_true (by simpa using ec))
          rw [if_pos hc]
          obtain ⟨n', t', h5, h6⟩ := r.allocT k7
          exact ⟨_, _, rfl, n', t', h6, by rw [hn]; exact h5⟩
      · cases k5
    · rename_i em
      have hm : m = 0 := Nat.eq_of_beq_eq_true em
      exact ⟨_, H, by simp only [appA, if_true, hm], n, t, r, h⟩
  · cases h
noncomputable def stepT (op : AOp Value) (n : Nat) (t : HT) (K : Value → Nat → HT → Bool) : Bool := match op with
  | .new e esz z => asT (allOne z) (allocT (.cells true false esz z e) n t fun n' t' => K (ptr n 0) n' t')
  | .box e esz x => asT (allOne x.cells.toList) (allocT (.cells true false esz x.cells.toList e) n t fun n' t' => K (ptr n 0) n' t')
  | .bslice e esz m z ps => match fillA z ps with
    | some c => asT (allOne c) (asT (Nat.beq c.length (m * esz)) (allocT (.cells true false esz c e) n t fun n' t' => K (slc n 0 m m) n' t'))
    | none => false
  | .load1 x => match x with
    | .pointer (some ⟨b, o, none⟩) => t.getK b fun ao => match ao with
      | .cells _ _ _ c _ => nthO c o fun v => K v n t
      | _ => false
    | _ => false
  | .loadn m x => match x with
    | .pointer (some ⟨b, o, none⟩) => t.getK b fun ao => match ao with
      | .cells _ _ _ c _ => asT (Nat.ble (o + m) c.length) (K (.agg ((c.drop o).take m).toArray) n t)
      | _ => false
    | _ => false
  | .store1 a x => match a with
    | .pointer (some ⟨b, o, none⟩) => t.getK b fun ao => match ao with
      | .cells true room esz c e => asT (Nat.ble (o + 1) c.length) (asT x.oneCell' (updK x c o fun c' => t.setK b (.cells true room esz c' e) fun t' => K undef n t'))
      | _ => false
    | _ => false
  | .storen m a x => match a with
    | .pointer (some ⟨b, o, none⟩) => t.getK b fun ao => match ao with
      | .cells true room esz c e => asT (Nat.ble (o + m) c.length) (asT (Nat.beq x.cells.toList.length m) (asT (allOne x.cells.toList) (t.setK b (.cells true room esz (c.take o ++ x.cells.toList ++ c.drop (o + m)) e) fun t' => K undef n t')))
      | _ => false
    | _ => false
  | .bin op x y => binT op x y fun v => K v n t
  | .i2i k x => match x with
    | .int _ i => wrapT k i fun r => K (.int k r) n t
    | _ => false
  | .s2b e x => match x with
    | .string s => forceN (bLen s) fun m => allocT (.cells true true 1 (s.data.toList.map fun b => .int .u8 b.toNat) e) n t fun n' t' => K (slc n 0 m m) n' t'
    | _ => false
  | .b2s x => elemsT t 1 x fun c => match bytesOf c with
    | some l => K (.string ⟨l.toArray⟩) n t
    | none => false
  | .mksl e esz bytes z l c => match l, c with
    | .int .i64 (.ofNat l), .int .i64 (.ofNat c) => asT (Nat.ble l c) (asT (Nat.ble (bytes * c) 140737488355328) (asT (Nat.ble c 140737488355328) (asT (Nat.beq z.length esz) (asT (allOne z)
        (forceN l fun l => forceN c fun c => allocT (.cells true false esz (List.replicate c z).flatten e) n t fun n' t' => K (slc n 0 l c) n' t')))))
    | _, _ => false
  | .slstr x lo hi => match x with
    | .string s => bndT hi (bLen s) (bLen s) fun h => bndT lo 0 h fun l => K (.string (bSub s l h)) n t
    | _ => false
  | .slsl esz x lo hi mx => match x with
    | .slice a m k => bndT mx k k fun mm => bndT hi m mm fun h => bndT lo 0 h fun l => match a with
      | none => K (.slice none 0 0) n t
      | some ⟨b, o, none⟩ => t.getK b fun ao => match ao with
        | .cells _ room esz' _ _ => asT (Nat.beq esz' esz || !room) (forceN (o + l * esz) fun o' => forceN (h - l) fun m' => forceN (mm - l) fun k' => K (slc b o' m' k') n t)
        | _ => false
      | _ => false
    | _ => false
  | .faddr off x => match x with
    | .pointer (some ⟨b, o, none⟩) => forceN (o + off) fun o' => K (ptr b o') n t
    | _ => false
  | .fld1 off x => match x with
    | .agg cs => nthO cs.toList off fun v => K v n t
    | _ => false
  | .iaddr esz x i => match x, i with
    | .slice (some ⟨b, o, none⟩) m _, .int _ (.ofNat i) => asT (Nat.ble (i + 1) m) (forceN (o + i * esz) fun o' => K (ptr b o') n t)
    | _, _ => false
  | .extract x i => match x with
    | .tuple vs => nthO vs.toList i fun v => K v n t
    | _ => false
  | .len str x => match str, x with
    | false, .slice _ m _ => K (.int .i64 (.ofNat m)) n t
    | true, .string s => forceN (bLen s) fun m => K (.int .i64 (.ofNat m)) n t
    | _, _ => false
  | .app e esz bytes s x => match x with
    | .slice _ m _ => elemsT t esz x fun news => appT e esz bytes s m news n t K
    | _ => false
  | .iaddrp esz m x i => match x, i with
    | .pointer (some ⟨b, o, none⟩), .int _ (.ofNat i) => asT (Nat.ble (i + 1) m) (forceN (o + i * esz) fun o' => K (ptr b o') n t)
    | _, _ => false
  | .slarr esz len x lo hi mx => match x with
    | .pointer (some ⟨b, o, none⟩) => bndT mx len len fun mm => bndT hi len mm fun h => bndT lo 0 h fun l => forceN (o + l * esz) fun o' => forceN (h - l) fun m' => forceN (mm - l) fun k' => K (slc b o' m' k') n t
    | _ => false
  | .rng x => match x with
    | .string s => allocT (.obj true (.stringIter s 0)) n t fun n' t' => K (ptr n 0) n' t'
    | _ => false
  | .next x => match x with
    | .pointer (some ⟨b, 0, none⟩) => t.getK b fun ao => match ao with
      | .obj true (.stringIter s pos) => match Nat.ble (pos + 1) (bLen s) with
        | true => forceI (Utf8.decode s pos).1 fun c => forceN (pos + (Utf8.decode s pos).2) fun q => t.setK b (.obj true (.stringIter s q)) fun t' => K (.tuple #[.bool true, .int .i64 pos, .int .i32 c]) n t'
        | false => K (.tuple #[.bool false]) n t
      | _ => false
    | _ => false
  | .copy esz d x => match d, x with
    | .slice none a k, .slice _ _ _ => asT (Nat.beq a 0) (asT (Nat.beq k 0) (K (.int .i64 0) n t))
    | .slice (some ⟨b, o, none⟩) a _, .slice _ m _ => elemsT t esz x fun l => t.getK b fun ao => match ao with
      | .cells own room esz' c e => forceN (min m a) fun q => match Nat.beq q 0 with
        | true => K (.int .i64 0) n t
        | false => asT own (asT (Nat.ble (o + q * esz) c.length) (t.setK b (.cells own room esz' (c.take o ++ l.take (q * esz) ++ c.drop (o + q * esz)) e) fun t' => K (.int .i64 (.ofNat q)) n t'))
      | _ => false
    | _, _ => false
  | .clr esz z x => match x with
    | .slice none a k => asT (Nat.beq a 0) (asT (Nat.beq k 0) (K (.tuple #[]) n t))
    | .slice (some ⟨b, o, none⟩) a _ => match Nat.beq a 0 with
      | true => K (.tuple #[]) n t
      | false => t.getK b fun ao => match ao with
        | .cells own room esz' c e => asT own (asT (Nat.ble (o + a * esz) c.length) (asT (Nat.beq z.length esz) (asT (allOne z) (t.setK b (.cells own room esz' (c.take o ++ (List.replicate a z).flatten ++ c.drop (o + a * esz)) e) fun t' => K (.tuple #[]) n t'))))
        | _ => false
    | _ => false
  | .apps e bytes s x => match x with
    | .string tx => forceN (bLen tx) fun m => appT e 1 bytes s m (tx.data.toList.map fun b => .int .u8 b.toNat) n t K
    | _ => false
  | .mark x => match x with
    | .slice (some ⟨b, _, none⟩) _ _ => t.getK b fun ao => match ao with
      | .cells true _ _ _ _ => K x n t
      | _ => false
    | _ => false
  | .callf _ _ => false
  | .callv _ _ => false
  | .bad => false
  | op => optK (plainT op) fun v => K v n t
theorem stepT_sound {op : AOp Value} {n : Nat} {t : HT} {H : AHeap} (r : Rp n t H) {K : Value → Nat → HT → Bool} (h : stepT op n t K = true) : ∃ v H', asem op H = some (v, H') ∧ KP K v H' := by
  have hn := r.n
  unfold stepT at h
  split at h
  · obtain ⟨h1, h2⟩ := asT_true h
    rw [allOne_eq] at h1
    obtain ⟨n', t', h3, h4⟩ := r.allocT h2
    exact ⟨_, _, by simp only [asem]; rw [if_pos h1], n', t', h4, by rw [hn]; exact h3⟩
  · obtain ⟨h1, h2⟩ := asT_true h
    rw [allOne_eq] at h1
    obtain ⟨n', t', h3, h4⟩ := r.allocT h2
    exact ⟨_, _, by simp only [asem]; rw [if_pos h1], n', t', h4, by rw [hn]; exact h3⟩
  · split at h
    · rename_i c hc
      obtain ⟨h1, h2⟩ := asT_true h
      obtain ⟨h5, h6⟩ := asT_true h2
      rw [allOne_eq] at h1
      obtain ⟨n', t', h3, h4⟩ := r.allocT h6
      exact ⟨_, _, by simp only [asem, hc]; rw [if_pos ⟨h1, Nat.eq_of_beq_eq_true h5⟩], n', t', h4, by rw [hn]; exact h3⟩
    · cases h
  · split at h
    · obtain ⟨o, h1, h2⟩ := r.getK h
      split at h2
      · rw [nthO_eq] at h2
        split at h2
        · rename_i v hv
          exact ⟨v, H, by simp only [asem, cellA, h1, hv, Option.map_some], n, t, r, h2⟩
        · cases h2
      · cases h2
    · cases h
  · split at h
    · obtain ⟨o, h1, h2⟩ := r.getK h
      split at h2
      · obtain ⟨h3, h4⟩ := asT_true h2
        exact ⟨_, H, by simp only [asem, rangeA, h1]; rw [if_pos (Nat.le_of_ble_eq_true h3)]; rfl, n, t, r, h4⟩
      · cases h2
    · cases h
  · split at h
    · obtain ⟨o, h1, h2⟩ := r.getK h
      split at h2
      · obtain ⟨h3, h4⟩ := asT_true h2
        obtain ⟨h5, h6⟩ := asT_true h4
        rw [updK_eq] at h6
        obtain ⟨t', h7, h8⟩ := r.set (by rw [h1]; rfl) h6
        exact ⟨_, _, by simp only [asem, h1]; rw [if_pos ⟨Nat.le_of_ble_eq_true h3, h5⟩], n, t', h8, h7⟩
      · cases h2
    · cases h
  · split at h
    · obtain ⟨o, h1, h2⟩ := r.getK h
      split at h2
      · obtain ⟨h3, h4⟩ := asT_true h2
        obtain ⟨h5, h6⟩ := asT_true h4
        obtain ⟨h9, h10⟩ := asT_true h6
        rw [allOne_eq] at h9
        obtain ⟨t', h7, h8⟩ := r.set (by rw [h1]; rfl) h10
        exact ⟨_, _, by simp only [asem, h1]; rw [if_pos ⟨Nat.le_of_ble_eq_true h3, Nat.eq_of_beq_eq_true h5, h9⟩], n, t', h8, h7⟩
      · cases h2
    · cases h
  · obtain ⟨v, h1, h2⟩ := binT_true h
    exact ⟨v, H, by simp only [asem, h1, Option.map_some], n, t, r, h2⟩
  · split at h
    · rw [wrapT_eq] at h
      exact ⟨_, H, rfl, n, t, r, h⟩
    · cases h
  · split at h
    · rename_i s
      rw [forceN_eq, bLen_eq] at h
      obtain ⟨n', t', h3, h4⟩ := r.allocT h
      exact ⟨_, _, rfl, n', t', h4, by rw [hn]; exact h3⟩
    · cases h
  · obtain ⟨c, h1, h2⟩ := elemsT_true r h
    split at h2
    · rename_i l hl
      exact ⟨_, H, by simp only [asem, h1, hl], n, t, r, h2⟩
    · cases h2
  · split at h
    · rename_i l c
      obtain ⟨a1, h⟩ := asT_true h
      obtain ⟨a2, h⟩ := asT_true h
      obtain ⟨a3, h⟩ := asT_true h
      obtain ⟨a4, h⟩ := asT_true h
      obtain ⟨a5, h⟩ := asT_true h
      rw [forceN_eq, forceN_eq] at h
      obtain ⟨n', t', h3, h4⟩ := r.allocT h
      have b1 := Nat.le_of_ble_eq_true a1
      have b2 := Nat.le_of_ble_eq_true a2
      have b3 := Nat.le_of_ble_eq_true a3
      rw [allOne_eq] at a5
      refine ⟨slc H.n 0 l c, _, ?_, n', t', h4, by rw [hn]; exact h3⟩
      simp only [asem]
      rw [if_pos ⟨Int.natCast_nonneg _, Int.ofNat_le.2 b1, Int.ofNat_le.2 b2, Int.ofNat_le.2 b3, Nat.eq_of_beq_eq_true a4, a5⟩]
      rfl
    · cases h
  · split at h
    · rename_i s
      obtain ⟨hh, h1, h2⟩ := bndT_true h
      obtain ⟨l, h3, h4⟩ := bndT_true h2
      rw [bLen_eq] at h1
      rw [bSub_eq] at h4
      exact ⟨_, H, by simp only [asem, h1, h3], n, t, r, h4⟩
    · cases h
  · split at h
    · obtain ⟨m, h1, h2⟩ := bndT_true h
      obtain ⟨hh, h3, h4⟩ := bndT_true h2
      obtain ⟨l, h5, h6⟩ := bndT_true h4
      split at h6
      · exact ⟨_, H, by simp only [asem, h1, h3, h5], n, t, r, h6⟩
      · obtain ⟨o, h7, h8⟩ := r.getK h6
        split at h8
        · obtain ⟨h9, h10⟩ := asT_true h8
          simp only [forceN_eq] at h10
          exact ⟨_, H, by simp only [asem, h1, h3, h5, h7]; rw [if_pos (by rw [Bool.or_eq_true] at h9; rcases h9 with h9 | h9; exact .inl (Nat.eq_of_beq_eq_true h9); exact .inr (by simpa using h9))], n, t, r, h10⟩
        · cases h8
      · cases h6
    · cases h
  · split at h
    · rw [forceN_eq] at h
      exact ⟨_, H, rfl, n, t, r, h⟩
    · cases h
  · split at h
    · rename_i off x cs
      rw [nthO_eq] at h
      split at h
      · rename_i v hv
        exact ⟨v, H, by simp only [asem, hv, Option.map_some], n, t, r, h⟩
      · cases h
    · cases h
  · split at h
    · rename_i b o m k kk i
      obtain ⟨h1, h2⟩ := asT_true h
      rw [forceN_eq] at h2
      have := Nat.le_of_ble_eq_true h1
      refine ⟨_, H, ?_, n, t, r, h2⟩
      simp only [asem]
      rw [if_pos ⟨Int.natCast_nonneg _, by simp only [Int.ofNat_eq_natCast]; omega⟩]
      rfl
    · cases h
  · split at h
    · rw [nthO_eq] at h
      split at h
      · rename_i v hv
        exact ⟨v, H, by simp only [asem, hv, Option.map_some], n, t, r, h⟩
      · cases h
    · cases h
  · split at h
    · exact ⟨_, H, rfl, n, t, r, h⟩
    · rw [forceN_eq, bLen_eq] at h
      exact ⟨_, H, rfl, n, t, r, h⟩
    · cases h
  · split at h
    · rename_i e esz bytes s x aa m kk
      obtain ⟨news, h1, h2⟩ := elemsT_true r h
      obtain ⟨v, H', h3, h4⟩ := appT_true r h2
      exact ⟨v, H', by simp only [asem, h1]; exact h3, h4⟩
    · cases h
  · split at h
    · rename_i b o k i
      obtain ⟨h1, h2⟩ := asT_true h
      rw [forceN_eq] at h2
      have := Nat.le_of_ble_eq_true h1
      refine ⟨_, H, ?_, n, t, r, h2⟩
      simp only [asem]
      rw [if_pos ⟨Int.natCast_nonneg _, by simp only [Int.ofNat_eq_natCast]; omega⟩]
      rfl
    · cases h
  · split at h
    · obtain ⟨m, h1, h2⟩ := bndT_true h
      obtain ⟨hh, h3, h4⟩ := bndT_true h2
      obtain ⟨l, h5, h6⟩ := bndT_true h4
      simp only [forceN_eq] at h6
      exact ⟨_, H, by simp only [asem, h1, h3, h5], n, t, r, h6⟩
    · cases h
  · split at h
    · rename_i s
      obtain ⟨n', t', h3, h4⟩ := r.allocT h
      exact ⟨_, _, rfl, n', t', h4, by rw [hn]; exact h3⟩
    · cases h
  · split at h
    · obtain ⟨o, h1, h2⟩ := r.getK h
      split at h2
      · rename_i s pos
        split at h2
        · rename_i e
          rw [forceI_eq, forceN_eq] at h2
          obtain ⟨t', h7, h8⟩ := r.set (by rw [h1]; rfl) h2
          rw [bLen_eq] at e
          exact ⟨_, _, by simp only [asem, h1]; rw [if_pos (show pos < s.size from Nat.le_of_ble_eq_true e)], n, t', h8, h7⟩
        · rename_i e
          rw [bLen_eq] at e
          have : ¬ pos < s.size := fun h => by rw [Nat.ble_eq_true_of_le h] at e; cases e
          exact ⟨_, H, by simp only [asem, h1]; rw [if_neg this], n, t, r, h2⟩
      · cases h2
    · cases h
  · split at h
    · obtain ⟨h1, h⟩ := asT_true h
      obtain ⟨h2, h⟩ := asT_true h
      exact ⟨_, H, by simp only [asem]; rw [if_pos ⟨Nat.eq_of_beq_eq_true h1, Nat.eq_of_beq_eq_true h2⟩], n, t, r, h⟩
    · obtain ⟨l, h1, h2⟩ := elemsT_true r h
      obtain ⟨o, h3, h4⟩ := r.getK h2
      split at h4
      · rename_i own room esz' c e
        rw [forceN_eq] at h4
        split at h4
        · rename_i e0
          exact ⟨_, H, by simp only [asem, h1, h3]; rw [if_pos (Nat.eq_of_beq_eq_true e0)], n, t, r, h4⟩
        · rename_i e0
          obtain ⟨h5, h6⟩ := asT_true h4
          obtain ⟨h7, h8⟩ := asT_true h6
          obtain ⟨t', h9, h10⟩ := r.set (by rw [h3]; rfl) h8
          refine ⟨_, _, ?_, n, t', h10, h9⟩
          simp only [asem, h1, h3]
          rw [if_neg (fun hh => by rw [hh] at e0; cases e0), if_pos ⟨h5, Nat.le_of_ble_eq_true h7⟩]
          rfl
      · cases h4
    · cases h
  · split at h
    · obtain ⟨h1, h⟩ := asT_true h
      obtain ⟨h2, h⟩ := asT_true h
      exact ⟨_, H, by simp only [asem]; rw [if_pos ⟨Nat.eq_of_beq_eq_true h1, Nat.eq_of_beq_eq_true h2⟩], n, t, r, h⟩
    · split at h
      · rename_i e0
        exact ⟨_, H, by simp only [asem]; rw [if_pos (Nat.eq_of_beq_eq_true e0)], n, t, r, h⟩
      · rename_i e0
        obtain ⟨o, h3, h4⟩ := r.getK h
        split at h4
        · obtain ⟨h5, h6⟩ := asT_true h4
          obtain ⟨h7, h8⟩ := asT_true h6
          obtain ⟨h9, h10⟩ := asT_true h8
          obtain ⟨h11, h12⟩ := asT_true h10
          rw [allOne_eq] at h11
          obtain ⟨t', h13, h14⟩ := r.set (by rw [h3]; rfl) h12
          refine ⟨_, _, ?_, n, t', h14, h13⟩
          simp only [asem]
          rw [if_neg (fun hh => by rw [hh] at e0; cases e0)]
          simp only [h3]
          rw [if_pos ⟨h5, Nat.le_of_ble_eq_true h7, Nat.eq_of_beq_eq_true h9, h11⟩]
        · cases h4
    · cases h
  · split at h
    · rw [forceN_eq, bLen_eq] at h
      obtain ⟨v, H', h3, h4⟩ := appT_true r h
      exact ⟨v, H', by simp only [asem]; exact h3, h4⟩
    · cases h
  · split at h
    · obtain ⟨o, h1, h2⟩ := r.getK h
      split at h2
      · exact ⟨_, H, by simp only [asem, h1], n, t, r, h2⟩
      · cases h2
    · cases h
  · cases h
  · cases h
  · cases h
  · obtain ⟨v, h1, h2⟩ := optK_true h
    exact ⟨v, H, plainT_sound h1, n, t, r, h2⟩
end Go.AM

set_option linter.unusedSimpArgs false
set_option linter.unusedVariables false
namespace Go.AM
structure EF where
  na : Nat
  sl : List Nat
  res : List RX
  body : ACode
inductive FT
  | leaf
  | node (k : Nat) (f : EF) (l r : FT)
noncomputable def FT.find (T : FT) (k : Nat) (K : EF → Bool) : Bool :=
  FT.rec (motive := fun _ => Bool) false (fun k' f _ _ l r => Bool.rec (motive := fun _ => Bool) (Bool.rec (motive := fun _ => Bool) r l (Nat.ble k k')) (K f) (Nat.beq k k')) T
def simpC : ACode → ACode
  | .dreg ops => if ops.all (fun p => p.2.isEmpty) then .reg (ops.map (·.1)) else .dreg ops
  | .seq a b => .seq (simpC a) (simpC b)
  | .cond c t e => .cond c (simpC t) (simpC e)
  | .block id c => .block id (simpC c)
  | .loop c => .loop (simpC c)
  | c => c
theorem RD_RW {P : Program} {ng : Nat} : ∀ {l : List (AOper × List Nat)} {fr tm : List Value} {H : AHeap} {tr : List TE} {K : List Value → AHeap → Prop}, l.all (fun p => p.2.isEmpty) = true → RW P ng (l.map (·.1)) fr tm H K → RD P ng l fr tm H tr K
  | [], fr, tm, H, tr, K, _, h => h
  | (o, un) :: l, fr, tm, H, tr, K, hl, h => by
    simp only [List.all_cons, Bool.and_eq_true, List.isEmpty_iff] at hl
    obtain ⟨h1, h2⟩ := hl
    subst h1
    simp only [RD, List.map_cons, RW] at h ⊢
    split at h
    · rename_i hw
      rw [if_pos hw]
      refine stepA_mono ?_ h
      intro v H' hh
      exact ⟨trivial, RD_RW h2 hh⟩
    · rename_i hw
      rw [if_neg hw]
      exact RD_RW h2 h
theorem W_simp {P : Program} {ng : Nat} : ∀ (c : ACode) {Q : AQ} {fr : List Value} {H : AHeap}, W P ng (simpC c) Q fr H → W P ng c Q fr H := by
  intro c
  induction c with
  | dreg ops =>
    intro Q fr H h
    simp only [simpC] at h
    split at h
    · rename_i hh
      exact RD_RW hh h
    · exact h
  | seq a b iha ihb =>
    intro Q fr H h
    have h1 := iha h
    show W P ng a (Q.andThen (W P ng b Q)) fr H
    refine W_mono ?_ h1
    intro e fr H hh
    cases e <;> first | exact ihb hh | exact hh
  | cond c t e iht ihe =>
    intro Q fr H h
    simp only [simpC, W] at h ⊢
    split at h
    · rename_i b hb
      cases b
      · simpa using ihe (by simpa using h)
      · simpa using iht (by simpa using h)
    · exact h
  | block id c ih => intro Q fr H h; exact ih h
  | loop c ih =>
    intro Q fr H h
    simp only [simpC, W] at h ⊢
    obtain ⟨I, n, h0, hs⟩ := h
    exact ⟨I, n, h0, fun k fr H hI => ih (hs k fr H hI)⟩
  | skip => intro Q fr H h; exact h
  | reg ops => intro Q fr H h; exact h
  | exit id => intro Q fr H h; exact h
  | ret => intro Q fr H h; exact h
def EF.ok (P : Program) (ng k : Nat) (f : EF) : Prop := ∃ af, compF P ng f.sl k = some af ∧ af.sl = f.sl ∧ af.res = f.res ∧ simpC af.body = f.body ∧ argsOK P k f.na = true
def FT.ok (P : Program) (ng : Nat) : FT → Prop
  | .leaf => True
  | .node k f l r => f.ok P ng k ∧ l.ok P ng ∧ r.ok P ng
theorem FT.find_true {P : Program} {ng : Nat} {k : Nat} {K : EF → Bool} : ∀ {T : FT}, T.ok P ng → T.find k K = true → ∃ f, f.ok P ng k ∧ K f = true
  | .leaf, _, h => by cases h
  | .node k' f l r, hT, h => by
    have e : (FT.node k' f l r).find k K = Bool.rec (motive := fun _ => Bool) (Bool.rec (motive := fun _ => Bool) (r.find k K) (l.find k K) (Nat.ble k k')) (K f) (Nat.beq k k') := rfl
    rw [e] at h
    cases e1 : Nat.beq k k'
    · rw [e1] at h
      cases e2 : Nat.ble k k'
      · rw [e2] at h; exact FT.find_true hT.2.2 h
      · rw [e2] at h; exact FT.find_true hT.2.1 h
    · rw [e1] at h
      have := Nat.eq_of_beq_eq_true e1
      subst this
      exact ⟨f, hT.1, h⟩
abbrev CK := Value → Nat → HT → Bool
abbrev Caller := FuncId → List Value → Nat → HT → CK → Bool
noncomputable def stepX (call : Caller) (op : AOp AX) (fr tm : List Value) (n : Nat) (t : HT) (K : CK) : Bool := match op with
  | .mov x => evX x fr tm fun v => K v n t
  | .pick c a b => evX c fr tm fun c => evX a fr tm fun a => evX b fr tm fun b => stepT (.pick c a b) n t K
  | .new e s z => stepT (.new e s z) n t K
  | .box e s x => evX x fr tm fun x => stepT (.box e s x) n t K
  | .build z ps => evPs ps fr tm fun ps => stepT (.build z ps) n t K
  | .bslice e s m z ps => evPs ps fr tm fun ps => stepT (.bslice e s m z ps) n t K
  | .load1 x => evX x fr tm fun x => stepT (.load1 x) n t K
  | .loadn m x => evX x fr tm fun x => stepT (.loadn m x) n t K
  | .store1 a x => evX a fr tm fun a => evX x fr tm fun x => stepT (.store1 a x) n t K
  | .storen m a x => evX a fr tm fun a => evX x fr tm fun x => stepT (.storen m a x) n t K
  | .nilck x => evX x fr tm fun x => stepT (.nilck x) n t K
  | .bin op x y => evX x fr tm fun x => evX y fr tm fun y => binT op x y fun v => K v n t
  | .eqv k m x y => evX x fr tm fun x => evX y fr tm fun y => stepT (.eqv k m x y) n t K
  | .un op x => evX x fr tm fun x => stepT (.un op x) n t K
  | .i2i k x => evX x fr tm fun x => stepT (.i2i k x) n t K
  | .s2s x => evX x fr tm fun x => stepT (.s2s x) n t K
  | .s2b e x => evX x fr tm fun x => stepT (.s2b e x) n t K
  | .b2s x => evX x fr tm fun x => stepT (.b2s x) n t K
  | .iface u x => evX x fr tm fun x => K (.iface u x) n t
  | .mkfn fn xs ys => evXs xs fr tm fun xs => evXs ys fr tm fun ys => stepT (.mkfn fn xs ys) n t K
  | .mksl e s b z l c => evX l fr tm fun l => evX c fr tm fun c => stepT (.mksl e s b z l c) n t K
  | .slstr x lo hi => evX x fr tm fun x => evO lo fr tm fun lo => evO hi fr tm fun hi => stepT (.slstr x lo hi) n t K
  | .slsl s x lo hi mx => evX x fr tm fun x => evO lo fr tm fun lo => evO hi fr tm fun hi => evO mx fr tm fun mx => stepT (.slsl s x lo hi mx) n t K
  | .faddr o x => evX x fr tm fun x => stepT (.faddr o x) n t K
  | .fld1 o x => evX x fr tm fun x => stepT (.fld1 o x) n t K
  | .fldn o m x => evX x fr tm fun x => stepT (.fldn o m x) n t K
  | .iaddr s x i => evX x fr tm fun x => evX i fr tm fun i => stepT (.iaddr s x i) n t K
  | .idxs x i => evX x fr tm fun x => evX i fr tm fun i => stepT (.idxs x i) n t K
  | .assert u z ok x => evX x fr tm fun x => stepT (.assert u z ok x) n t K
  | .extract x i => evX x fr tm fun x => stepT (.extract x i) n t K
  | .len s x => evX x fr tm fun x => stepT (.len s x) n t K
  | .app e s b x y => evX x fr tm fun x => evX y fr tm fun y => stepT (.app e s b x y) n t K
  | .mark x => evX x fr tm fun x => stepT (.mark x) n t K
  | .iaddrp s m x i => evX x fr tm fun x => evX i fr tm fun i => stepT (.iaddrp s m x i) n t K
  | .idxa a s m x i => evX x fr tm fun x => evX i fr tm fun i => stepT (.idxa a s m x i) n t K
  | .slarr s m x lo hi mx => evX x fr tm fun x => evO lo fr tm fun lo => evO hi fr tm fun hi => evO mx fr tm fun mx => stepT (.slarr s m x lo hi mx) n t K
  | .eqs cs m x y => evX x fr tm fun x => evX y fr tm fun y => stepT (.eqs cs m x y) n t K
  | .mm m x y => evX x fr tm fun x => evX y fr tm fun y => stepT (.mm m x y) n t K
  | .i2str x => evX x fr tm fun x => stepT (.i2str x) n t K
  | .rng x => evX x fr tm fun x => stepT (.rng x) n t K
  | .next x => evX x fr tm fun x => stepT (.next x) n t K
  | .copy s d x => evX d fr tm fun d => evX x fr tm fun x => stepT (.copy s d x) n t K
  | .clr s z x => evX x fr tm fun x => stepT (.clr s z x) n t K
  | .apps e b x y => evX x fr tm fun x => evX y fr tm fun y => stepT (.apps e b x y) n t K
  | .callf f xs => evXs xs fr tm fun xs => call f xs n t K
  | .callv f xs => evX f fr tm fun f => evXs xs fr tm fun xs => match f with
    | .func (.func g) first cap => call g (first.toList ++ xs ++ cap.toList) n t K
    | _ => false
  | .bad => false
def CallOK (P : Program) (ng : Nat) (call : Caller) : Prop := ∀ f xs n t K, call f xs n t K = true → ∀ H, Rp n t H → ∃ v H', ARun P ng f xs H v H' ∧ KP K v H'
theorem stepX_sound {P : Program} {ng : Nat} {call : Caller} (hc : CallOK P ng call) {op : AOp AX} {fr tm : List Value} {n : Nat} {t : HT} {K : CK} (h : stepX call op fr tm n t K = true) {H : AHeap} (r : Rp n t H) :
    stepA P ng (op.map (AX.ev fr tm)) H (KP K) := by
  have fin : ∀ {o : AOp Value}, stepT o n t K = true → stepA P ng o H (KP K) := by
    intro o ho
    obtain ⟨v, H', h1, h2⟩ := stepT_sound r ho
    exact stepA_of h1 h2
  cases op <;> simp only [stepX, evX_eq, evXs_eq, evO_eq, evPs_eq] at h <;> simp only [AOp.map] <;> try exact fin h
  case callf f xs => exact hc _ _ _ _ _ h H r
  case callv f xs =>
    simp only [stepA]
    split at h
    · rename_i g first cap hf
      rw [hf]
      exact hc _ _ _ _ _ h H r
    · cases h
noncomputable def wantK (g : Option (AX × Bool)) (fr tm : List Value) (K : Bool → Bool) : Bool := match g with
  | none => K true
  | some (x, b) => evX x fr tm fun v => match v with
    | .bool t => match t, b with
      | true, true => K true
      | false, false => K true
      | _, _ => K false
    | _ => K false
theorem wantK_eq (g : Option (AX × Bool)) (fr tm : List Value) (K : Bool → Bool) : wantK g fr tm K = K (wantA g fr tm) := by
  cases g with
  | none => rfl
  | some p =>
    obtain ⟨x, b⟩ := p
    simp only [wantK, evX_eq, wantA]
    cases x.ev fr tm <;> try rfl
    rename_i t
    cases t <;> cases b <;> rfl
noncomputable def dstK (d : D) (v : Value) (fr tm : List Value) (K : List Value → List Value → Bool) : Bool := match d with
  | .no => K fr tm
  | .fr i => updK v fr i fun fr => K fr tm
  | .tm => K fr (v :: tm)
theorem dstK_eq (d : D) (v : Value) (fr tm : List Value) (K : List Value → List Value → Bool) : dstK d v fr tm K = K (d.frame v fr) (d.temps v tm) := by
  cases d <;> simp only [dstK, updK_eq, D.frame, D.temps]
abbrev FK := List Value → Nat → HT → Bool
noncomputable def runOps (call : Caller) (ops : List AOper) : List Value → List Value → Nat → HT → FK → Bool :=
  List.rec (motive := fun _ => List Value → List Value → Nat → HT → FK → Bool) (fun fr _ n t K => K fr n t)
    (fun o _ ih fr tm n t K => wantK o.g fr tm fun b => Bool.rec (motive := fun _ => Bool)
      (dstK o.dst undef fr tm fun fr tm => ih fr tm n t K)
      (stepX call o.op fr tm n t fun v n t => dstK o.dst v fr tm fun fr tm => ih fr tm n t K) b) ops
theorem runOps_cons (call : Caller) (o : AOper) (l : List AOper) (fr tm : List Value) (n : Nat) (t : HT) (K : FK) : runOps call (o :: l) fr tm n t K = wantK o.g fr tm fun b => Bool.rec (motive := fun _ => Bool)
      (dstK o.dst undef fr tm fun fr tm => runOps call l fr tm n t K)
      (stepX call o.op fr tm n t fun v n t => dstK o.dst v fr tm fun fr tm => runOps call l fr tm n t K) b := rfl
def FP (K : FK) : List Value → AHeap → Prop := fun fr H => ∃ n t, Rp n t H ∧ K fr n t = true
theorem runOps_sound {P : Program} {ng : Nat} {call : Caller} (hc : CallOK P ng call) : ∀ {l : List AOper} {fr tm : List Value} {n : Nat} {t : HT} {K : FK}, runOps call l fr tm n t K = true → ∀ {H : AHeap}, Rp n t H → RW P ng l fr tm H (FP K)
  | [], fr, tm, n, t, K, h, H, r => ⟨n, t, r, h⟩
  | o :: l, fr, tm, n, t, K, h, H, r => by
    rw [runOps_cons, wantK_eq] at h
    simp only [RW]
    cases hw : wantA o.g fr tm
    · rw [hw] at h
      rw [dstK_eq] at h
      simp only [Bool.false_eq_true, if_false]
      exact runOps_sound hc h r
    · rw [hw] at h
      simp only [if_true]
      refine stepA_mono ?_ (stepX_sound hc h r)
      rintro v H' ⟨n', t', r', h'⟩
      simp only [dstK_eq] at h'
      exact runOps_sound hc h' r'
structure TT where
  k : Nat
  bs : List Nat
  n : Nat
  t : HT
  t' : HT
noncomputable def keepsT : List Nat → HT → HT → Bool
  | [], _, _ => true
  | b :: l, t, t' => asT (t.getK b fun o => t'.getK b fun o' => aoEq o' o) (keepsT l t t')
def olderT : List Nat → Nat → Bool
  | [], _ => true
  | b :: l, n => match Nat.ble (b + 1) n with
    | true => olderT l n
    | false => false
theorem keepsT_true {n n' : Nat} {t t' : HT} {H H' : AHeap} (r : Rp n t H) (r' : Rp n' t' H') : ∀ {l : List Nat}, keepsT l t t' = true → keepsB l H H'
  | [], _ => trivial
  | b :: l, h => by
    obtain ⟨h1, h2⟩ := asT_true h
    obtain ⟨o, h3, h4⟩ := r.getK h1
    obtain ⟨o', h5, h6⟩ := r'.getK h4
    exact ⟨by rw [h3, h5, aoEq_true h6], keepsT_true r r' h2⟩
theorem olderT_true {n : Nat} {H : AHeap} (hn : H.n = n) : ∀ {l : List Nat}, olderT l n = true → olderB l H
  | [], _ => trivial
  | b :: l, h => by
    simp only [olderT] at h
    split at h
    · rename_i e
      exact ⟨by rw [hn]; exact Nat.le_of_ble_eq_true e, olderT_true hn h⟩
    · cases h
noncomputable def oblT (k : Nat) (bs : List Nat) (t t' : HT) (tr : List TT) : List Nat → Bool
  | [] => true
  | i :: un => match tr[i]? with
    | some e => match Nat.beq k 1 && Nat.beq e.k 3, Nat.beq k 3 && (Nat.beq e.k 1 || Nat.beq e.k 2) with
      | true, _ => asT (olderT bs e.n) (asT (keepsT bs e.t e.t') (oblT k bs t t' tr un))
      | false, true => asT (keepsT e.bs t t') (oblT k bs t t' tr un)
      | false, false => oblT k bs t t' tr un
    | none => false
inductive TrR : List TT → List TE → Prop
  | nil : TrR [] []
  | cons {e : TT} {x : TE} {l : List TT} {m : List TE} (hk : x.k = e.k) (hb : x.bs = e.bs) (h1 : Rp e.n e.t x.H) (h2 : ∃ n', Rp n' e.t' x.H') (h : TrR l m) : TrR (e :: l) (x :: m)
theorem TrR.snoc {l : List TT} {m : List TE} (h : TrR l m) {e : TT} {x : TE} (hk : x.k = e.k) (hb : x.bs = e.bs) (h1 : Rp e.n e.t x.H) (h2 : ∃ n', Rp n' e.t' x.H') : TrR (l ++ [e]) (m ++ [x]) := by
  induction h with
  | nil => exact .cons hk hb h1 h2 .nil
  | cons a b c d _ ih => exact .cons a b c d ih
theorem TrR.get {l : List TT} {m : List TE} (h : TrR l m) : ∀ {i : Nat} {e : TT}, l[i]? = some e → ∃ x, m[i]? = some x ∧ x.k = e.k ∧ x.bs = e.bs ∧ Rp e.n e.t x.H ∧ ∃ n', Rp n' e.t' x.H' := by
  induction h with
  | nil => intro i e h; simp at h
  | cons a b c d _ ih =>
    intro i e h
    cases i with
    | zero => simp at h; subst h; exact ⟨_, rfl, a, b, c, d⟩
    | succ i => simp at h; simpa using ih h
theorem oblT_true {k : Nat} {bs : List Nat} {n n' : Nat} {t t' : HT} {H H' : AHeap} (r : Rp n t H) (r' : Rp n' t' H') {tr : List TT} {tr' : List TE} (ht : TrR tr tr') : ∀ {un : List Nat}, oblT k bs t t' tr un = true → oblA k bs H H' tr' un
  | [], _ => trivial
  | i :: un, h => by
    simp only [oblT] at h
    split at h
    · rename_i e he
      obtain ⟨x, h1, h2, h3, h4, n2, h5⟩ := ht.get he
      simp only [oblA, h1]
      split at h
      · rename_i e1
        obtain ⟨a1, a2⟩ := asT_true h
        obtain ⟨a3, a4⟩ := asT_true a2
        rw [Bool.and_eq_true] at e1
        have q1 := Nat.eq_of_beq_eq_true e1.1
        have q2 := Nat.eq_of_beq_eq_true e1.2
        refine ⟨?_, oblT_true r r' ht a4⟩
        rw [if_pos ⟨q1, by rw [h2]; exact q2⟩]
        exact ⟨olderT_true h4.n a1, keepsT_true h4 h5 a3⟩
      · rename_i e1 e2
        obtain ⟨a1, a2⟩ := asT_true h
        rw [Bool.and_eq_true, Bool.or_eq_true] at e2
        have q1 := Nat.eq_of_beq_eq_true e2.1
        refine ⟨?_, oblT_true r r' ht a2⟩
        rw [if_neg (by rw [q1]; simp), if_pos ⟨q1, by rw [h2]; rcases e2.2 with q | q; exact .inl (Nat.eq_of_beq_eq_true q); exact .inr (Nat.eq_of_beq_eq_true q)⟩]
        rw [h3]
        exact keepsT_true r r' a1
      · rename_i e1 e2
        refine ⟨?_, oblT_true r r' ht h⟩
        split
        · rename_i hh
          rw [h2] at hh
          rw [hh.1, hh.2] at e1
          cases e1
        · split
          · rename_i hh
            rw [h2] at hh
            rw [hh.1] at e2
            rcases hh.2 with q | q <;> rw [q] at e2 <;> cases e2
          · trivial
    · cases h
noncomputable def runD (call : Caller) (ops : List (AOper × List Nat)) : List Value → List Value → Nat → HT → List TT → FK → Bool :=
  List.rec (motive := fun _ => List Value → List Value → Nat → HT → List TT → FK → Bool) (fun fr _ n t _ K => K fr n t)
    (fun o _ ih fr tm n t tr K => wantK o.1.g fr tm fun b => Bool.rec (motive := fun _ => Bool)
      (dstK o.1.dst undef fr tm fun fr' tm' => ih fr' tm' n t (tr ++ [⟨9, [], n, t, t⟩]) K)
      (stepX call o.1.op fr tm n t fun v n' t' => asT (oblT (clsA o.1.op) (if clsA o.1.op = 1 then readsA (o.1.op.map (AX.ev fr tm)) else if clsA o.1.op = 2 then [n] else []) t t' tr o.2)
        (dstK o.1.dst v fr tm fun fr' tm' => ih fr' tm' n' t' (tr ++ [⟨clsA o.1.op, (if clsA o.1.op = 1 then readsA (o.1.op.map (AX.ev fr tm)) else if clsA o.1.op = 2 then [n] else []), n, t, t'⟩]) K)) b) ops
theorem runD_cons (call : Caller) (o : AOper × List Nat) (l : List (AOper × List Nat)) (fr tm : List Value) (n : Nat) (t : HT) (tr : List TT) (K : FK) : runD call (o :: l) fr tm n t tr K = wantK o.1.g fr tm fun b => Bool.rec (motive := fun _ => Bool)
      (dstK o.1.dst undef fr tm fun fr' tm' => runD call l fr' tm' n t (tr ++ [⟨9, [], n, t, t⟩]) K)
      (stepX call o.1.op fr tm n t fun v n' t' => asT (oblT (clsA o.1.op) (if clsA o.1.op = 1 then readsA (o.1.op.map (AX.ev fr tm)) else if clsA o.1.op = 2 then [n] else []) t t' tr o.2)
        (dstK o.1.dst v fr tm fun fr' tm' => runD call l fr' tm' n' t' (tr ++ [⟨clsA o.1.op, (if clsA o.1.op = 1 then readsA (o.1.op.map (AX.ev fr tm)) else if clsA o.1.op = 2 then [n] else []), n, t, t'⟩]) K)) b := rfl
theorem runD_sound {P : Program} {ng : Nat} {call : Caller} (hc : CallOK P ng call) : ∀ {l : List (AOper × List Nat)} {fr tm : List Value} {n : Nat} {t : HT} {tr : List TT} {tr' : List TE} {K : FK}, runD call l fr tm n t tr K = true → TrR tr tr' → ∀ {H : AHeap}, Rp n t H → RD P ng l fr tm H tr' (FP K)
  | [], fr, tm, n, t, tr, tr', K, h, _, H, r => ⟨n, t, r, h⟩
  | (o, un) :: l, fr, tm, n, t, tr, tr', K, h, ht, H, r => by
    rw [runD_cons, wantK_eq] at h
    simp only [RD]
    cases hw : wantA o.g fr tm
    · simp only [hw] at h
      rw [dstK_eq] at h
      simp only [Bool.false_eq_true, if_false]
      exact runD_sound hc h (ht.snoc rfl rfl r ⟨n, r⟩) r
    · simp only [hw] at h
      simp only [if_true]
      refine stepA_mono ?_ (stepX_sound hc h r)
      rintro v H' ⟨n', t', r', h'⟩
      obtain ⟨h1, h2⟩ := asT_true h'
      rw [dstK_eq] at h2
      have e : touchA (o.op.map (AX.ev fr tm)) H = (if clsA o.op = 1 then readsA (o.op.map (AX.ev fr tm)) else if clsA o.op = 2 then [n] else []) := by
        unfold touchA
        rw [cls_map, r.n]
      rw [e]
      exact ⟨oblT_true r r' ht h1, runD_sound hc h2 (ht.snoc rfl rfl r ⟨n', r'⟩) r'⟩
noncomputable def initK (sl : List Nat) (args : List Value) : (List Value → Bool) → Bool :=
  List.rec (motive := fun _ => (List Value → Bool) → Bool) (fun K => K []) (fun s _ ih K => nthK args s fun v => ih fun vs => K (v :: vs)) sl
theorem initK_eq : ∀ (sl : List Nat) (args : List Value) (K : List Value → Bool), initK sl args K = K (initFr sl args)
  | [], args, K => rfl
  | s :: sl, args, K => by
    have : initK (s :: sl) args K = nthK args s fun v => initK sl args fun vs => K (v :: vs) := rfl
    rw [this, nthK_eq, initK_eq sl]; rfl
noncomputable def cell1K (v : Value) (t : HT) (K : Value → Bool) : Bool := match v with
  | .pointer (some ⟨b, o, none⟩) => t.getK b fun ao => match ao with
    | .cells _ _ _ c _ => nthO c o K
    | _ => false
  | _ => false
theorem cell1K_true {n : Nat} {t : HT} {H : AHeap} (r : Rp n t H) {v : Value} {K : Value → Bool} (h : cell1K v t K = true) : ∃ u, cell1 v H = some u ∧ K u = true := by
  unfold cell1K at h
  split at h
  · obtain ⟨o, h1, h2⟩ := r.getK h
    split at h2
    · rw [nthO_eq] at h2
      split at h2
      · rename_i u hu
        exact ⟨u, by simp only [cell1, cellA, h1]; exact hu, h2⟩
      · cases h2
    · cases h2
  · cases h
noncomputable def cellnK (m : Nat) (v : Value) (t : HT) (K : Value → Bool) : Bool := match v with
  | .pointer (some ⟨b, o, none⟩) => t.getK b fun ao => match ao with
    | .cells _ _ _ c _ => asT (Nat.ble (o + m) c.length) (K (.agg ((c.drop o).take m).toArray))
    | _ => false
  | _ => false
theorem cellnK_true {n m : Nat} {t : HT} {H : AHeap} (r : Rp n t H) {v : Value} {K : Value → Bool} (h : cellnK m v t K = true) : ∃ u, celln m v H = some u ∧ K u = true := by
  unfold cellnK at h
  split at h
  · obtain ⟨o, h1, h2⟩ := r.getK h
    split at h2
    · obtain ⟨h3, h4⟩ := asT_true h2
      exact ⟨_, by simp only [celln, rangeA, h1]; rw [if_pos (Nat.le_of_ble_eq_true h3)]; rfl, h4⟩
    · cases h2
  · cases h
noncomputable def rxK (x : RX) (fr : List Value) (t : HT) (K : Value → Bool) : Bool := match x with
  | .t i => nthK fr i K
  | .c1 i => nthK fr i fun v => cell1K v t K
  | .cn m i => nthK fr i fun v => cellnK m v t K
noncomputable def rxsK (l : List RX) (fr : List Value) (t : HT) : (List Value → Bool) → Bool :=
  List.rec (motive := fun _ => (List Value → Bool) → Bool) (fun K => K []) (fun x _ ih K => rxK x fr t fun v => ih fun vs => K (v :: vs)) l
theorem rxsK_true {n : Nat} {t : HT} {H : AHeap} (r : Rp n t H) {fr : List Value} : ∀ {l : List RX} {K : List Value → Bool}, rxsK l fr t K = true → ∃ us, resVs fr H l = some us ∧ K us = true
  | [], K, h => ⟨[], rfl, h⟩
  | x :: l, K, h => by
    have h' : rxK x fr t (fun v => rxsK l fr t fun vs => K (v :: vs)) = true := h
    have : ∃ v, x.get fr H = some v ∧ rxsK l fr t (fun vs => K (v :: vs)) = true := by
      cases x with
      | t i => simp only [rxK, nthK_eq] at h'; exact ⟨_, rfl, h'⟩
      | c1 i => simp only [rxK, nthK_eq] at h'; exact cell1K_true r h'
      | cn m i => simp only [rxK, nthK_eq] at h'; exact cellnK_true r h'
    obtain ⟨v, h1, h2⟩ := this
    obtain ⟨us, h3, h4⟩ := rxsK_true r h2
    exact ⟨_, by simp only [resVs, h1, h3], h4⟩
noncomputable def resK (res : List RX) (fr : List Value) (t : HT) (K : Value → Bool) : Bool := rxsK res fr t fun vs => K (tupV vs)
theorem resK_true {n : Nat} {t : HT} {H : AHeap} (r : Rp n t H) {res : List RX} {fr : List Value} {K : Value → Bool} (h : resK res fr t K = true) : ∃ v, resO res fr H = some v ∧ K v = true := by
  obtain ⟨us, h1, h2⟩ := rxsK_true r h
  exact ⟨_, by simp only [resO, h1, Option.map_some], h2⟩
abbrev EK := Exit → List Value → Nat → HT → Bool
noncomputable def callE (T : FT) (rec : ACode → List Value → Nat → HT → EK → Bool) : Caller := fun f xs n t K => T.find f fun ef => asT (Nat.beq xs.length ef.na) (initK ef.sl xs fun fr => rec ef.body fr n t fun e fr n t => match e with
  | .normal => resK ef.res fr t fun v => K v n t
  | .ret => resK ef.res fr t fun v => K v n t
  | _ => false)
noncomputable def seqK (ihb : List Value → Nat → HT → EK → Bool) (K : EK) : EK := fun e fr n t => match e with
  | .normal => ihb fr n t K
  | e => K e fr n t
noncomputable def blockK (id : Nat) (K : EK) : EK := fun e fr n t => match e with
  | .exit id' => Bool.rec (motive := fun _ => Bool) (K (.exit id') fr n t) (K .normal fr n t) (Nat.beq id' id)
  | e => K e fr n t
noncomputable def condK (v : Value) (a b : Bool) : Bool := match v with
  | .bool t => Bool.rec (motive := fun _ => Bool) b a t
  | _ => false
noncomputable def runS (T : FT) (rec : ACode → List Value → Nat → HT → EK → Bool) (c : ACode) : List Value → Nat → HT → EK → Bool :=
  ACode.rec (motive := fun _ => List Value → Nat → HT → EK → Bool)
    (fun fr n t K => K .normal fr n t)
    (fun ops fr n t K => runOps (callE T rec) ops fr [] n t fun fr n t => K .normal fr n t)
    (fun ops fr n t K => runD (callE T rec) ops fr [] n t [] fun fr n t => K .normal fr n t)
    (fun _ _ iha ihb fr n t K => iha fr n t (seqK ihb K))
    (fun c _ _ iht ihe fr n t K => evX c fr [] fun v => condK v (iht fr n t K) (ihe fr n t K))
    (fun id _ ih fr n t K => ih fr n t (blockK id K))
    (fun c ih fr n t K => ih fr n t (seqK (rec (.loop c)) K))
    (fun id fr n t K => K (.exit id) fr n t)
    (fun fr n t K => K .ret fr n t) c
noncomputable def run (T : FT) (fuel : Nat) : ACode → List Value → Nat → HT → EK → Bool :=
  Nat.rec (motive := fun _ => ACode → List Value → Nat → HT → EK → Bool) (fun _ _ _ _ _ => false) (fun _ ih => runS T ih) fuel
def QP (K : EK) : AQ := fun e fr H => ∃ n t, Rp n t H ∧ K e fr n t = true
theorem QP_seq {P : Program} {ng : Nat} {c : ACode} {K : EK} {ihb : List Value → Nat → HT → EK → Bool} (hb : ∀ fr n t, ihb fr n t K = true → ∀ H, Rp n t H → W P ng c (QP K) fr H) (e : Exit) (fr : List Value) (H : AHeap) (h : QP (seqK ihb K) e fr H) : AQ.andThen (QP K) (W P ng c (QP K)) e fr H := by
  obtain ⟨n, t, r, h⟩ := h
  cases e with
  | normal => exact hb fr n t h H r
  | exit id => exact ⟨n, t, r, h⟩
  | ret => exact ⟨n, t, r, h⟩
  | goto l => exact ⟨n, t, r, h⟩
  | panic ch => exact ⟨n, t, r, h⟩
  | outgrown => exact ⟨n, t, r, h⟩
theorem callE_ok {P : Program} {ng : Nat} {T : FT} (hT : T.ok P ng) {rec : ACode → List Value → Nat → HT → EK → Bool} (hr : ∀ c fr n t K, rec c fr n t K = true → ∀ H, Rp n t H → W P ng c (QP K) fr H) : CallOK P ng (callE T rec) := by
  intro f xs n t K h H r
  obtain ⟨ef, ⟨af, h1, h2, h3, h4, h5⟩, h6⟩ := FT.find_true hT h
  obtain ⟨h7, h8⟩ := asT_true h6
  have hlen := Nat.eq_of_beq_eq_true h7
  rw [initK_eq] at h8
  have hw := hr _ _ _ _ _ h8 H r
  rw [← h4] at hw
  have hw2 := W_simp af.body hw
  refine walk h1 (by rw [hlen]; exact h5) ?_
  rw [h2]
  refine W_mono ?_ hw2
  rintro e fr H' ⟨n', t', r', h'⟩
  cases e with
  | normal => obtain ⟨v, h9, h10⟩ := resK_true r' h'; rw [h3]; exact ⟨v, h9, n', t', r', h10⟩
  | ret => obtain ⟨v, h9, h10⟩ := resK_true r' h'; rw [h3]; exact ⟨v, h9, n', t', r', h10⟩
  | exit id => cases h'
  | goto l => cases h'
  | panic ch => cases h'
  | outgrown => cases h'
theorem W_again {P : Program} {ng : Nat} {c : ACode} {Q : AQ} {fr : List Value} {H : AHeap} (h : W P ng c (Q.andThen (W P ng (.loop c) Q)) fr H) : W P ng (.loop c) Q fr H := by
  obtain ⟨e, fr1, H1, h1, h2⟩ := W_out c h
  by_cases he : e = .normal
  · subst he
    obtain ⟨I1, n1, g0, gs⟩ : ∃ (I : Nat → List Value → AHeap → Prop) (n : Nat), I n fr1 H1 ∧ ∀ k fr H, I k fr H → W P ng c (Q.andThen fun fr H => ∃ k', k' < k ∧ I k' fr H) fr H := h1
    refine ⟨fun k f h => (k = n1 + 1 ∧ f = fr ∧ h = H) ∨ (k ≤ n1 ∧ I1 k f h), n1 + 1, .inl ⟨rfl, rfl, rfl⟩, ?_⟩
    rintro k f h (⟨rfl, rfl, rfl⟩ | ⟨hk1, hI1⟩)
    · refine W_mono ?_ h2
      rintro e' fr' H' ⟨rfl, rfl, rfl⟩
      exact ⟨n1, by omega, .inr ⟨Nat.le_refl _, g0⟩⟩
    · refine W_mono ?_ (gs k f h hI1)
      intro e' fr' H' hh
      cases e' with
      | normal => obtain ⟨k2, a, b⟩ := hh; exact ⟨k2, a, .inr ⟨by omega, b⟩⟩
      | exit id => exact hh
      | ret => exact hh
      | goto l => exact hh
      | panic ch => exact hh
      | outgrown => exact hh
  · refine ⟨fun k f h => f = fr ∧ h = H, 0, ⟨rfl, rfl⟩, ?_⟩
    rintro k f h ⟨rfl, rfl⟩
    refine W_mono ?_ h2
    rintro e' fr' H' ⟨rfl, rfl, rfl⟩
    cases e' <;> first | exact absurd rfl he | exact h1
theorem runS_sound {P : Program} {ng : Nat} {T : FT} (hT : T.ok P ng) {rec : ACode → List Value → Nat → HT → EK → Bool} (hr : ∀ c fr n t K, rec c fr n t K = true → ∀ H, Rp n t H → W P ng c (QP K) fr H) :
    ∀ c fr n t K, runS T rec c fr n t K = true → ∀ H, Rp n t H → W P ng c (QP K) fr H := by
  have hcall := callE_ok hT hr
  intro c
  induction c with
  | skip => intro fr n t K h H r; exact ⟨n, t, r, h⟩
  | reg ops => intro fr n t K h H r; exact runOps_sound hcall (K := fun fr n t => K .normal fr n t) h r
  | dreg ops => intro fr n t K h H r; exact runD_sound hcall (K := fun fr n t => K .normal fr n t) h .nil r
  | seq a b iha ihb =>
    intro fr n t K h H r
    show W P ng a (AQ.andThen (QP K) (W P ng b (QP K))) fr H
    exact W_mono (QP_seq (fun fr n t h H r => ihb fr n t K h H r)) (iha fr n t _ h H r)
  | cond c a b iha ihb =>
    intro fr n t K h H r
    have e : runS T rec (.cond c a b) fr n t K = evX c fr [] fun v => condK v (runS T rec a fr n t K) (runS T rec b fr n t K) := rfl
    rw [e, evX_eq] at h
    simp only [W]
    unfold condK at h
    split at h
    · rename_i tt ht
      rw [ht]
      cases tt
      · exact ihb fr n t K h H r
      · exact iha fr n t K h H r
    · cases h
  | block id c ih =>
    intro fr n t K h H r
    show W P ng c (AQ.inBlock (QP K) id) fr H
    refine W_mono ?_ (ih fr n t _ h H r)
    rintro e fr' H' ⟨n', t', r', h'⟩
    cases e with
    | exit id' =>
      simp only [blockK] at h'
      simp only [AQ.inBlock]
      cases e : Nat.beq id' id
      · rw [e] at h'
        rw [if_neg (fun hh => by subst hh; rw [Nat.beq_refl] at e; cases e)]
        exact ⟨n', t', r', h'⟩
      · rw [e] at h'
        rw [if_pos (Nat.eq_of_beq_eq_true e)]
        exact ⟨n', t', r', h'⟩
    | normal => exact ⟨n', t', r', h'⟩
    | ret => exact ⟨n', t', r', h'⟩
    | goto l => exact ⟨n', t', r', h'⟩
    | panic ch => exact ⟨n', t', r', h'⟩
    | outgrown => exact ⟨n', t', r', h'⟩
  | loop c ih =>
    intro fr n t K h H r
    exact W_again (W_mono (QP_seq (c := .loop c) (fun fr n t h H r => hr (.loop c) fr n t K h H r)) (ih fr n t _ h H r))
  | exit id => intro fr n t K h H r; exact ⟨n, t, r, h⟩
  | ret => intro fr n t K h H r; exact ⟨n, t, r, h⟩
theorem run_sound {P : Program} {ng : Nat} {T : FT} (hT : T.ok P ng) : ∀ (fuel : Nat) (c : ACode) (fr : List Value) (n : Nat) (t : HT) (K : EK), run T fuel c fr n t K = true → ∀ H, Rp n t H → W P ng c (QP K) fr H
  | 0, c, fr, n, t, K, h => by cases h
  | m + 1, c, fr, n, t, K, h => runS_sound hT (rec := run T m) (run_sound hT m) c fr n t K h
noncomputable def runF (T : FT) (fuel : Nat) (f : FuncId) (xs : List Value) (n : Nat) (t : HT) (K : CK) : Bool := callE T (run T fuel) f xs n t K
theorem runF_sound {P : Program} {ng : Nat} {T : FT} (hT : T.ok P ng) {fuel : Nat} {f : FuncId} {xs : List Value} {n : Nat} {t : HT} {K : CK} (h : runF T fuel f xs n t K = true) {H : AHeap} (r : Rp n t H) : ∃ v H', ARun P ng f xs H v H' ∧ KP K v H' :=
  callE_ok hT (run_sound hT fuel) f xs n t K h H r
noncomputable def isTrue : CK := fun v _ _ => match v with
  | .bool b => b
  | _ => false
theorem isTrue_spec {v : Value} {H : AHeap} (h : KP isTrue v H) : v = .bool true := by
  obtain ⟨n, t, _, h⟩ := h
  cases v <;> first | (cases h; done) | skip
  rename_i b
  cases b
  · cases h
  · rfl
theorem Rp.empty : Rp 0 .leaf ⟨0, []⟩ := ⟨rfl, fun b => by simp [AHeap.get, HT.look]⟩
theorem HR.empty (w : World) : HR 0 (fun _ => none) (AHeap.get ⟨0, []⟩) w := ⟨fun b i h => (by cases h), fun _ _ _ _ _ _ _ h => (by cases h), fun _ _ h => (by cases h), fun g h => absurd h (Nat.not_lt_zero g)⟩
theorem closed_calls {P : Program} {T : FT} (hT : T.ok P 0) {fuel : Nat} {f : FuncId} (h : runF T fuel f [] 0 .leaf isTrue = true) (w : World) : Calls P f #[] w fun e w' => e = .returned (.bool true) ∧ Go.RowKit.Below w.heap.size w w' := by
  obtain ⟨v, H', ⟨_, _, h1⟩, h2⟩ := runF_sound hT h Rp.empty
  have hv := isTrue_spec h2
  subst hv
  refine (h1 (fun _ => none) w [] (HR.empty w) .nil).mono ?_
  rintro e w' ⟨v', σ', rfl, k1, k2, k3⟩
  rw [k3.bool_inv]
  exact ⟨rfl, k2.os, k2.tape, k2.output, k2.size, fun k hk => k2.keep k hk (fun b i o hb => by cases hb)⟩
end Go.AM

set_option linter.unusedSimpArgs false
set_option linter.unusedVariables false
namespace Go.AM
theorem closed_any {P : Program} {T : FT} (hT : T.ok P 0) {fuel : Nat} {f : FuncId} (h : runF T fuel f [] 0 .leaf isTrue = true) (H : AHeap) : ARun P 0 f [] H (.bool true) H := by
  obtain ⟨v, H', ⟨h0, _, h1⟩, h2⟩ := runF_sound hT h Rp.empty
  have hv := isTrue_spec h2
  subst hv
  refine ⟨h0, Nat.le_refl _, fun σ w args' hr ha => ?_⟩
  cases ha
  refine (h1 (fun _ => none) w [] (HR.empty w) .nil).mono ?_
  rintro e w' ⟨v', σ', rfl, k1, k2, k3⟩
  have hk : ∀ k, k < w.heap.size → w'.heap[k]? = w.heap[k]? := fun k hk => k2.keep k hk (fun b i o hb => by cases hb)
  have hsz := k2.size
  refine ⟨v', σ, rfl, ⟨fun b i hb => ?_, hr.inj, fun b i hb => Nat.lt_of_lt_of_le (hr.lt b i hb) hsz, hr.glob⟩, ⟨Sg.le.refl σ, (fun b i h1 h2 => by rw [h1] at h2; cases h2), fun _ _ o' _ a b => ⟨o', a, b⟩, fun _ _ o' _ a b => ⟨o', a, b⟩, fun k a _ => hk k a, hsz, Nat.le_refl _, k2.os, k2.tape, k2.output⟩, ?_⟩
  · obtain ⟨o, a1, a2⟩ := hr.obj b i hb
    exact ⟨o, a1, a2.congr (fun _ => hk _ (hr.lt b i hb))⟩
  · rw [k3.bool_inv]; exact .bool _
def okFs (P : Program) (f : TypeId → Bool) : List Field → Nat → Nat → Bool
  | [], off, tot => off == tot
  | fd :: r, off, tot => fd.offset == off && f fd.type && okFs P f r (off + P.cellsOf fd.type) tot
def okT (P : Program) : Nat → TypeId → Bool
  | 0, _ => false
  | d + 1, t => match P.underlying t with
    | some .bool => P.cellsOf t == 1
    | some (.int _) => P.cellsOf t == 1
    | some .string => P.cellsOf t == 1
    | some (.slice e) => P.cellsOf t == 1 && decide (0 < P.cellsOf e) && okT P d e
    | some (.struct fs) => okFs P (okT P d) fs.toList 0 (P.cellsOf t)
    | some (.array n e) => n * P.cellsOf e == P.cellsOf t && okT P d e
    | _ => false
inductive AR (P : Program) (G : Gf) : TypeId → List Value → Prop
  | bool {t : TypeId} {b : Bool} (h : P.underlying t = some .bool) : AR P G t [.bool b]
  | int {t : TypeId} {k : IntKind} {n : Int} (h : P.underlying t = some (.int k)) (hw : (Lit.int k n).wf = true) : AR P G t [.int k n]
  | str {t : TypeId} {s : ByteArray} (h : P.underlying t = some .string) (hs : s.size ≤ maxLen) : AR P G t [.string s]
  | nil {t e : TypeId} (h : P.underlying t = some (.slice e)) : AR P G t [.slice none 0 0]
  | zero {t e : TypeId} {x : Addr} (h : P.underlying t = some (.slice e)) (hx : x.spot.isSome = true) : AR P G t [.slice (some x) 0 0]
  | sl {t e : TypeId} {b n k : Nat} {c : List Value} {u : TypeId} (h : P.underlying t = some (.slice e)) (hk : 0 < k) (hn : n ≤ k) (hm : k ≤ maxLen) (hb : G b = some (.cells false false (P.cellsOf e) c u)) (hc : c.length = k * P.cellsOf e)
      (hi : ∀ i, i < k → AR P G e ((c.drop (i * P.cellsOf e)).take (P.cellsOf e))) : AR P G t [slc b 0 n k]
  | struct {t : TypeId} {fs : Array Field} {cs : List Value} (h : P.underlying t = some (.struct fs)) (hl : cs.length = P.cellsOf t)
      (hf : ∀ (i : Nat) (f : Field), fs[i]? = some f → AR P G f.type ((cs.drop f.offset).take (P.cellsOf f.type))) : AR P G t cs
  | array {t e : TypeId} {n : Nat} {cs : List Value} (h : P.underlying t = some (.array n e)) (hl : cs.length = P.cellsOf t)
      (hi : ∀ i, i < n → AR P G e ((cs.drop (i * P.cellsOf e)).take (P.cellsOf e))) : AR P G t cs
theorem AR.mono {P : Program} {G G' : Gf} (hg : ∀ b o, G b = some o → G' b = some o) {t : TypeId} {cs : List Value} (h : AR P G t cs) : AR P G' t cs := by
  induction h with
  | bool h => exact .bool h
  | int h hw => exact .int h hw
  | str h hs => exact .str h hs
  | nil h => exact .nil h
  | zero h hx => exact .zero h hx
  | sl h hk hn hm hb hc _ ih => exact .sl h hk hn hm (hg _ _ hb) hc ih
  | struct h hl _ ih => exact .struct h hl ih
  | array h hl _ ih => exact .array h hl ih
def NoOwn (H : AHeap) : Prop := ∀ b o, H.get b = some o → o.own = false
section
variable {H0 : Type} {enc : TypeId × Value → H0} {P : Program} {w : World} {ng : Nat}
structure Opened (P : Program) (ng : Nat) (w : World) (σ : Sg) (H : AHeap) (σ' : Sg) (H' : AHeap) : Prop where
  le : σ.le σ'
  keep : Keeps H H'
  hr : HR ng σ' H'.get w
  no : NoOwn H'
theorem Opened.refl {σ : Sg} {H : AHeap} (hr : HR ng σ H.get w) (no : NoOwn H) : Opened P ng w σ H σ H := ⟨Sg.le.refl σ, Keeps.refl H, hr, no⟩
theorem Opened.trans {σ σ1 σ2 : Sg} {H H1 H2 : AHeap} (h : Opened P ng w σ H σ1 H1) (k : Opened P ng w σ1 H1 σ2 H2) : Opened P ng w σ H σ2 H2 := ⟨h.le.trans k.le, h.keep.trans k.keep, k.hr, k.no⟩
end
end Go.AM

set_option linter.unusedSimpArgs false
set_option linter.unusedVariables false
namespace Go.AM
open Go.RowKit Go.WideShapes Go.ChangeShapes
section
variable {H0 : Type} {enc : TypeId × Value → H0} {P : Program} {w : World} {ng : Nat}
def AV (P : Program) (G : Gf) (t : TypeId) (v : Value) : Prop := AR P G t v.cells.toList ∧ (isAggT P t = some true → ∃ cs, v = .agg cs) ∧ (isAggT P t = some false → v.oneCell' = true)
def AVs (P : Program) (G : Gf) : List TypeId → List Value → Prop
  | [], [] => True
  | t :: ts, v :: vs => AV P G t v ∧ AVs P G ts vs
  | _, _ => False
theorem AV.mono {G G' : Gf} (hg : ∀ b o, G b = some o → G' b = some o) {t : TypeId} {v : Value} (h : AV P G t v) : AV P G' t v := ⟨h.1.mono hg, h.2⟩
theorem AVs.mono {G G' : Gf} (hg : ∀ b o, G b = some o → G' b = some o) : ∀ {ts : List TypeId} {vs : List Value}, AVs P G ts vs → AVs P G' ts vs
  | [], [], _ => trivial
  | _ :: _, _ :: _, ⟨a, b⟩ => ⟨a.mono hg, AVs.mono hg b⟩
  | [], _ :: _, h => h.elim
  | _ :: _, [], h => h.elim
end
end Go.AM

set_option linter.unusedSimpArgs false
set_option linter.unusedVariables false
namespace Go.AM
section
variable {P : Program} {G : Gf} {t e : TypeId} {v : Value} {cs : List Value}
theorem AR.int_inv {k : IntKind} (hu : P.underlying t = some (.int k)) (h : AR P G t cs) : ∃ n, cs = [.int k n] ∧ (Lit.int k n).wf = true := by
  cases h with
  | int h hw => rw [hu] at h; cases h; exact ⟨_, rfl, hw⟩
  | bool h => rw [hu] at h; cases h
  | str h _ => rw [hu] at h; cases h
  | nil h => rw [hu] at h; cases h
  | zero h _ => rw [hu] at h; cases h
  | sl h => rw [hu] at h; cases h
  | struct h _ => rw [hu] at h; cases h
  | array h _ => rw [hu] at h; cases h
theorem AR.bool_inv (hu : P.underlying t = some .bool) (h : AR P G t cs) : ∃ b, cs = [.bool b] := by
  cases h with
  | int h hw => rw [hu] at h; cases h
  | bool h => exact ⟨_, rfl⟩
  | str h _ => rw [hu] at h; cases h
  | nil h => rw [hu] at h; cases h
  | zero h _ => rw [hu] at h; cases h
  | sl h => rw [hu] at h; cases h
  | struct h _ => rw [hu] at h; cases h
  | array h _ => rw [hu] at h; cases h
theorem AR.str_inv (hu : P.underlying t = some .string) (h : AR P G t cs) : ∃ s : ByteArray, cs = [.string s] ∧ s.size ≤ maxLen := by
  cases h with
  | int h hw => rw [hu] at h; cases h
  | bool h => rw [hu] at h; cases h
  | str h hs => exact ⟨_, rfl, hs⟩
  | nil h => rw [hu] at h; cases h
  | zero h _ => rw [hu] at h; cases h
  | sl h => rw [hu] at h; cases h
  | struct h _ => rw [hu] at h; cases h
  | array h _ => rw [hu] at h; cases h
theorem AR.slice_inv (hu : P.underlying t = some (.slice e)) (h : AR P G t cs) : cs = [.slice none 0 0] ∨ (∃ x : Addr, x.spot.isSome = true ∧ cs = [.slice (some x) 0 0]) ∨
    ∃ b n k c u, cs = [slc b 0 n k] ∧ 0 < k ∧ n ≤ k ∧ k ≤ maxLen ∧ G b = some (.cells false false (P.cellsOf e) c u) ∧ c.length = k * P.cellsOf e ∧ ∀ i, i < k → AR P G e ((c.drop (i * P.cellsOf e)).take (P.cellsOf e)) := by
  cases h with
  | int h hw => rw [hu] at h; cases h
  | bool h => rw [hu] at h; cases h
  | str h hs => rw [hu] at h; cases h
  | nil h => exact .inl rfl
  | zero h hx => exact .inr (.inl ⟨_, hx, rfl⟩)
  | sl h a b c d e f => rw [hu] at h; cases h; exact .inr (.inr ⟨_, _, _, _, _, rfl, a, b, c, d, e, f⟩)
  | struct h _ => rw [hu] at h; cases h
  | array h _ => rw [hu] at h; cases h
theorem AV.one (ha : isAggT P t = some false) (h : AV P G t v) : v.cells.toList = [v] := by
  rw [cells_one (h.2.2 ha)]
theorem AV.int_inv {k : IntKind} (hu : P.underlying t = some (.int k)) (h : AV P G t v) : ∃ n, v = .int k n ∧ (Lit.int k n).wf = true := by
  have h1 := h.one (by unfold isAggT; rw [hu]; rfl)
  obtain ⟨n, h2, h3⟩ := h.1.int_inv hu
  rw [h1] at h2
  exact ⟨n, by simpa using h2, h3⟩
theorem AV.bool_inv (hu : P.underlying t = some .bool) (h : AV P G t v) : ∃ b, v = .bool b := by
  have h1 := h.one (by unfold isAggT; rw [hu]; rfl)
  obtain ⟨n, h2⟩ := h.1.bool_inv hu
  rw [h1] at h2
  exact ⟨n, by simpa using h2⟩
theorem AV.str_inv (hu : P.underlying t = some .string) (h : AV P G t v) : ∃ s : ByteArray, v = .string s ∧ s.size ≤ maxLen := by
  have h1 := h.one (by unfold isAggT; rw [hu]; rfl)
  obtain ⟨n, h2, h3⟩ := h.1.str_inv hu
  rw [h1] at h2
  exact ⟨n, by simpa using h2, h3⟩
theorem AV.slice_inv (hu : P.underlying t = some (.slice e)) (h : AV P G t v) : v = .slice none 0 0 ∨ (∃ x : Addr, x.spot.isSome = true ∧ v = .slice (some x) 0 0) ∨
    ∃ b n k c u, v = slc b 0 n k ∧ 0 < k ∧ n ≤ k ∧ k ≤ maxLen ∧ G b = some (.cells false false (P.cellsOf e) c u) ∧ c.length = k * P.cellsOf e ∧ ∀ i, i < k → AR P G e ((c.drop (i * P.cellsOf e)).take (P.cellsOf e)) := by
  have h1 := h.one (by unfold isAggT; rw [hu]; rfl)
  rcases h.1.slice_inv hu with h2 | ⟨x, hx, h2⟩ | ⟨b, n, k, c, u, h2, h3⟩
  · rw [h1] at h2; exact .inl (by simpa using h2)
  · rw [h1] at h2; exact .inr (.inl ⟨x, hx, by simpa using h2⟩)
  · rw [h1] at h2; exact .inr (.inr ⟨b, n, k, c, u, by simpa using h2, h3⟩)
theorem AR.bytes (hu : P.underlying e = some (.int .u8)) (hz : P.cellsOf e = 1) : ∀ (k : Nat) (c : List Value), c.length = k * P.cellsOf e → (∀ i, i < k → AR P G e ((c.drop (i * P.cellsOf e)).take (P.cellsOf e))) → ∃ l : List UInt8, c = cellsOf l
  | 0, c, hc, _ => ⟨[], List.eq_nil_of_length_eq_zero (by simpa using hc)⟩
  | k + 1, c, hc, h => by
    rw [hz] at hc h
    match c, hc with
    | x :: c, hc =>
      obtain ⟨n, h1, h2⟩ := (h 0 (by omega)).int_inv hu
      simp at h1
      obtain ⟨l, hl⟩ := AR.bytes hu hz k c (by rw [hz]; simpa using hc) (fun i hi => by
        have := h (i + 1) (by omega)
        rw [hz]
        simpa using this)
      simp only [Lit.wf, Bool.and_eq_true, decide_eq_true_eq, IntKind.min, IntKind.max, IntKind.signed, IntKind.bits] at h2
      obtain ⟨m, rfl⟩ : ∃ m : Nat, n = m := ⟨n.toNat, by simp at h2; omega⟩
      refine ⟨UInt8.ofNat m :: l, ?_⟩
      have hm : m % 256 = m := by simp at h2; omega
      simp [cellsOf, h1, hl, hm]
theorem AR.bs (hu : P.underlying t = some (.slice e)) (he : P.underlying e = some (.int .u8)) (hz : P.cellsOf e = 1) {H : AHeap} {v : Value} (h : AR P H.get t [v]) : ∃ l : List UInt8, BS H v l := by
  rcases h.slice_inv hu with h2 | ⟨x, hx, h2⟩ | ⟨b, n, k, c, u, h2, h3, h4, h5, h6, h7, h8⟩
  · cases h2; exact ⟨[], BS.nil H⟩
  · cases h2
    refine ⟨[], ⟨⟨_, _, rfl⟩, ?_⟩⟩
    obtain ⟨b, o, s⟩ := x
    cases s with
    | none => simp at hx
    | some s => simp [elemsA, cellsOf]
  · cases h2
    obtain ⟨l, rfl⟩ := AR.bytes he hz k c h7 h8
    rw [cellsOf_length, hz] at h7
    refine ⟨l.take n, ⟨⟨some ⟨b, 0, none⟩, k, ?_⟩, ?_⟩⟩
    · rw [List.length_take, Nat.min_eq_left (by omega)]; rfl
    · simp only [elemsA, slc, h6]
      rw [if_pos (by rw [cellsOf_length]; omega), List.drop_zero, Nat.mul_one]
      simp [cellsOf, List.map_take]
theorem AV.bs (hu : P.underlying t = some (.slice e)) (he : P.underlying e = some (.int .u8)) (hz : P.cellsOf e = 1) {H : AHeap} {v : Value} (h : AV P H.get t v) : ∃ l : List UInt8, BS H v l := by
  have h1 := h.one (by unfold isAggT; rw [hu]; rfl)
  have := h.1
  rw [h1] at this
  exact this.bs hu he hz
end
end Go.AM

set_option linter.unusedSimpArgs false
set_option linter.unusedVariables false
namespace Go.AM
section
variable {P : Program} {ng : Nat} {H : AHeap} {Q : AQ} {fr tm : List Value}
theorem W_loop2 {c : ACode} (I : Nat → List Value → AHeap → Prop) (n : Nat) (h0 : I n fr H)
    (hs : ∀ (Q' : AQ) (k : Nat) (fr : List Value) (H : AHeap), I k fr H → (∀ k' fr H, I k' fr H → k' < k → Q' .normal fr H) → (∀ i fr H, Q (.exit i) fr H → Q' (.exit i) fr H) → (∀ fr H, Q .ret fr H → Q' .ret fr H) → W P ng c Q' fr H) : W P ng (.loop c) Q fr H :=
  ⟨I, n, h0, fun k fr H hI => hs _ k fr H hI (fun k' fr H h1 h2 => ⟨k', h2, h1⟩) (fun _ _ _ h => h) (fun _ _ h => h)⟩
theorem alloc_set (H : AHeap) (o o' : AO) : (H.alloc o).set H.n o' = H.alloc o' := by
  simp [AHeap.alloc, AHeap.set]
theorem a_b2sB {v : Value} {l : List UInt8} (h : BS H v l) : asem (.b2s v) H = some (.string ⟨l.toArray⟩, H) := by
  simp only [asem, h.el, bytesOf_cellsOf]
theorem bytes_eq (p q : List UInt8) : decide ((⟨p.toArray⟩ : ByteArray) = ⟨q.toArray⟩) = decide (p = q) := by
  rw [bstr_eq, bEq_eq]
theorem a_s2bl (e : Nat) (l : List UInt8) : asem (.s2b e (.string ⟨l.toArray⟩)) H = some (slc H.n 0 l.length l.length, H.alloc (.cells true true 1 (cellsOf l) e)) := by
  have hs : (⟨l.toArray⟩ : ByteArray).size = l.length := by simp [ByteArray.size]
  simp only [asem, hs]
  rfl
theorem cells_set (l : List UInt8) (j n : Nat) : (cellsOf l).set j (.int .u8 ((UInt8.ofNat n).toNat)) = cellsOf (l.set j (UInt8.ofNat n)) := by
  simp [cellsOf, List.map_set]
theorem cells_get {l : List UInt8} {j : Nat} (h : j < l.length) : (cellsOf l)[j]? = some (.int .u8 l[j].toNat) := by simp [cellsOf, h]
theorem inc_byte (b : UInt8) : (IntKind.u8.wrap ((b.toNat : Int) + 1)) = ((UInt8.ofNat (b.toNat + 1)).toNat : Int) := by
  rw [wrap_u8]
  simp only [UInt8.toNat_ofNat']; omega
theorem wrap_succ {n : Nat} (h : n + 1 < 9223372036854775808) : IntKind.i64.wrap ((n : Int) + 1) = ((n + 1 : Nat) : Int) := by rw [wrap_i64 (by omega) (by omega)]; push_cast; rfl
end
set_option linter.defProp false in
def ANs := (And.intro (And.intro (And.intro (And.intro (And.intro (And.intro (And.intro @W_skip @W_reg) (And.intro @W_seq (And.intro @w_cond @cond_true))) (And.intro (And.intro @cond_false (And.intro @W_exit @W_ret)) (And.intro @W_dreg (And.intro @r_nil @r_cons)))) (And.intro (And.intro (And.intro @r_consg (And.intro @gd_true @gd_false)) (And.intro @go_some (And.intro @st_call @st_callv))) (And.intro (And.intro @d_nil (And.intro @d_cons @d_consg)) (And.intro @gdD_true (And.intro @gdD_false @goD_some))))) (And.intro (And.intro (And.intro (And.intro @goD_some' @stD_call) (And.intro @st_mov (And.intro @st_pick @st_new))) (And.intro (And.intro @st_box (And.intro @st_build @st_bslice)) (And.intro @st_load1 (And.intro @st_loadn @st_store1)))) (And.intro (And.intro (And.intro @st_storen (And.intro @st_nilck @st_bin)) (And.intro @st_eqv (And.intro @st_un @st_i2i))) (And.intro (And.intro @st_s2s (And.intro @st_s2b @st_b2s)) (And.intro @st_iface (And.intro @st_mkfn @st_mksl)))))) (And.intro (And.intro (And.intro (And.intro (And.intro @st_slstr @st_slsl) (And.intro @st_faddr (And.intro @st_fld1 @st_fldn))) (And.intro (And.intro @st_iaddr (And.intro @st_idxs @st_assert)) (And.intro @st_extract (And.intro @st_len @st_mark)))) (And.intro (And.intro (And.intro @sd_pick (And.intro @sd_new @sd_box)) (And.intro @sd_build (And.intro @sd_bslice @sd_load1))) (And.intro (And.intro @sd_loadn (And.intro @sd_store1 @sd_storen)) (And.intro @sd_nilck (And.intro @sd_bin @sd_eqv))))) (And.intro (And.intro (And.intro (And.intro @sd_un @sd_i2i) (And.intro @sd_s2s (And.intro @sd_s2b @sd_b2s))) (And.intro (And.intro @sd_iface (And.intro @sd_mkfn @sd_mksl)) (And.intro @sd_slstr (And.intro @sd_slsl @sd_faddr)))) (And.intro (And.intro (And.intro @sd_fld1 (And.intro @sd_fldn @sd_iaddr)) (And.intro @sd_idxs (And.intro @sd_assert @sd_extract))) (And.intro (And.intro @sd_len (And.intro @sd_mark @sd_mov)) (And.intro @a_mov (And.intro @a_pick @a_new))))))) (And.intro (And.intro (And.intro (And.intro (And.intro (And.intro @a_box @a_build) (And.intro @a_load1 (And.intro @a_loadn @a_nilck))) (And.intro (And.intro @a_bin (And.intro @a_eqv @a_not)) (And.intro @a_neg (And.intro @a_i2i @a_s2s)))) (And.intro (And.intro (And.intro @a_s2b (And.intro @a_iface @a_mkfn)) (And.intro @a_faddr (And.intro @a_fld1 @a_iaddr))) (And.intro (And.intro @a_assert (And.intro @a_extract @a_len)) (And.intro @a_lenc (And.intro @a_lens @AX_fr))))) (And.intro (And.intro (And.intro (And.intro @AX_tm @AX_c) (And.intro @AX_fn (And.intro @AX_g @D_no))) (And.intro (And.intro @D_no' (And.intro @D_tm @D_tm')) (And.intro @D_fr (And.intro @D_fr' @getD_nil')))) (And.intro (And.intro (And.intro @want_x (And.intro @bi_tt @bi_tf)) (And.intro @bi_ft (And.intro @bi_ff @pk_t))) (And.intro (And.intro @pk_f (And.intro @resO0 @resO1)) (And.intro @resO2 (And.intro @resO3 @e_sn)))))) (And.intro (And.intro (And.intro (And.intro (And.intro @e_ss @e_pn) (And.intro @e_ps (And.intro @e_bb @fill0))) (And.intro (And.intro @fill1 (And.intro @b_add @b_sub)) (And.intro @b_mul (And.intro @b_eql @b_neq)))) (And.intro (And.intro (And.intro @b_lss (And.intro @b_leq @b_gtr)) (And.intro @b_geq (And.intro @b_and @b_or))) (And.intro (And.intro @b_xor (And.intro @b_seql @b_sneq)) (And.intro @b_slss (And.intro @at_n @at_e))))) (And.intro (And.intro (And.intro (And.intro @at_r (And.intro @ib_n @ib_r)) (And.intro @ib_e (And.intro @ib_x @one_int))) (And.intro (And.intro @one_bool (And.intro @one_str @one_sl)) (And.intro @one_slc (And.intro @one_ptr @one_pn)))) (And.intro (And.intro (And.intro @one_if (And.intro @one_map @bnd_none)) (And.intro @o_int (And.intro @o_bool @o_str))) (And.intro (And.intro @o_sl (And.intro @o_slc @o_ptr)) (And.intro @o_pn (And.intro @o_if @o_map))))))))
set_option linter.defProp false in
def ANc := (And.intro (And.intro (And.intro (And.intro (And.intro @List.getD_cons_zero.{0} @List.getD_cons_succ.{0}) (And.intro @List.set_cons_zero.{0} @List.set_cons_succ.{0})) (And.intro (And.intro @List.map_cons.{0,0} @List.map_nil.{0,0}) (And.intro @Option.map_some.{0,0} (And.intro @Option.map_none.{0,0} @beq_self_eq_true.{0})))) (And.intro (And.intro (And.intro @if_true.{1} @if_true.{0}) (And.intro @Bool.false_eq_true @if_false.{1})) (And.intro (And.intro @if_false.{0} @Bool.not_true) (And.intro @Bool.not_false (And.intro @Nat.add_zero @Nat.zero_add))))) (And.intro (And.intro (And.intro (And.intro @Nat.mul_one @Int.toNat_natCast) (And.intro @List.getElem?_cons_zero.{0} @List.getElem?_cons_succ.{0})) (And.intro (And.intro @true_and @and_true) (And.intro @false_and (And.intro @Exit.exit.injEq @Bool.true_beq)))) (And.intro (And.intro (And.intro @Bool.false_beq @beq_true) (And.intro @beq_false (And.intro @List.length_cons.{0} @List.length_nil.{0}))) (And.intro (And.intro @List.all_cons.{0} @List.all_nil.{0}) (And.intro @Bool.and_true (And.intro @Bool.true_and @and_self))))))
end Go.AM
