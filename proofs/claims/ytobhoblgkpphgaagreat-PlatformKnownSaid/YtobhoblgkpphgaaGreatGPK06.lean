/- Part of the proof. -/
import Derived.Test.YtobhoblgkpphgaaGreatGPK05
set_option linter.unusedSimpArgs false
set_option linter.unusedVariables false
set_option maxRecDepth 100000
namespace Go.AM.F
def O68W : List Nat := List.replicate 68 1
def f5 : AFunc := ⟨[0],
 .seq (.reg [
 ⟨.new 33 4 [(.slice none 0 0), (.slice none 0 0), (.slice none 0 0), (.slice none 0 0)], .fr 0, none⟩]) <|
 .seq (.reg [
 ⟨.bslice 9 1 3 [(.string ByteArray.empty), (.string ByteArray.empty), (.string ByteArray.empty)] [(0, 1, (.c (.string ⟨#[97]⟩))), (1, 1, (.c (.string ⟨#[98]⟩))), (2, 1, (.c (.string ⟨#[99]⟩)))], .tm, none⟩,
 ⟨.build [(.string ByteArray.empty), (.int .i64 0)] [(0, 1, (.c (.string ⟨#[80]⟩))), (1, 1, (.c (.int .i64 1)))], .tm, none⟩,
 ⟨.bslice 27 2 1 [(.string ByteArray.empty), (.int .i64 0)] [(0, 2, (.tm 0))], .tm, none⟩,
 ⟨.build [(.string ByteArray.empty), (.int .i64 0)] [(0, 1, (.c (.string ⟨#[71]⟩))), (1, 1, (.c (.int .i64 0)))], .tm, none⟩,
 ⟨.bslice 88 2 1 [(.string ByteArray.empty), (.int .i64 0)] [(0, 2, (.tm 0))], .tm, none⟩,
 ⟨.bslice 3 1 2 [(.int .i64 0), (.int .i64 0)] [(0, 1, (.c (.int .i64 1))), (1, 1, (.c (.int .i64 2)))], .tm, none⟩,
 ⟨.build [(.int .i64 0), (.bool false)] [(0, 1, (.c (.int .i64 0)))], .tm, none⟩,
 ⟨.bslice 90 2 1 [(.int .i64 0), (.bool false)] [(0, 2, (.tm 0))], .tm, none⟩,
 ⟨.build [(.string ByteArray.empty), (.int .i64 0), (.slice none 0 0), (.slice none 0 0), (.slice none 0 0), (.slice none 0 0)] [(0, 1, (.c (.string ⟨#[82]⟩))), (1, 1, (.c (.int .i64 0))), (2, 1, (.tm 2)), (3, 1, (.tm 0))], .tm, none⟩,
 ⟨.bslice 93 6 1 [(.string ByteArray.empty), (.int .i64 0), (.slice none 0 0), (.slice none 0 0), (.slice none 0 0), (.slice none 0 0)] [(0, 6, (.tm 0))], .tm, none⟩,
 ⟨.build [(.slice none 0 0), (.slice none 0 0), (.slice none 0 0), (.slice none 0 0)] [(0, 1, (.tm 9)), (1, 1, (.tm 7)), (2, 1, (.tm 5)), (3, 1, (.tm 0))], .tm, none⟩,
 ⟨.storen 4 (.fr 0) (.tm 0), .no, none⟩]) <|
 .ret, [.cn 4 0]⟩
def f11 : AFunc := ⟨[0, 2, 3, 4, 6, 13, 14, 15],
 .seq (.reg [
 ⟨.mov (.c (.slice none 0 0)), .fr 1, none⟩]) <|
 .seq (.seq (.reg [
 ⟨.mov (.fr 0), .tm, none⟩,
 ⟨.eqv 1 false (.tm 0) (.c (.pointer none)), .fr 4, none⟩]) <|
 .cond (.fr 4)
 (.seq (.reg [
 ⟨.mov (.c (.slice none 0 0)), .fr 1, none⟩]) <|
 .ret)
 (.skip)) <|
 .seq (.reg [
 ⟨.mov (.fr 0), .tm, none⟩,
 ⟨.nilck (.tm 0), .tm, none⟩,
 ⟨.faddr 12 (.tm 0), .tm, none⟩,
 ⟨.load1 (.tm 0), .tm, none⟩,
 ⟨.callf 53 [(.tm 0)], .tm, none⟩,
 ⟨.mov (.tm 0), .fr 2, none⟩]) <|
 .seq (.seq (.reg [
 ⟨.mov (.fr 2), .tm, none⟩,
 ⟨.len false (.tm 0), .fr 5, none⟩,
 ⟨.mov (.c (.int .i64 0)), .fr 6, none⟩]) <|
 .block 0 (.loop (.seq (.reg [
 ⟨.bin .lss (.fr 6) (.fr 5), .fr 7, none⟩]) <|
 .seq (.cond (.fr 7)
 (.skip)
 (.exit 0)) <|
 .seq (.block 1 (.seq (.reg [
 ⟨.mov (.fr 6), .tm, none⟩,
 ⟨.mov (.tm 0), .fr 3, none⟩]) <|
 .reg [
 ⟨.mov (.fr 2), .tm, none⟩,
 ⟨.mov (.fr 3), .tm, none⟩,
 ⟨.mov (.fr 2), .tm, none⟩,
 ⟨.mov (.fr 3), .tm, none⟩,
 ⟨.iaddr 10 (.tm 1) (.tm 0), .tm, none⟩,
 ⟨.faddr 3 (.tm 0), .tm, none⟩,
 ⟨.loadn 4 (.tm 0), .tm, none⟩,
 ⟨.callf 32 [(.tm 0)], .tm, none⟩,
 ⟨.iaddr 10 (.tm 7) (.tm 6), .tm, none⟩,
 ⟨.faddr 3 (.tm 0), .tm, none⟩,
 ⟨.storen 4 (.tm 0) (.tm 2), .no, none⟩])) <|
 .reg [
 ⟨.bin .add (.fr 6) (.c (.int .i64 1)), .tm, none⟩,
 ⟨.mov (.tm 0), .fr 6, none⟩]))) <|
 .seq (.reg [
 ⟨.mov (.fr 2), .tm, none⟩,
 ⟨.mov (.tm 0), .fr 1, none⟩]) <|
 .ret, [.t 1]⟩
def f28 : AFunc := ⟨[0, 2, 3, 9],
 .seq (.reg [
 ⟨.mov (.c (.pointer none)), .fr 1, none⟩,
 ⟨.mov (.c (.int .i64 0)), .fr 2, none⟩]) <|
 .seq (.seq (.reg [
 ⟨.mov (.fr 0), .tm, none⟩,
 ⟨.bin .lss (.tm 0) (.c (.int .i64 1)), .tm, none⟩,
 ⟨.mov (.tm 0), .tm, none⟩,
 ⟨.mov (.fr 0), .tm, some ((.tm 0), false)⟩,
 ⟨.bin .gtr (.tm 0) (.c (.int .i64 1000)), .tm, some ((.tm 1), false)⟩,
 ⟨.pick (.tm 2) (.c (.bool true)) (.tm 0), .fr 3, none⟩]) <|
 .cond (.fr 3)
 (.seq (.reg [
 ⟨.mov (.c (.pointer none)), .fr 1, none⟩,
 ⟨.mov (.c (.int .i64 2)), .fr 2, none⟩]) <|
 .ret)
 (.skip)) <|
 .seq (.reg [
 ⟨.build [(.int .i64 0), (.int .i64 0), .nilIface] [(1, 1, (.c (.int .i64 (-1))))], .tm, none⟩,
 ⟨.mov (.fr 0), .tm, none⟩,
 ⟨.build [(.int .i64 0), (.int .i64 0), .nilIface, (.int .i64 0), (.int .i64 0), (.bool false), (.int .u64 0), (.int .u32 0), .nilIface] [(0, 3, (.tm 1)), (3, 1, (.tm 0)), (5, 1, (.c (.bool true)))], .tm, none⟩,
 ⟨.box 152 9 (.tm 0), .tm, none⟩,
 ⟨.mov (.tm 0), .fr 1, none⟩,
 ⟨.mov (.c (.int .i64 0)), .fr 2, none⟩]) <|
 .ret, [.t 1, .t 2]⟩
def f51 : AFunc := ⟨[0, 1, 2, 6, 31],
 .seq (.reg [
 ⟨.mov (.c (.pointer none)), .fr 3, none⟩]) <|
 .seq (.seq (.reg [
 ⟨.mov (.fr 0), .tm, none⟩,
 ⟨.eqv 1 false (.tm 0) (.c (.pointer none)), .tm, none⟩,
 ⟨.mov (.tm 0), .tm, none⟩,
 ⟨.mov (.fr 1), .tm, some ((.tm 0), false)⟩,
 ⟨.bin .lss (.tm 0) (.c (.int .i64 0)), .tm, some ((.tm 1), false)⟩,
 ⟨.pick (.tm 2) (.c (.bool true)) (.tm 0), .tm, none⟩,
 ⟨.mov (.tm 0), .tm, none⟩,
 ⟨.mov (.fr 1), .tm, some ((.tm 0), false)⟩,
 ⟨.bin .gtr (.tm 0) (.c (.int .i64 1)), .tm, some ((.tm 1), false)⟩,
 ⟨.pick (.tm 2) (.c (.bool true)) (.tm 0), .tm, none⟩,
 ⟨.mov (.tm 0), .tm, none⟩,
 ⟨.mov (.fr 2), .tm, some ((.tm 0), false)⟩,
 ⟨.mov (.tm 0), .tm, some ((.tm 1), false)⟩,
 ⟨.mov (.fr 0), .tm, some ((.tm 0), true)⟩,
 ⟨.mov (.fr 1), .tm, some ((.tm 1), true)⟩,
 ⟨.nilck (.tm 1), .tm, some ((.tm 2), true)⟩,
 ⟨.faddr 4 (.tm 0), .tm, some ((.tm 3), true)⟩,
 ⟨.iaddrp 1 2 (.tm 0) (.tm 2), .tm, some ((.tm 4), true)⟩,
 ⟨.load1 (.tm 0), .tm, some ((.tm 5), true)⟩,
 ⟨.nilck (.tm 0), .tm, some ((.tm 6), true)⟩,
 ⟨.faddr 0 (.tm 0), .tm, some ((.tm 7), true)⟩,
 ⟨.load1 (.tm 0), .tm, some ((.tm 8), true)⟩,
 ⟨.eqv 1 false (.tm 0) (.c (.pointer none)), .tm, some ((.tm 9), true)⟩,
 ⟨.pick (.tm 10) (.tm 0) (.c (.bool false)), .tm, some ((.tm 12), false)⟩,
 ⟨.pick (.tm 13) (.c (.bool true)) (.tm 0), .fr 4, none⟩]) <|
 .cond (.fr 4)
 (.seq (.reg [
 ⟨.mov (.c (.pointer none)), .fr 3, none⟩]) <|
 .ret)
 (.skip)) <|
 .seq (.reg [
 ⟨.mov (.fr 0), .tm, none⟩,
 ⟨.mov (.fr 1), .tm, none⟩,
 ⟨.nilck (.tm 1), .tm, none⟩,
 ⟨.faddr 4 (.tm 0), .tm, none⟩,
 ⟨.iaddrp 1 2 (.tm 0) (.tm 2), .tm, none⟩,
 ⟨.load1 (.tm 0), .tm, none⟩,
 ⟨.mov (.tm 0), .fr 3, none⟩]) <|
 .ret, [.t 3]⟩
def f74 : AFunc := ⟨[0, 1, 2, 6, 7, 8],
 .seq (.reg [
 ⟨.mov (.c (.pointer none)), .fr 3, none⟩,
 ⟨.mov (.c (.int .i64 0)), .fr 4, none⟩]) <|
 .seq (.block 0 (.seq (.seq (.reg [
 ⟨.mov (.fr 0), .tm, none⟩,
 ⟨.bin .lss (.tm 0) (.c (.int .i64 1)), .tm, none⟩,
 ⟨.mov (.tm 0), .fr 5, none⟩]) <|
 .cond (.fr 5)
 (.skip)
 (.seq (.reg [
 ⟨.mov (.fr 0), .tm, none⟩,
 ⟨.bin .gtr (.tm 0) (.c (.int .i64 16)), .tm, none⟩,
 ⟨.mov (.tm 0), .fr 5, none⟩]) <|
 .cond (.fr 5)
 (.skip)
 (.seq (.reg [
 ⟨.mov (.fr 1), .tm, none⟩,
 ⟨.bin .lss (.tm 0) (.c (.int .i64 1)), .tm, none⟩,
 ⟨.mov (.tm 0), .fr 5, none⟩]) <|
 .cond (.fr 5)
 (.skip)
 (.seq (.reg [
 ⟨.mov (.fr 1), .tm, none⟩,
 ⟨.bin .gtr (.tm 0) (.c (.int .i64 1000)), .tm, none⟩,
 ⟨.mov (.tm 0), .fr 5, none⟩]) <|
 .cond (.fr 5)
 (.skip)
 (.seq (.reg [
 ⟨.mov (.fr 2), .tm, none⟩,
 ⟨.bin .lss (.tm 0) (.c (.int .i64 0)), .tm, none⟩,
 ⟨.mov (.tm 0), .fr 5, none⟩]) <|
 .cond (.fr 5)
 (.skip)
 (.reg [
 ⟨.mov (.fr 2), .tm, none⟩,
 ⟨.bin .gtr (.tm 0) (.c (.int .i64 1099511627776)), .tm, none⟩,
 ⟨.mov (.tm 0), .fr 5, none⟩])))))) <|
 .cond (.fr 5)
 (.seq (.reg [
 ⟨.mov (.c (.pointer none)), .fr 3, none⟩,
 ⟨.mov (.c (.int .i64 2)), .fr 4, none⟩]) <|
 .ret)
 (.skip))) <|
 .seq (.reg [
 ⟨.mov (.fr 0), .tm, none⟩,
 ⟨.mov (.fr 1), .tm, none⟩,
 ⟨.mov (.fr 2), .tm, none⟩,
 ⟨.build [(.int .i64 0), (.int .i64 0), (.int .i64 0), (.int .i64 0), (.int .i64 0), (.bool false)] [(0, 1, (.tm 2)), (1, 1, (.tm 1)), (2, 1, (.tm 0))], .tm, none⟩,
 ⟨.box 194 6 (.tm 0), .tm, none⟩,
 ⟨.mov (.tm 0), .fr 3, none⟩,
 ⟨.mov (.c (.int .i64 0)), .fr 4, none⟩]) <|
 .ret, [.t 3, .t 4]⟩
def f75 : AFunc := ⟨[0, 1, 2, 6, 7, 18],
 .seq (.reg [
 ⟨.mov (.c (.pointer none)), .fr 3, none⟩,
 ⟨.mov (.c (.int .i64 0)), .fr 4, none⟩]) <|
 .seq (.seq (.reg [
 ⟨.mov (.fr 0), .tm, none⟩,
 ⟨.mov (.fr 1), .tm, none⟩,
 ⟨.bin .eql (.tm 1) (.tm 0), .tm, none⟩,
 ⟨.mov (.tm 0), .tm, none⟩,
 ⟨.mov (.fr 2), .tm, some ((.tm 0), false)⟩,
 ⟨.bin .lss (.tm 0) (.c (.int .i64 1)), .tm, some ((.tm 1), false)⟩,
 ⟨.pick (.tm 2) (.c (.bool true)) (.tm 0), .tm, none⟩,
 ⟨.mov (.tm 0), .tm, none⟩,
 ⟨.mov (.fr 2), .tm, some ((.tm 0), false)⟩,
 ⟨.bin .gtr (.tm 0) (.c (.int .i64 2305843009213693952)), .tm, some ((.tm 1), false)⟩,
 ⟨.pick (.tm 2) (.c (.bool true)) (.tm 0), .fr 5, none⟩]) <|
 .cond (.fr 5)
 (.seq (.reg [
 ⟨.mov (.c (.pointer none)), .fr 3, none⟩,
 ⟨.mov (.c (.int .i64 2)), .fr 4, none⟩]) <|
 .ret)
 (.skip)) <|
 .seq (.reg [
 ⟨.mov (.fr 0), .tm, none⟩,
 ⟨.mov (.fr 1), .tm, none⟩,
 ⟨.mov (.fr 2), .tm, none⟩,
 ⟨.bin .sub (.tm 0) (.c (.int .i64 1)), .tm, none⟩,
 ⟨.build [(.int .u8 0), (.int .u8 0), (.int .i64 0), (.int .i64 0), (.slice none 0 0)] [(0, 1, (.tm 3)), (1, 1, (.tm 2)), (2, 1, (.tm 0))], .tm, none⟩,
 ⟨.build [(.int .u8 0), (.int .u8 0), (.int .i64 0), (.int .i64 0), (.slice none 0 0), (.int .i64 0), (.int .i64 0)] [(0, 5, (.tm 0))], .tm, none⟩,
 ⟨.box 240 7 (.tm 0), .tm, none⟩,
 ⟨.mov (.tm 0), .fr 3, none⟩,
 ⟨.mov (.c (.int .i64 0)), .fr 4, none⟩]) <|
 .ret, [.t 3, .t 4]⟩
def f76 : AFunc := ⟨[0, 1, 3, 4, 5, 8],
 .seq (.reg [
 ⟨.box 53 70 (.fr 1), .fr 2, none⟩,
 ⟨.mov (.c (.int .i64 0)), .fr 3, none⟩]) <|
 .seq (.block 0 (.seq (.reg [
 ⟨.mov (.fr 0), .tm, none⟩,
 ⟨.eqv 1 false (.tm 0) (.c (.pointer none)), .tm, none⟩,
 ⟨.mov (.tm 0), .fr 4, none⟩]) <|
 .cond (.fr 4)
 (.seq (.reg [
 ⟨.mov (.c (.int .i64 1)), .fr 3, none⟩]) <|
 .ret)
 (.seq (.reg [
 ⟨.faddr 0 (.fr 2), .tm, none⟩,
 ⟨.load1 (.tm 0), .tm, none⟩,
 ⟨.faddr 1 (.fr 2), .tm, none⟩,
 ⟨.load1 (.tm 0), .tm, none⟩,
 ⟨.bslice 2 1 2 [(.int .i64 0), (.int .i64 0)] [(0, 1, (.tm 2)), (1, 1, (.tm 0))], .tm, none⟩,
 ⟨.callf 120 [(.tm 0)], .tm, none⟩,
 ⟨.un .not (.tm 0), .tm, none⟩,
 ⟨.mov (.tm 0), .fr 5, none⟩]) <|
 .cond (.fr 5)
 (.seq (.reg [
 ⟨.mov (.c (.int .i64 2)), .fr 3, none⟩]) <|
 .ret)
 (.skip)))) <|
 .seq (.reg [
 ⟨.mov (.fr 0), .tm, none⟩,
 ⟨.nilck (.tm 0), .tm, none⟩,
 ⟨.faddr 0 (.tm 0), .tm, none⟩,
 ⟨.store1 (.tm 0) (.fr 2), .no, none⟩]) <|
 .seq (.reg [
 ⟨.mov (.c (.int .i64 0)), .fr 3, none⟩]) <|
 .ret, [.t 3]⟩
def f83 : AFunc := ⟨[0, 2, 3, 6],
 .seq (.reg [
 ⟨.mov (.c (.int .i64 0)), .fr 1, none⟩]) <|
 .seq (.block 0 (.seq (.reg [
 ⟨.mov (.fr 0), .tm, none⟩,
 ⟨.eqv 1 false (.tm 0) (.c (.pointer none)), .tm, none⟩,
 ⟨.mov (.tm 0), .fr 2, none⟩]) <|
 .cond (.fr 2)
 (.seq (.reg [
 ⟨.mov (.c (.int .i64 1)), .fr 1, none⟩]) <|
 .ret)
 (.seq (.reg [
 ⟨.mov (.fr 0), .tm, none⟩,
 ⟨.nilck (.tm 0), .tm, none⟩,
 ⟨.faddr 5 (.tm 0), .tm, none⟩,
 ⟨.load1 (.tm 0), .tm, none⟩,
 ⟨.un .not (.tm 0), .tm, none⟩,
 ⟨.mov (.tm 0), .fr 3, none⟩]) <|
 .cond (.fr 3)
 (.seq (.reg [
 ⟨.mov (.c (.int .i64 4)), .fr 1, none⟩]) <|
 .ret)
 (.skip)))) <|
 .seq (.reg [
 ⟨.mov (.fr 0), .tm, none⟩,
 ⟨.mov (.fr 0), .tm, none⟩,
 ⟨.nilck (.tm 1), .tm, none⟩,
 ⟨.faddr 5 (.tm 0), .tm, none⟩,
 ⟨.store1 (.tm 0) (.c (.bool false)), .no, none⟩,
 ⟨.nilck (.tm 2), .tm, none⟩,
 ⟨.faddr 4 (.tm 0), .tm, none⟩,
 ⟨.store1 (.tm 0) (.c (.int .i64 0)), .no, none⟩]) <|
 .seq (.reg [
 ⟨.mov (.c (.int .i64 0)), .fr 1, none⟩]) <|
 .ret, [.t 1]⟩
def f87 : AFunc := ⟨[0, 1, 4],
 .seq (.reg [
 ⟨.mov (.c (.bool false)), .fr 2, none⟩]) <|
 .seq (.dreg [
 (⟨.mov (.fr 1), .tm, none⟩, []),
 (⟨.nilck (.tm 0), .tm, none⟩, []),
 (⟨.faddr 0 (.tm 0), .tm, none⟩, []),
 (⟨.load1 (.tm 0), .tm, none⟩, []),
 (⟨.nilck (.tm 0), .tm, none⟩, []),
 (⟨.faddr 8 (.tm 0), .tm, none⟩, []),
 (⟨.loadn 2 (.tm 0), .tm, none⟩, []),
 (⟨.mov (.fr 1), .tm, none⟩, []),
 (⟨.nilck (.tm 0), .tm, none⟩, []),
 (⟨.faddr 0 (.tm 0), .tm, none⟩, []),
 (⟨.load1 (.tm 0), .tm, none⟩, []),
 (⟨.nilck (.tm 0), .tm, none⟩, []),
 (⟨.faddr 2 (.tm 0), .tm, none⟩, []),
 (⟨.load1 (.tm 0), .tm, none⟩, []),
 (⟨.callf 141 [(.tm 0)], .tm, none⟩, [3, 6]),
 (⟨.mov (.fr 1), .tm, none⟩, []),
 (⟨.nilck (.tm 0), .tm, none⟩, []),
 (⟨.faddr 0 (.tm 0), .tm, none⟩, []),
 (⟨.load1 (.tm 0), .tm, none⟩, [14]),
 (⟨.nilck (.tm 0), .tm, none⟩, []),
 (⟨.faddr 2 (.tm 0), .tm, none⟩, []),
 (⟨.load1 (.tm 0), .tm, none⟩, [14]),
 (⟨.callf 141 [(.tm 0)], .tm, none⟩, [3, 6]),
 (⟨.build [(.int .i64 0), (.int .i64 0)] [(0, 1, (.tm 8)), (1, 1, (.tm 0))], .tm, none⟩, []),
 (⟨.eqs [1, 1] false (.tm 17) (.tm 0), .tm, none⟩, []),
 (⟨.mov (.tm 0), .fr 2, none⟩, [])]) <|
 .ret, [.t 2]⟩
def f91 : AFunc := ⟨[0, 1, 2, 6, 7, 10, 16],
 .seq (.reg [
 ⟨.mov (.c (.int .i64 0)), .fr 3, none⟩]) <|
 .seq (.block 0 (.seq (.reg [
 ⟨.mov (.fr 0), .tm, none⟩,
 ⟨.eqv 1 false (.tm 0) (.c (.pointer none)), .tm, none⟩,
 ⟨.mov (.tm 0), .fr 4, none⟩]) <|
 .cond (.fr 4)
 (.seq (.reg [
 ⟨.mov (.c (.int .i64 1)), .fr 3, none⟩]) <|
 .ret)
 (.seq (.reg [
 ⟨.mov (.fr 0), .tm, none⟩,
 ⟨.nilck (.tm 0), .tm, none⟩,
 ⟨.faddr 6 (.tm 0), .tm, none⟩,
 ⟨.load1 (.tm 0), .tm, none⟩,
 ⟨.callf 108 [(.tm 0)], .tm, none⟩,
 ⟨.mov (.tm 0), .fr 5, none⟩]) <|
 .cond (.fr 5)
 (.seq (.reg [
 ⟨.mov (.c (.int .i64 220)), .fr 3, none⟩]) <|
 .ret)
 (.seq (.reg [
 ⟨.mov (.fr 1), .tm, none⟩,
 ⟨.bin .neq (.tm 0) (.c (.int .i64 0)), .tm, none⟩,
 ⟨.mov (.tm 0), .tm, none⟩,
 ⟨.mov (.fr 1), .tm, some ((.tm 0), true)⟩,
 ⟨.bin .neq (.tm 0) (.c (.int .i64 1)), .tm, some ((.tm 1), true)⟩,
 ⟨.pick (.tm 2) (.tm 0) (.c (.bool false)), .tm, none⟩,
 ⟨.mov (.tm 0), .fr 6, none⟩]) <|
 .cond (.fr 6)
 (.seq (.reg [
 ⟨.mov (.c (.int .i64 2)), .fr 3, none⟩]) <|
 .ret)
 (.skip))))) <|
 .seq (.reg [
 ⟨.mov (.fr 0), .tm, none⟩,
 ⟨.mov (.fr 1), .tm, none⟩,
 ⟨.nilck (.tm 1), .tm, none⟩,
 ⟨.faddr 4 (.tm 0), .tm, none⟩,
 ⟨.iaddrp 1 2 (.tm 0) (.tm 2), .tm, none⟩,
 ⟨.load1 (.tm 0), .tm, none⟩,
 ⟨.mov (.fr 2), .tm, none⟩,
 ⟨.callf 149 [(.tm 1), (.tm 0)], .tm, none⟩,
 ⟨.mov (.tm 0), .fr 3, none⟩]) <|
 .ret, [.t 3]⟩
def f92 : AFunc := ⟨[0, 1, 2, 6, 7, 16],
 .seq (.reg [
 ⟨.mov (.c (.slice none 0 0)), .fr 3, none⟩]) <|
 .seq (.reg [
 ⟨.mov (.fr 0), .tm, none⟩,
 ⟨.mov (.fr 1), .tm, none⟩,
 ⟨.mov (.fr 2), .tm, none⟩,
 ⟨.mov (.fr 0), .tm, none⟩,
 ⟨.len false (.tm 0), .tm, none⟩,
 ⟨.slsl 7 (.tm 4) (some (.tm 3)) (some (.tm 2)) (some (.tm 0)), .tm, none⟩]) <|
 .seq (.seq (.reg [
 ⟨.mov (.fr 1), .tm, none⟩,
 ⟨.mov (.fr 2), .tm, none⟩,
 ⟨.bin .eql (.tm 1) (.tm 0), .fr 5, none⟩]) <|
 .cond (.fr 5)
 (.seq (.reg [
 ⟨.mov (.fr 0), .tm, none⟩,
 ⟨.mov (.tm 0), .fr 3, none⟩]) <|
 .ret)
 (.skip)) <|
 .seq (.reg [
 ⟨.mov (.fr 0), .tm, none⟩,
 ⟨.len false (.tm 0), .tm, none⟩,
 ⟨.mov (.tm 0), .fr 4, none⟩]) <|
 .seq (.dreg [
 (⟨.mov (.fr 0), .tm, none⟩, []),
 (⟨.mov (.fr 1), .tm, none⟩, []),
 (⟨.slsl 7 (.tm 1) none (some (.tm 0)) none, .tm, none⟩, []),
 (⟨.mov (.fr 0), .tm, none⟩, []),
 (⟨.mov (.fr 2), .tm, none⟩, []),
 (⟨.slsl 7 (.tm 1) (some (.tm 0)) none none, .tm, none⟩, []),
 (⟨.app 178 7 64 (.tm 3) (.tm 0), .tm, none⟩, []),
 (⟨.mov (.tm 0), .fr 0, none⟩, [])]) <|
 .seq (.reg [
 ⟨.mov (.fr 0), .tm, none⟩,
 ⟨.mov (.fr 0), .tm, none⟩,
 ⟨.len false (.tm 0), .tm, none⟩,
 ⟨.mov (.fr 4), .tm, none⟩,
 ⟨.slsl 7 (.tm 3) (some (.tm 1)) (some (.tm 0)) none, .tm, none⟩,
 ⟨.clr 7 [(.int .i64 0), (.int .i64 0), (.int .i64 0), (.int .u64 0), (.int .u32 0), (.int .u32 0), (.slice none 0 0)] (.tm 0), .no, none⟩]) <|
 .seq (.reg [
 ⟨.mov (.fr 0), .tm, none⟩,
 ⟨.mov (.tm 0), .fr 3, none⟩]) <|
 .ret, [.t 3]⟩
def f93 : AFunc := ⟨[0, 2, 3, 6, 11],
 .seq (.reg [
 ⟨.mov (.c (.int .i64 0)), .fr 1, none⟩]) <|
 .seq (.block 0 (.seq (.reg [
 ⟨.mov (.fr 0), .tm, none⟩,
 ⟨.eqv 1 false (.tm 0) (.c (.pointer none)), .tm, none⟩,
 ⟨.mov (.tm 0), .fr 2, none⟩]) <|
 .cond (.fr 2)
 (.seq (.reg [
 ⟨.mov (.c (.int .i64 1)), .fr 1, none⟩]) <|
 .ret)
 (.seq (.reg [
 ⟨.mov (.fr 0), .tm, none⟩,
 ⟨.nilck (.tm 0), .tm, none⟩,
 ⟨.faddr 5 (.tm 0), .tm, none⟩,
 ⟨.load1 (.tm 0), .tm, none⟩,
 ⟨.mov (.tm 0), .fr 3, none⟩]) <|
 .cond (.fr 3)
 (.seq (.reg [
 ⟨.mov (.c (.int .i64 190)), .fr 1, none⟩]) <|
 .ret)
 (.seq (.dreg [
 (⟨.mov (.fr 0), .tm, none⟩, []),
 (⟨.nilck (.tm 0), .tm, none⟩, []),
 (⟨.faddr 4 (.tm 0), .tm, none⟩, []),
 (⟨.load1 (.tm 0), .tm, none⟩, []),
 (⟨.mov (.fr 0), .tm, none⟩, []),
 (⟨.nilck (.tm 0), .tm, none⟩, []),
 (⟨.faddr 1 (.tm 0), .tm, none⟩, []),
 (⟨.load1 (.tm 0), .tm, none⟩, []),
 (⟨.bin .lss (.tm 4) (.tm 0), .tm, none⟩, []),
 (⟨.mov (.tm 0), .fr 4, none⟩, [])]) <|
 .cond (.fr 4)
 (.seq (.reg [
 ⟨.mov (.fr 0), .tm, none⟩,
 ⟨.nilck (.tm 0), .tm, none⟩,
 ⟨.faddr 4 (.tm 0), .tm, none⟩,
 ⟨.load1 (.tm 0), .tm, none⟩,
 ⟨.bin .add (.tm 0) (.c (.int .i64 1)), .tm, none⟩,
 ⟨.nilck (.tm 4), .tm, none⟩,
 ⟨.faddr 4 (.tm 0), .tm, none⟩,
 ⟨.store1 (.tm 0) (.tm 2), .no, none⟩]) <|
 .seq (.reg [
 ⟨.mov (.c (.int .i64 0)), .fr 1, none⟩]) <|
 .ret)
 (.skip))))) <|
 .seq (.reg [
 ⟨.mov (.fr 0), .tm, none⟩,
 ⟨.nilck (.tm 0), .tm, none⟩,
 ⟨.faddr 5 (.tm 0), .tm, none⟩,
 ⟨.store1 (.tm 0) (.c (.bool true)), .no, none⟩]) <|
 .seq (.reg [
 ⟨.mov (.c (.int .i64 190)), .fr 1, none⟩]) <|
 .ret, [.t 1]⟩
def f94 : AFunc := ⟨[0, 1, 20],
 .seq (.reg [
 ⟨.mov (.fr 1), .tm, none⟩,
 ⟨.nilck (.tm 0), .tm, none⟩,
 ⟨.faddr 0 (.tm 0), .tm, none⟩,
 ⟨.load1 (.tm 0), .tm, none⟩,
 ⟨.nilck (.tm 0), .tm, none⟩,
 ⟨.faddr 0 (.tm 0), .tm, none⟩,
 ⟨.load1 (.tm 0), .tm, none⟩,
 ⟨.callf 139 [(.tm 0)], .tm, none⟩]) <|
 .seq (.reg [
 ⟨.mov (.fr 1), .tm, none⟩,
 ⟨.callf 55 [(.tm 0)], .tm, none⟩,
 ⟨.mov (.tm 0), .tm, none⟩,
 ⟨.mov (.fr 1), .tm, some ((.tm 0), true)⟩,
 ⟨.nilck (.tm 0), .tm, some ((.tm 1), true)⟩,
 ⟨.faddr 13 (.tm 0), .tm, some ((.tm 2), true)⟩,
 ⟨.load1 (.tm 0), .tm, some ((.tm 3), true)⟩,
 ⟨.un .not (.tm 0), .tm, some ((.tm 4), true)⟩,
 ⟨.pick (.tm 5) (.tm 0) (.c (.bool false)), .fr 2, none⟩]) <|
 .cond (.fr 2)
 (.dreg [
 (⟨.mov (.fr 0), .tm, none⟩, []),
 (⟨.nilck (.tm 0), .tm, none⟩, []),
 (⟨.faddr 6 (.tm 0), .tm, none⟩, []),
 (⟨.load1 (.tm 0), .tm, none⟩, []),
 (⟨.mov (.fr 1), .tm, none⟩, []),
 (⟨.nilck (.tm 0), .tm, none⟩, []),
 (⟨.faddr 1 (.tm 0), .tm, none⟩, []),
 (⟨.load1 (.tm 0), .tm, none⟩, []),
 (⟨.mov (.fr 1), .tm, none⟩, []),
 (⟨.nilck (.tm 0), .tm, none⟩, []),
 (⟨.faddr 0 (.tm 0), .tm, none⟩, []),
 (⟨.load1 (.tm 0), .tm, none⟩, []),
 (⟨.nilck (.tm 0), .tm, none⟩, []),
 (⟨.faddr 1 (.tm 0), .tm, none⟩, []),
 (⟨.load1 (.tm 0), .tm, none⟩, []),
 (⟨.callf 99 [(.tm 0)], .tm, none⟩, [3, 7]),
 (⟨.callf 150 [(.tm 12), (.tm 8), (.tm 0)], .tm, none⟩, [])])
 (.skip), []⟩
def f95 : AFunc := ⟨[0, 1, 4, 5, 7],
 .seq (.reg [
 ⟨.mov (.c (.int .u8 0)), .fr 2, none⟩]) <|
 .seq (.seq (.reg [
 ⟨.mov (.fr 0), .tm, none⟩,
 ⟨.eqv 1 false (.tm 0) (.c (.pointer none)), .fr 4, none⟩]) <|
 .cond (.fr 4)
 (.seq (.reg [
 ⟨.mov (.c (.int .u8 0)), .fr 2, none⟩]) <|
 .ret)
 (.skip)) <|
 .seq (.reg [
 ⟨.mkmap, .tm, none⟩,
 ⟨.mov (.fr 0), .tm, none⟩,
 ⟨.mkfn (.func 151) [(.tm 0)] [], .tm, none⟩,
 ⟨.mset (.int .u8) (.tm 2) (.c (.int .u8 0)) (.tm 0), .no, none⟩,
 ⟨.mov (.fr 0), .tm, none⟩,
 ⟨.mkfn (.func 152) [(.tm 0)] [], .tm, none⟩,
 ⟨.mset (.int .u8) (.tm 4) (.c (.int .u8 1)) (.tm 0), .no, none⟩,
 ⟨.mov (.tm 4), .tm, none⟩,
 ⟨.mov (.fr 0), .tm, none⟩,
 ⟨.nilck (.tm 0), .tm, none⟩,
 ⟨.faddr 3 (.tm 0), .tm, none⟩,
 ⟨.load1 (.tm 0), .tm, none⟩,
 ⟨.mget (.int .u8) .nilFunc false (.tm 4) (.tm 0), .tm, none⟩,
 ⟨.mov (.tm 0), .fr 3, none⟩]) <|
 .seq (.reg [
 ⟨.mov (.fr 3), .tm, none⟩,
 ⟨.mov (.fr 1), .tm, none⟩,
 ⟨.callf 153 [(.tm 0)], .tm, none⟩,
 ⟨.callv (.tm 2) [(.tm 0)], .tm, none⟩,
 ⟨.mov (.tm 0), .fr 2, none⟩]) <|
 .ret, [.t 2]⟩
def f100 : AFunc := ⟨[0, 1, 2, 3, 8, 9, 26],
 .seq (.dreg [
 (⟨.mov (.fr 1), .tm, none⟩, []),
 (⟨.nilck (.tm 0), .tm, none⟩, []),
 (⟨.faddr 0 (.tm 0), .tm, none⟩, []),
 (⟨.load1 (.tm 0), .tm, none⟩, []),
 (⟨.nilck (.tm 0), .tm, none⟩, []),
 (⟨.faddr 3 (.tm 0), .tm, none⟩, []),
 (⟨.load1 (.tm 0), .tm, none⟩, []),
 (⟨.mov (.fr 2), .tm, none⟩, []),
 (⟨.bslice 5 1 1 [(.int .u8 0)] [(0, 1, (.tm 0))], .tm, none⟩, []),
 (⟨.mov (.fr 3), .tm, none⟩, []),
 (⟨.app 5 1 1 (.tm 1) (.tm 0), .tm, none⟩, [3, 6]),
 (⟨.callf 155 [(.tm 4), (.tm 0)], .tm, none⟩, []),
 (⟨.mov (.tm 0), .tm, none⟩, []),
 (⟨.extract (.tm 0) 0, .tm, none⟩, []),
 (⟨.extract (.tm 1) 1, .tm, none⟩, []),
 (⟨.mov (.tm 1), .fr 4, none⟩, []),
 (⟨.mov (.tm 0), .fr 5, none⟩, [])]) <|
 .seq (.reg [
 ⟨.mov (.fr 5), .tm, none⟩,
 ⟨.bin .eql (.tm 0) (.c (.int .i64 0)), .fr 6, none⟩]) <|
 .cond (.fr 6)
 (.dreg [
 (⟨.mov (.fr 0), .tm, none⟩, []),
 (⟨.mov (.fr 1), .tm, none⟩, []),
 (⟨.nilck (.tm 0), .tm, none⟩, []),
 (⟨.faddr 1 (.tm 0), .tm, none⟩, []),
 (⟨.load1 (.tm 0), .tm, none⟩, []),
 (⟨.bin .sub (.c (.int .i64 1)) (.tm 0), .tm, none⟩, []),
 (⟨.nilck (.tm 5), .tm, none⟩, []),
 (⟨.faddr 4 (.tm 0), .tm, none⟩, []),
 (⟨.iaddrp 1 2 (.tm 0) (.tm 2), .tm, none⟩, []),
 (⟨.load1 (.tm 0), .tm, none⟩, []),
 (⟨.nilck (.tm 0), .tm, none⟩, []),
 (⟨.faddr 3 (.tm 0), .tm, none⟩, []),
 (⟨.mov (.fr 4), .tm, none⟩, []),
 (⟨.callf 123 [(.tm 1), (.tm 0)], .tm, none⟩, [])])
 (.skip), []⟩
def f104 : AFunc := ⟨[0, 1, 2, 5, 15],
 .seq (.reg [
 ⟨.box 45 68 (.fr 2), .fr 3, none⟩]) <|
 .seq (.reg [
 ⟨.mov (.fr 0), .tm, none⟩,
 ⟨.eqv 1 true (.tm 0) (.c (.pointer none)), .tm, none⟩,
 ⟨.mov (.tm 0), .tm, none⟩,
 ⟨.mov (.fr 1), .tm, some ((.tm 0), true)⟩,
 ⟨.bin .eql (.tm 0) (.c (.int .i64 0)), .tm, some ((.tm 1), true)⟩,
 ⟨.mov (.tm 0), .tm, some ((.tm 2), true)⟩,
 ⟨.mov (.fr 1), .tm, some ((.tm 0), false)⟩,
 ⟨.bin .eql (.tm 0) (.c (.int .i64 1)), .tm, some ((.tm 1), false)⟩,
 ⟨.pick (.tm 2) (.c (.bool true)) (.tm 0), .tm, some ((.tm 5), true)⟩,
 ⟨.pick (.tm 6) (.tm 0) (.c (.bool false)), .fr 4, none⟩]) <|
 .cond (.fr 4)
 (.dreg [
 (⟨.mov (.fr 0), .tm, none⟩, []),
 (⟨.mov (.fr 1), .tm, none⟩, []),
 (⟨.nilck (.tm 1), .tm, none⟩, []),
 (⟨.faddr 4 (.tm 0), .tm, none⟩, []),
 (⟨.iaddrp 1 2 (.tm 0) (.tm 2), .tm, none⟩, []),
 (⟨.load1 (.tm 0), .tm, none⟩, []),
 (⟨.loadn 68 (.fr 3), .tm, none⟩, []),
 (⟨.callf 158 [(.tm 1), (.tm 0)], .tm, none⟩, [])])
 (.skip), []⟩
def f109 : AFunc := ⟨[0, 1, 2, 3, 4, 7, 13],
 .seq (.reg [
 ⟨.box 33 4 (.fr 0), .fr 1, none⟩,
 ⟨.mov (.c (.int .i64 0)), .fr 2, none⟩,
 ⟨.mov (.c (.int .i64 0)), .fr 3, none⟩]) <|
 .seq (.seq (.reg [
 ⟨.loadn 4 (.fr 1), .tm, none⟩,
 ⟨.callf 159 [(.tm 0)], .tm, none⟩,
 ⟨.un .not (.tm 0), .fr 5, none⟩]) <|
 .cond (.fr 5)
 (.seq (.reg [
 ⟨.mov (.c (.int .i64 2)), .fr 2, none⟩,
 ⟨.mov (.c (.int .i64 0)), .fr 3, none⟩]) <|
 .ret)
 (.skip)) <|
 .seq (.seq (.reg [
 ⟨.faddr 3 (.fr 1), .tm, none⟩,
 ⟨.load1 (.tm 0), .tm, none⟩,
 ⟨.mkfn (.func 161) [] [(.fr 1)], .tm, none⟩,
 ⟨.callf 160 [(.tm 1), (.tm 0)], .tm, none⟩,
 ⟨.mov (.tm 0), .fr 4, none⟩]) <|
 .seq (.reg [
 ⟨.mov (.fr 4), .tm, none⟩,
 ⟨.bin .geq (.tm 0) (.c (.int .i64 0)), .fr 6, none⟩]) <|
 .cond (.fr 6)
 (.seq (.reg [
 ⟨.mov (.fr 4), .tm, none⟩,
 ⟨.mov (.c (.int .i64 50)), .fr 2, none⟩,
 ⟨.mov (.tm 0), .fr 3, none⟩]) <|
 .ret)
 (.skip)) <|
 .seq (.reg [
 ⟨.mov (.c (.int .i64 0)), .fr 2, none⟩,
 ⟨.mov (.c (.int .i64 0)), .fr 3, none⟩]) <|
 .ret, [.t 2, .t 3]⟩
def f114 : AFunc := ⟨[0, 2, 3, 4, 5, 6, 13],
 .seq (.reg [
 ⟨.mov (.c (.slice none 0 0)), .fr 1, none⟩,
 ⟨.mov (.c (.int .i64 0)), .fr 2, none⟩,
 ⟨.mov (.c (.bool false)), .fr 3, none⟩]) <|
 .seq (.reg [
 ⟨.mov (.fr 0), .tm, none⟩,
 ⟨.callf 167 [(.tm 0), (.c (.int .i64 0))], .tm, none⟩,
 ⟨.mov (.tm 0), .tm, none⟩,
 ⟨.extract (.tm 0) 0, .tm, none⟩,
 ⟨.extract (.tm 1) 1, .tm, none⟩,
 ⟨.mov (.tm 1), .fr 4, none⟩,
 ⟨.mov (.tm 0), .fr 5, none⟩]) <|
 .seq (.seq (.reg [
 ⟨.mov (.fr 5), .tm, none⟩,
 ⟨.un .not (.tm 0), .fr 6, none⟩]) <|
 .cond (.fr 6)
 (.seq (.reg [
 ⟨.mov (.c (.slice none 0 0)), .fr 1, none⟩,
 ⟨.mov (.c (.int .i64 0)), .fr 2, none⟩,
 ⟨.mov (.c (.bool false)), .fr 3, none⟩]) <|
 .ret)
 (.skip)) <|
 .seq (.reg [
 ⟨.mov (.fr 4), .tm, none⟩,
 ⟨.mov (.fr 0), .tm, none⟩,
 ⟨.nilck (.tm 0), .tm, none⟩,
 ⟨.faddr 0 (.tm 0), .tm, none⟩,
 ⟨.load1 (.tm 0), .tm, none⟩,
 ⟨.callf 168 [(.tm 0)], .tm, none⟩,
 ⟨.bin .sub (.tm 0) (.c (.int .i64 1)), .tm, none⟩,
 ⟨.mov (.tm 6), .fr 1, none⟩,
 ⟨.mov (.tm 0), .fr 2, none⟩,
 ⟨.mov (.c (.bool true)), .fr 3, none⟩]) <|
 .ret, [.t 1, .t 2, .t 3]⟩
def f118 : AFunc := ⟨[0, 1, 3, 4, 5, 6, 7, 8, 9, 11],
 .seq (.reg [
 ⟨.box 33 4 (.fr 1), .fr 2, none⟩,
 ⟨.mov (.c .nilIface), .fr 3, none⟩,
 ⟨.mov (.c (.int .i64 0)), .fr 4, none⟩]) <|
 .seq (.seq (.reg [
 ⟨.mov (.fr 0), .tm, none⟩,
 ⟨.bin .eql (.tm 0) (.c (.int .i64 0)), .fr 9, none⟩]) <|
 .cond (.fr 9)
 (.seq (.reg [
 ⟨.loadn 4 (.fr 2), .tm, none⟩,
 ⟨.callf 61 [(.tm 0)], .tm, none⟩,
 ⟨.mov (.tm 0), .tm, none⟩,
 ⟨.extract (.tm 0) 0, .tm, none⟩,
 ⟨.extract (.tm 1) 1, .tm, none⟩,
 ⟨.mov (.tm 1), .fr 5, none⟩,
 ⟨.mov (.tm 0), .fr 6, none⟩]) <|
 .seq (.reg [
 ⟨.mov (.fr 5), .tm, none⟩,
 ⟨.iface 124 (.tm 0), .tm, none⟩,
 ⟨.mov (.fr 6), .tm, none⟩,
 ⟨.mov (.tm 1), .fr 3, none⟩,
 ⟨.mov (.tm 0), .fr 4, none⟩]) <|
 .ret)
 (.skip)) <|
 .seq (.reg [
 ⟨.loadn 4 (.fr 2), .tm, none⟩,
 ⟨.callf 180 [(.tm 0)], .tm, none⟩,
 ⟨.mov (.tm 0), .tm, none⟩,
 ⟨.extract (.tm 0) 0, .tm, none⟩,
 ⟨.extract (.tm 1) 1, .tm, none⟩,
 ⟨.mov (.tm 1), .fr 7, none⟩,
 ⟨.mov (.tm 0), .fr 8, none⟩]) <|
 .seq (.reg [
 ⟨.mov (.fr 7), .tm, none⟩,
 ⟨.iface 318 (.tm 0), .tm, none⟩,
 ⟨.mov (.fr 8), .tm, none⟩,
 ⟨.mov (.tm 1), .fr 3, none⟩,
 ⟨.mov (.tm 0), .fr 4, none⟩]) <|
 .ret, [.t 3, .t 4]⟩
def f123 : AFunc := ⟨[0, 1, 4, 5, 8],
 .seq (.reg [
 ⟨.mov (.c (.int .i64 0)), .fr 2, none⟩]) <|
 .seq (.block 0 (.seq (.reg [
 ⟨.mov (.fr 0), .tm, none⟩,
 ⟨.eqv 1 false (.tm 0) (.c (.pointer none)), .tm, none⟩,
 ⟨.mov (.tm 0), .fr 3, none⟩]) <|
 .cond (.fr 3)
 (.seq (.reg [
 ⟨.mov (.c (.int .i64 1)), .fr 2, none⟩]) <|
 .ret)
 (.seq (.reg [
 ⟨.mov (.fr 0), .tm, none⟩,
 ⟨.nilck (.tm 0), .tm, none⟩,
 ⟨.faddr 0 (.tm 0), .tm, none⟩,
 ⟨.load1 (.tm 0), .tm, none⟩,
 ⟨.len false (.tm 0), .tm, none⟩,
 ⟨.bin .geq (.tm 0) (.c (.int .i64 64)), .tm, none⟩,
 ⟨.mov (.tm 0), .fr 4, none⟩]) <|
 .cond (.fr 4)
 (.seq (.reg [
 ⟨.mov (.c (.int .i64 3)), .fr 2, none⟩]) <|
 .ret)
 (.skip)))) <|
 .seq (.dreg [
 (⟨.mov (.fr 0), .tm, none⟩, []),
 (⟨.mov (.fr 0), .tm, none⟩, []),
 (⟨.nilck (.tm 0), .tm, none⟩, []),
 (⟨.faddr 0 (.tm 0), .tm, none⟩, []),
 (⟨.load1 (.tm 0), .tm, none⟩, []),
 (⟨.mov (.fr 1), .tm, none⟩, []),
 (⟨.callf 156 [(.tm 0)], .tm, none⟩, [4]),
 (⟨.bslice 42 1 1 [(.slice none 0 0)] [(0, 1, (.tm 0))], .tm, none⟩, []),
 (⟨.app 42 1 24 (.tm 3) (.tm 0), .tm, none⟩, []),
 (⟨.nilck (.tm 8), .tm, none⟩, []),
 (⟨.faddr 0 (.tm 0), .tm, none⟩, []),
 (⟨.store1 (.tm 0) (.tm 2), .no, none⟩, [])]) <|
 .seq (.reg [
 ⟨.mov (.c (.int .i64 0)), .fr 2, none⟩]) <|
 .ret, [.t 2]⟩
def f131 : AFunc := ⟨[0, 1, 2, 3, 4],
 .seq (.reg [
 ⟨.box 53 70 (.fr 0), .fr 2, none⟩,
 ⟨.box 53 70 (.fr 1), .fr 3, none⟩,
 ⟨.mov (.c (.bool false)), .fr 4, none⟩]) <|
 .seq (.reg [
 ⟨.faddr 0 (.fr 2), .tm, none⟩,
 ⟨.load1 (.tm 0), .tm, none⟩,
 ⟨.faddr 0 (.fr 3), .tm, none⟩,
 ⟨.load1 (.tm 0), .tm, none⟩,
 ⟨.bin .gtr (.tm 2) (.tm 0), .tm, none⟩,
 ⟨.mov (.tm 0), .tm, none⟩,
 ⟨.faddr 0 (.fr 2), .tm, some ((.tm 0), false)⟩,
 ⟨.load1 (.tm 0), .tm, some ((.tm 1), false)⟩,
 ⟨.faddr 0 (.fr 3), .tm, some ((.tm 2), false)⟩,
 ⟨.load1 (.tm 0), .tm, some ((.tm 3), false)⟩,
 ⟨.bin .eql (.tm 2) (.tm 0), .tm, some ((.tm 4), false)⟩,
 ⟨.mov (.tm 0), .tm, some ((.tm 5), false)⟩,
 ⟨.faddr 1 (.fr 2), .tm, some ((.tm 0), true)⟩,
 ⟨.load1 (.tm 0), .tm, some ((.tm 1), true)⟩,
 ⟨.faddr 1 (.fr 3), .tm, some ((.tm 2), true)⟩,
 ⟨.load1 (.tm 0), .tm, some ((.tm 3), true)⟩,
 ⟨.bin .gtr (.tm 2) (.tm 0), .tm, some ((.tm 4), true)⟩,
 ⟨.pick (.tm 5) (.tm 0) (.c (.bool false)), .tm, some ((.tm 11), false)⟩,
 ⟨.pick (.tm 12) (.c (.bool true)) (.tm 0), .tm, none⟩,
 ⟨.mov (.tm 0), .fr 4, none⟩]) <|
 .ret, [.t 4]⟩
def f132 : AFunc := ⟨[0, 1, 2, 3, 5, 8, 9, 12, 19],
 .seq (.reg [
 ⟨.box 45 68 (.fr 1), .fr 4, none⟩,
 ⟨.mov (.c (.int .i64 0)), .fr 5, none⟩]) <|
 .seq (.block 0 (.seq (.reg [
 ⟨.mov (.fr 0), .tm, none⟩,
 ⟨.eqv 1 false (.tm 0) (.c (.pointer none)), .tm, none⟩,
 ⟨.mov (.tm 0), .fr 6, none⟩]) <|
 .cond (.fr 6)
 (.seq (.reg [
 ⟨.mov (.c (.int .i64 1)), .fr 5, none⟩]) <|
 .ret)
 (.seq (.reg [
 ⟨.mov (.fr 0), .tm, none⟩,
 ⟨.nilck (.tm 0), .tm, none⟩,
 ⟨.faddr 6 (.tm 0), .tm, none⟩,
 ⟨.load1 (.tm 0), .tm, none⟩,
 ⟨.callf 108 [(.tm 0)], .tm, none⟩,
 ⟨.un .not (.tm 0), .tm, none⟩,
 ⟨.mov (.tm 0), .fr 7, none⟩]) <|
 .cond (.fr 7)
 (.seq (.reg [
 ⟨.mov (.c (.int .i64 4)), .fr 5, none⟩]) <|
 .ret)
 (.seq (.dreg [
 (⟨.mov (.fr 0), .tm, none⟩, []),
 (⟨.nilck (.tm 0), .tm, none⟩, []),
 (⟨.faddr 8 (.tm 0), .tm, none⟩, []),
 (⟨.load1 (.tm 0), .tm, none⟩, []),
 (⟨.loadn 68 (.fr 4), .tm, none⟩, []),
 (⟨.callf 117 [(.tm 1), (.tm 0)], .tm, none⟩, []),
 (⟨.un .not (.tm 0), .tm, none⟩, []),
 (⟨.mov (.tm 0), .fr 8, none⟩, [])]) <|
 .cond (.fr 8)
 (.seq (.reg [
 ⟨.mov (.c (.int .i64 151)), .fr 5, none⟩]) <|
 .ret)
 (.skip))))) <|
 .seq (.dreg [
 (⟨.mov (.fr 0), .tm, none⟩, []),
 (⟨.nilck (.tm 0), .tm, none⟩, []),
 (⟨.faddr 7 (.tm 0), .tm, none⟩, []),
 (⟨.load1 (.tm 0), .tm, none⟩, []),
 (⟨.loadn 68 (.fr 4), .tm, none⟩, []),
 (⟨.mov (.fr 2), .tm, none⟩, []),
 (⟨.mov (.fr 3), .tm, none⟩, []),
 (⟨.callf 196 [(.tm 3), (.tm 2), (.tm 1), (.tm 0)], .tm, none⟩, []),
 (⟨.mov (.tm 0), .fr 5, none⟩, [])]) <|
 .ret, [.t 5]⟩
def f145 : AFunc := ⟨[0, 1, 4],
 .seq (.reg [
 ⟨.mov (.c (.bool false)), .fr 2, none⟩]) <|
 .seq (.dreg [
 (⟨.mov (.fr 0), .tm, none⟩, []),
 (⟨.eqv 1 true (.tm 0) (.c (.pointer none)), .tm, none⟩, []),
 (⟨.mov (.tm 0), .tm, none⟩, []),
 (⟨.mov (.fr 0), .tm, some ((.tm 0), true)⟩, []),
 (⟨.nilck (.tm 0), .tm, some ((.tm 1), true)⟩, []),
 (⟨.faddr 3 (.tm 0), .tm, some ((.tm 2), true)⟩, []),
 (⟨.load1 (.tm 0), .tm, some ((.tm 3), true)⟩, []),
 (⟨.bin .eql (.tm 0) (.c (.int .u8 1)), .tm, some ((.tm 4), true)⟩, []),
 (⟨.pick (.tm 5) (.tm 0) (.c (.bool false)), .tm, none⟩, []),
 (⟨.mov (.tm 0), .tm, none⟩, []),
 (⟨.mov (.fr 0), .tm, some ((.tm 0), true)⟩, []),
 (⟨.nilck (.tm 0), .tm, some ((.tm 1), true)⟩, []),
 (⟨.faddr 0 (.tm 0), .tm, some ((.tm 2), true)⟩, []),
 (⟨.loadn 3 (.tm 0), .tm, some ((.tm 3), true)⟩, []),
 (⟨.mov (.fr 1), .tm, some ((.tm 4), true)⟩, []),
 (⟨.callf 153 [(.tm 0)], .tm, some ((.tm 5), true)⟩, [13]),
 (⟨.callf 218 [(.tm 2), (.tm 0)], .tm, some ((.tm 6), true)⟩, []),
 (⟨.pick (.tm 7) (.tm 0) (.c (.bool false)), .tm, none⟩, []),
 (⟨.mov (.tm 0), .fr 2, none⟩, [])]) <|
 .ret, [.t 2]⟩
def f149 : AFunc := ⟨[0, 1, 4, 5, 6, 8, 24],
 .seq (.reg [
 ⟨.mov (.c (.int .i64 0)), .fr 2, none⟩]) <|
 .seq (.seq (.reg [
 ⟨.mov (.fr 0), .tm, none⟩,
 ⟨.eqv 1 false (.tm 0) (.c (.pointer none)), .fr 5, none⟩]) <|
 .cond (.fr 5)
 (.seq (.reg [
 ⟨.mov (.c (.int .i64 1)), .fr 2, none⟩]) <|
 .ret)
 (.skip)) <|
 .seq (.seq (.reg [
 ⟨.mov (.fr 1), .tm, none⟩,
 ⟨.assert 176 (.agg #[(.int .i64 0), (.int .i64 0), (.int .u64 0), (.int .u32 0), (.int .u32 0), (.slice none 0 0)]) true (.tm 0), .tm, none⟩,
 ⟨.mov (.tm 0), .tm, none⟩,
 ⟨.extract (.tm 0) 0, .tm, none⟩,
 ⟨.extract (.tm 1) 1, .tm, none⟩,
 ⟨.new 176 6 [(.int .i64 0), (.int .i64 0), (.int .u64 0), (.int .u32 0), (.int .u32 0), (.slice none 0 0)], .fr 3, none⟩,
 ⟨.storen 6 (.fr 3) (.tm 1), .no, none⟩,
 ⟨.mov (.tm 0), .fr 4, none⟩]) <|
 .seq (.dreg [
 (⟨.mov (.fr 4), .tm, none⟩, []),
 (⟨.mov (.tm 0), .tm, none⟩, []),
 (⟨.mov (.fr 0), .tm, some ((.tm 0), true)⟩, []),
 (⟨.nilck (.tm 0), .tm, some ((.tm 1), true)⟩, []),
 (⟨.faddr 1 (.tm 0), .tm, some ((.tm 2), true)⟩, []),
 (⟨.loadn 4 (.tm 0), .tm, some ((.tm 3), true)⟩, []),
 (⟨.faddr 2 (.fr 3), .tm, some ((.tm 4), true)⟩, []),
 (⟨.loadn 4 (.tm 0), .tm, some ((.tm 5), true)⟩, []),
 (⟨.callf 206 [(.tm 2), (.tm 0)], .tm, some ((.tm 6), true)⟩, []),
 (⟨.un .not (.tm 0), .tm, some ((.tm 7), true)⟩, []),
 (⟨.pick (.tm 8) (.tm 0) (.c (.bool false)), .fr 6, none⟩, [])]) <|
 .cond (.fr 6)
 (.seq (.reg [
 ⟨.mov (.c (.int .i64 2)), .fr 2, none⟩]) <|
 .ret)
 (.skip)) <|
 .seq (.reg [
 ⟨.mov (.fr 0), .tm, none⟩,
 ⟨.nilck (.tm 0), .tm, none⟩,
 ⟨.faddr 76 (.tm 0), .tm, none⟩,
 ⟨.load1 (.tm 0), .tm, none⟩,
 ⟨.mov (.fr 1), .tm, none⟩,
 ⟨.callf 220 [(.tm 1), (.tm 0)], .tm, none⟩,
 ⟨.mov (.tm 0), .fr 2, none⟩]) <|
 .ret, [.t 2]⟩
def f152 : AFunc := ⟨[0, 1, 4, 5, 15],
 .seq (.reg [
 ⟨.mov (.c (.int .u8 0)), .fr 2, none⟩]) <|
 .seq (.block 0 (.seq (.reg [
 ⟨.mov (.fr 0), .tm, none⟩,
 ⟨.nilck (.tm 0), .tm, none⟩,
 ⟨.faddr 0 (.tm 0), .tm, none⟩,
 ⟨.loadn 3 (.tm 0), .tm, none⟩,
 ⟨.mov (.fr 1), .tm, none⟩,
 ⟨.callf 218 [(.tm 1), (.tm 0)], .tm, none⟩,
 ⟨.un .not (.tm 0), .tm, none⟩,
 ⟨.mov (.tm 0), .fr 3, none⟩]) <|
 .cond (.fr 3)
 (.seq (.reg [
 ⟨.mov (.fr 0), .tm, none⟩,
 ⟨.callf 191 [(.tm 0)], .tm, none⟩,
 ⟨.mov (.tm 0), .fr 2, none⟩]) <|
 .ret)
 (.seq (.reg [
 ⟨.mov (.fr 0), .tm, none⟩,
 ⟨.nilck (.tm 0), .tm, none⟩,
 ⟨.faddr 0 (.tm 0), .tm, none⟩,
 ⟨.faddr 1 (.tm 0), .tm, none⟩,
 ⟨.faddr 1 (.tm 0), .tm, none⟩,
 ⟨.load1 (.tm 0), .tm, none⟩,
 ⟨.mov (.fr 1), .tm, none⟩,
 ⟨.bin .sub (.tm 1) (.tm 0), .tm, none⟩,
 ⟨.bin .leq (.tm 0) (.c (.int .i64 4)), .tm, none⟩,
 ⟨.mov (.tm 0), .fr 4, none⟩]) <|
 .cond (.fr 4)
 (.seq (.reg [
 ⟨.mov (.c (.int .u8 2)), .fr 2, none⟩]) <|
 .ret)
 (.skip)))) <|
 .seq (.reg [
 ⟨.mov (.c (.int .u8 0)), .fr 2, none⟩]) <|
 .ret, [.t 2]⟩
def f160 : AFunc := ⟨[0, 1, 4, 5, 7, 8, 9, 16],
 .seq (.reg [
 ⟨.mov (.c (.int .i64 0)), .fr 2, none⟩]) <|
 .seq (.seq (.reg [
 ⟨.mov (.fr 0), .tm, none⟩,
 ⟨.len false (.tm 0), .fr 4, none⟩,
 ⟨.mov (.c (.int .i64 0)), .fr 5, none⟩]) <|
 .block 0 (.loop (.seq (.reg [
 ⟨.bin .lss (.fr 5) (.fr 4), .fr 6, none⟩]) <|
 .seq (.cond (.fr 6)
 (.skip)
 (.exit 0)) <|
 .seq (.block 1 (.seq (.reg [
 ⟨.mov (.fr 5), .tm, none⟩,
 ⟨.mov (.tm 0), .fr 3, none⟩]) <|
 .seq (.reg [
 ⟨.mov (.fr 1), .tm, none⟩,
 ⟨.mov (.fr 0), .tm, none⟩,
 ⟨.mov (.fr 3), .tm, none⟩,
 ⟨.iaddr 6 (.tm 1) (.tm 0), .tm, none⟩,
 ⟨.loadn 6 (.tm 0), .tm, none⟩,
 ⟨.callv (.tm 4) [(.tm 0)], .fr 7, none⟩]) <|
 .cond (.fr 7)
 (.seq (.reg [
 ⟨.mov (.fr 3), .tm, none⟩,
 ⟨.mov (.tm 0), .fr 2, none⟩]) <|
 .ret)
 (.skip))) <|
 .reg [
 ⟨.bin .add (.fr 5) (.c (.int .i64 1)), .tm, none⟩,
 ⟨.mov (.tm 0), .fr 5, none⟩]))) <|
 .seq (.reg [
 ⟨.mov (.c (.int .i64 (-1))), .fr 2, none⟩]) <|
 .ret, [.t 2]⟩
def f180 : AFunc := ⟨[0, 1, 2, 3, 4, 5, 12],
 .seq (.reg [
 ⟨.box 33 4 (.fr 0), .fr 1, none⟩,
 ⟨.mov (.c (.pointer none)), .fr 2, none⟩,
 ⟨.mov (.c (.int .i64 0)), .fr 3, none⟩]) <|
 .seq (.reg [
 ⟨.loadn 4 (.fr 1), .tm, none⟩,
 ⟨.callf 254 [(.tm 0)], .tm, none⟩,
 ⟨.mov (.tm 0), .tm, none⟩,
 ⟨.extract (.tm 0) 0, .tm, none⟩,
 ⟨.extract (.tm 1) 1, .tm, none⟩,
 ⟨.new 411 5 [(.slice none 0 0), (.slice none 0 0), (.int .u64 0), (.int .u32 0), (.int .u64 0)], .fr 4, none⟩,
 ⟨.storen 5 (.fr 4) (.tm 1), .no, none⟩,
 ⟨.mov (.tm 0), .fr 5, none⟩]) <|
 .seq (.seq (.reg [
 ⟨.mov (.fr 5), .tm, none⟩,
 ⟨.bin .neq (.tm 0) (.c (.int .i64 0)), .fr 6, none⟩]) <|
 .cond (.fr 6)
 (.seq (.reg [
 ⟨.mov (.fr 5), .tm, none⟩,
 ⟨.mov (.c (.pointer none)), .fr 2, none⟩,
 ⟨.mov (.tm 0), .fr 3, none⟩]) <|
 .ret)
 (.skip)) <|
 .seq (.reg [
 ⟨.loadn 5 (.fr 4), .tm, none⟩,
 ⟨.build [(.slice none 0 0), (.slice none 0 0), (.int .u64 0), (.int .u32 0), (.int .u64 0)] [(0, 5, (.tm 0))], .tm, none⟩,
 ⟨.box 415 5 (.tm 0), .tm, none⟩,
 ⟨.mov (.tm 0), .fr 2, none⟩,
 ⟨.mov (.c (.int .i64 0)), .fr 3, none⟩]) <|
 .ret, [.t 2, .t 3]⟩
def f181 : AFunc := ⟨[0, 2, 3, 4, 7, 15],
 .seq (.reg [
 ⟨.mov (.c (.int .i64 0)), .fr 1, none⟩]) <|
 .seq (.seq (.reg [
 ⟨.mov (.fr 0), .tm, none⟩,
 ⟨.len false (.tm 0), .tm, none⟩,
 ⟨.bin .lss (.tm 0) (.c (.int .i64 1)), .fr 4, none⟩]) <|
 .cond (.fr 4)
 (.reg [
 ⟨.iface 9 (.c (.string ⟨#[115, 108, 105, 99, 101, 115, 46, 77, 105, 110, 58, 32, 101, 109, 112, 116, 121, 32, 108, 105, 115, 116]⟩)), .tm, none⟩,
 ⟨.bad, .no, none⟩])
 (.skip)) <|
 .seq (.reg [
 ⟨.mov (.fr 0), .tm, none⟩,
 ⟨.iaddr 1 (.tm 0) (.c (.int .i64 0)), .tm, none⟩,
 ⟨.load1 (.tm 0), .tm, none⟩,
 ⟨.mov (.tm 0), .fr 2, none⟩]) <|
 .seq (.seq (.reg [
 ⟨.mov (.c (.int .i64 1)), .fr 3, none⟩]) <|
 .block 0 (.loop (.seq (.seq (.reg [
 ⟨.mov (.fr 3), .tm, none⟩,
 ⟨.mov (.fr 0), .tm, none⟩,
 ⟨.len false (.tm 0), .tm, none⟩,
 ⟨.bin .lss (.tm 2) (.tm 0), .fr 5, none⟩]) <|
 .cond (.fr 5)
 (.skip)
 (.exit 0)) <|
 .seq (.block 1 (.reg [
 ⟨.mov (.fr 2), .tm, none⟩,
 ⟨.mov (.fr 0), .tm, none⟩,
 ⟨.mov (.fr 3), .tm, none⟩,
 ⟨.iaddr 1 (.tm 1) (.tm 0), .tm, none⟩,
 ⟨.load1 (.tm 0), .tm, none⟩,
 ⟨.mm false (.tm 4) (.tm 0), .tm, none⟩,
 ⟨.mov (.tm 0), .fr 2, none⟩])) <|
 .reg [
 ⟨.mov (.fr 3), .tm, none⟩,
 ⟨.bin .add (.tm 0) (.c (.int .i64 1)), .tm, none⟩,
 ⟨.mov (.tm 0), .fr 3, none⟩]))) <|
 .seq (.reg [
 ⟨.mov (.fr 2), .tm, none⟩,
 ⟨.mov (.tm 0), .fr 1, none⟩]) <|
 .ret, [.t 1]⟩
def f182 : AFunc := ⟨[0, 2, 3, 4, 7, 15],
 .seq (.reg [
 ⟨.mov (.c (.int .i64 0)), .fr 1, none⟩]) <|
 .seq (.seq (.reg [
 ⟨.mov (.fr 0), .tm, none⟩,
 ⟨.len false (.tm 0), .tm, none⟩,
 ⟨.bin .lss (.tm 0) (.c (.int .i64 1)), .fr 4, none⟩]) <|
 .cond (.fr 4)
 (.reg [
 ⟨.iface 9 (.c (.string ⟨#[115, 108, 105, 99, 101, 115, 46, 77, 97, 120, 58, 32, 101, 109, 112, 116, 121, 32, 108, 105, 115, 116]⟩)), .tm, none⟩,
 ⟨.bad, .no, none⟩])
 (.skip)) <|
 .seq (.reg [
 ⟨.mov (.fr 0), .tm, none⟩,
 ⟨.iaddr 1 (.tm 0) (.c (.int .i64 0)), .tm, none⟩,
 ⟨.load1 (.tm 0), .tm, none⟩,
 ⟨.mov (.tm 0), .fr 2, none⟩]) <|
 .seq (.seq (.reg [
 ⟨.mov (.c (.int .i64 1)), .fr 3, none⟩]) <|
 .block 0 (.loop (.seq (.seq (.reg [
 ⟨.mov (.fr 3), .tm, none⟩,
 ⟨.mov (.fr 0), .tm, none⟩,
 ⟨.len false (.tm 0), .tm, none⟩,
 ⟨.bin .lss (.tm 2) (.tm 0), .fr 5, none⟩]) <|
 .cond (.fr 5)
 (.skip)
 (.exit 0)) <|
 .seq (.block 1 (.reg [
 ⟨.mov (.fr 2), .tm, none⟩,
 ⟨.mov (.fr 0), .tm, none⟩,
 ⟨.mov (.fr 3), .tm, none⟩,
 ⟨.iaddr 1 (.tm 1) (.tm 0), .tm, none⟩,
 ⟨.load1 (.tm 0), .tm, none⟩,
 ⟨.mm true (.tm 4) (.tm 0), .tm, none⟩,
 ⟨.mov (.tm 0), .fr 2, none⟩])) <|
 .reg [
 ⟨.mov (.fr 3), .tm, none⟩,
 ⟨.bin .add (.tm 0) (.c (.int .i64 1)), .tm, none⟩,
 ⟨.mov (.tm 0), .fr 3, none⟩]))) <|
 .seq (.reg [
 ⟨.mov (.fr 2), .tm, none⟩,
 ⟨.mov (.tm 0), .fr 1, none⟩]) <|
 .ret, [.t 1]⟩
def f192 : AFunc := ⟨[0, 1, 2],
 .seq (.reg [
 ⟨.box 255 78 (.fr 0), .fr 1, none⟩,
 ⟨.mov (.c (.bool false)), .fr 2, none⟩]) <|
 .seq (.reg [
 ⟨.faddr 0 (.fr 1), .tm, none⟩,
 ⟨.load1 (.tm 0), .tm, none⟩,
 ⟨.bin .geq (.tm 0) (.c (.int .u8 1)), .tm, none⟩,
 ⟨.mov (.tm 0), .tm, none⟩,
 ⟨.faddr 0 (.fr 1), .tm, some ((.tm 0), true)⟩,
 ⟨.load1 (.tm 0), .tm, some ((.tm 1), true)⟩,
 ⟨.bin .leq (.tm 0) (.c (.int .u8 4)), .tm, some ((.tm 2), true)⟩,
 ⟨.pick (.tm 3) (.tm 0) (.c (.bool false)), .tm, none⟩,
 ⟨.mov (.tm 0), .tm, none⟩,
 ⟨.faddr 1 (.fr 1), .tm, some ((.tm 0), true)⟩,
 ⟨.load1 (.tm 0), .tm, some ((.tm 1), true)⟩,
 ⟨.faddr 2 (.fr 1), .tm, some ((.tm 2), true)⟩,
 ⟨.load1 (.tm 0), .tm, some ((.tm 3), true)⟩,
 ⟨.faddr 3 (.fr 1), .tm, some ((.tm 4), true)⟩,
 ⟨.load1 (.tm 0), .tm, some ((.tm 5), true)⟩,
 ⟨.faddr 4 (.fr 1), .tm, some ((.tm 6), true)⟩,
 ⟨.load1 (.tm 0), .tm, some ((.tm 7), true)⟩,
 ⟨.bslice 2 1 4 [(.int .i64 0), (.int .i64 0), (.int .i64 0), (.int .i64 0)] [(0, 1, (.tm 6)), (1, 1, (.tm 4)), (2, 1, (.tm 2)), (3, 1, (.tm 0))], .tm, some ((.tm 8), true)⟩,
 ⟨.callf 120 [(.tm 0)], .tm, some ((.tm 9), true)⟩,
 ⟨.pick (.tm 10) (.tm 0) (.c (.bool false)), .tm, none⟩,
 ⟨.mov (.tm 0), .tm, none⟩,
 ⟨.faddr 73 (.fr 1), .tm, some ((.tm 0), true)⟩,
 ⟨.loadn 5 (.tm 0), .tm, some ((.tm 1), true)⟩,
 ⟨.callf 258 [(.tm 0)], .tm, some ((.tm 2), true)⟩,
 ⟨.pick (.tm 3) (.tm 0) (.c (.bool false)), .tm, none⟩,
 ⟨.mov (.tm 0), .fr 2, none⟩]) <|
 .ret, [.t 2]⟩
def f201 : AFunc := ⟨[0, 1, 2, 3, 6, 20],
 .seq (.reg [
 ⟨.box 71 3 (.fr 0), .fr 3, none⟩,
 ⟨.mov (.c (.int .i64 0)), .fr 4, none⟩]) <|
 .seq (.seq (.reg [
 ⟨.loadn 3 (.fr 3), .tm, none⟩,
 ⟨.callf 266 [(.tm 0)], .tm, none⟩,
 ⟨.un .not (.tm 0), .tm, none⟩,
 ⟨.mov (.tm 0), .tm, none⟩,
 ⟨.mov (.fr 1), .tm, some ((.tm 0), false)⟩,
 ⟨.bslice 2 1 1 [(.int .i64 0)] [(0, 1, (.tm 0))], .tm, some ((.tm 1), false)⟩,
 ⟨.callf 267 [(.c (.int .i64 1)), (.tm 0)], .tm, some ((.tm 2), false)⟩,
 ⟨.un .not (.tm 0), .tm, some ((.tm 3), false)⟩,
 ⟨.pick (.tm 4) (.c (.bool true)) (.tm 0), .tm, none⟩,
 ⟨.mov (.tm 0), .tm, none⟩,
 ⟨.mov (.fr 2), .tm, some ((.tm 0), false)⟩,
 ⟨.callf 267 [(.c (.int .i64 1099511627776)), (.tm 0)], .tm, some ((.tm 1), false)⟩,
 ⟨.un .not (.tm 0), .tm, some ((.tm 2), false)⟩,
 ⟨.pick (.tm 3) (.c (.bool true)) (.tm 0), .fr 5, none⟩]) <|
 .cond (.fr 5)
 (.seq (.reg [
 ⟨.mov (.c (.int .i64 2)), .fr 4, none⟩]) <|
 .ret)
 (.skip)) <|
 .seq (.reg [
 ⟨.mov (.c (.int .i64 0)), .fr 4, none⟩]) <|
 .ret, [.t 4]⟩
def f204 : AFunc := ⟨[0, 1, 2, 6, 7, 8, 10],
 .seq (.reg [
 ⟨.mov (.c (.int .i64 0)), .fr 3, none⟩]) <|
 .seq (.seq (.reg [
 ⟨.mov (.fr 0), .tm, none⟩,
 ⟨.eqv 1 false (.tm 0) (.c (.pointer none)), .fr 6, none⟩]) <|
 .cond (.fr 6)
 (.seq (.reg [
 ⟨.mov (.c (.int .i64 1)), .fr 3, none⟩]) <|
 .ret)
 (.skip)) <|
 .seq (.reg [
 ⟨.mov (.fr 0), .tm, none⟩,
 ⟨.nilck (.tm 0), .tm, none⟩,
 ⟨.faddr 0 (.tm 0), .tm, none⟩,
 ⟨.loadn 3 (.tm 0), .tm, none⟩,
 ⟨.mov (.fr 1), .tm, none⟩,
 ⟨.mov (.fr 2), .tm, none⟩,
 ⟨.callf 219 [(.tm 2), (.tm 1), (.tm 0)], .tm, none⟩,
 ⟨.mov (.tm 0), .tm, none⟩,
 ⟨.extract (.tm 0) 0, .tm, none⟩,
 ⟨.extract (.tm 1) 1, .tm, none⟩,
 ⟨.new 150 3 [(.int .i64 0), (.int .i64 0), .nilIface], .fr 4, none⟩,
 ⟨.storen 3 (.fr 4) (.tm 1), .no, none⟩,
 ⟨.mov (.tm 0), .fr 5, none⟩]) <|
 .seq (.reg [
 ⟨.mov (.fr 0), .tm, none⟩,
 ⟨.loadn 3 (.fr 4), .tm, none⟩,
 ⟨.nilck (.tm 1), .tm, none⟩,
 ⟨.faddr 0 (.tm 0), .tm, none⟩,
 ⟨.storen 3 (.tm 0) (.tm 2), .no, none⟩]) <|
 .seq (.reg [
 ⟨.mov (.fr 5), .tm, none⟩,
 ⟨.mov (.tm 0), .fr 3, none⟩]) <|
 .ret, [.t 3]⟩
def f210 : AFunc := ⟨[0, 1, 2, 6, 7, 8, 9, 13, 14, 15, 33],
 .seq (.reg [
 ⟨.mov (.c (.bool false)), .fr 3, none⟩]) <|
 .seq (.seq (.reg [
 ⟨.mov (.fr 0), .tm, none⟩,
 ⟨.nilck (.tm 0), .tm, none⟩,
 ⟨.faddr 4 (.tm 0), .tm, none⟩,
 ⟨.loadn 2 (.tm 0), .fr 7, none⟩,
 ⟨.mov (.c (.int .i64 0)), .fr 8, none⟩]) <|
 .block 0 (.loop (.seq (.reg [
 ⟨.bin .lss (.fr 8) (.c (.int .i64 2)), .fr 9, none⟩]) <|
 .seq (.cond (.fr 9)
 (.skip)
 (.exit 0)) <|
 .seq (.block 1 (.seq (.reg [
 ⟨.mov (.fr 8), .tm, none⟩,
 ⟨.idxa false 1 2 (.fr 7) (.fr 8), .tm, none⟩,
 ⟨.mov (.tm 1), .fr 4, none⟩,
 ⟨.mov (.tm 0), .fr 5, none⟩]) <|
 .seq (.reg [
 ⟨.mov (.c (.int .i64 0)), .fr 6, none⟩]) <|
 .seq (.dreg [
 (⟨.mov (.fr 1), .tm, none⟩, []),
 (⟨.mov (.fr 4), .tm, none⟩, []),
 (⟨.mov (.fr 2), .tm, none⟩, []),
 (⟨.mov (.fr 4), .tm, none⟩, []),
 (⟨.mov (.fr 5), .tm, none⟩, []),
 (⟨.callf 275 [(.tm 0)], .tm, none⟩, []),
 (⟨.mov (.tm 0), .tm, none⟩, []),
 (⟨.extract (.tm 0) 0, .tm, none⟩, []),
 (⟨.extract (.tm 1) 1, .tm, none⟩, []),
 (⟨.extract (.tm 2) 2, .tm, none⟩, []),
 (⟨.nilck (.tm 9), .tm, none⟩, []),
 (⟨.iaddrp 68 2 (.tm 0) (.tm 9), .tm, none⟩, []),
 (⟨.storen 68 (.tm 0) (.tm 4), .no, none⟩, []),
 (⟨.nilck (.tm 9), .tm, none⟩, []),
 (⟨.iaddrp 4 2 (.tm 0) (.tm 9), .tm, none⟩, []),
 (⟨.storen 4 (.tm 0) (.tm 5), .no, none⟩, []),
 (⟨.mov (.tm 4), .fr 6, none⟩, [])]) <|
 .seq (.reg [
 ⟨.mov (.fr 6), .tm, none⟩,
 ⟨.bin .neq (.tm 0) (.c (.int .i64 0)), .fr 10, none⟩]) <|
 .cond (.fr 10)
 (.seq (.reg [
 ⟨.mov (.c (.bool false)), .fr 3, none⟩]) <|
 .ret)
 (.skip))) <|
 .reg [
 ⟨.bin .add (.fr 8) (.c (.int .i64 1)), .tm, none⟩,
 ⟨.mov (.tm 0), .fr 8, none⟩]))) <|
 .seq (.reg [
 ⟨.mov (.c (.bool true)), .fr 3, none⟩]) <|
 .ret, [.t 3]⟩
def f211 : AFunc := ⟨[0, 1, 2],
 .seq (.reg [
 ⟨.mov (.c (.bool false)), .fr 2, none⟩]) <|
 .seq (.reg [
 ⟨.iaddrp 68 2 (.fr 0) (.c (.int .i64 0)), .tm, none⟩,
 ⟨.loadn 68 (.tm 0), .tm, none⟩,
 ⟨.iaddrp 68 2 (.fr 0) (.c (.int .i64 1)), .tm, none⟩,
 ⟨.loadn 68 (.tm 0), .tm, none⟩,
 ⟨.eqs O68W false (.tm 2) (.tm 0), .tm, none⟩,
 ⟨.mov (.tm 0), .tm, none⟩,
 ⟨.iaddrp 4 2 (.fr 1) (.c (.int .i64 0)), .tm, some ((.tm 0), true)⟩,
 ⟨.loadn 4 (.tm 0), .tm, some ((.tm 1), true)⟩,
 ⟨.iaddrp 4 2 (.fr 1) (.c (.int .i64 1)), .tm, some ((.tm 2), true)⟩,
 ⟨.loadn 4 (.tm 0), .tm, some ((.tm 3), true)⟩,
 ⟨.eqs [1, 1, 1, 1] false (.tm 2) (.tm 0), .tm, some ((.tm 4), true)⟩,
 ⟨.pick (.tm 5) (.tm 0) (.c (.bool false)), .tm, none⟩,
 ⟨.mov (.tm 0), .fr 2, none⟩]) <|
 .ret, [.t 2]⟩
def f213 : AFunc := ⟨[0, 1, 2],
 .seq (.reg [
 ⟨.mov (.c (.bool false)), .fr 2, none⟩]) <|
 .seq (.dreg [
 (⟨.load1 (.fr 0), .tm, none⟩, []),
 (⟨.nilck (.tm 0), .tm, none⟩, []),
 (⟨.faddr 6 (.tm 0), .tm, none⟩, []),
 (⟨.load1 (.tm 0), .tm, none⟩, []),
 (⟨.iaddrp 4 2 (.fr 1) (.c (.int .i64 0)), .tm, none⟩, []),
 (⟨.loadn 4 (.tm 0), .tm, none⟩, []),
 (⟨.callf 214 [(.tm 2), (.c (.int .i64 0)), (.tm 0)], .tm, none⟩, []),
 (⟨.bin .eql (.tm 0) (.c (.int .i64 0)), .tm, none⟩, []),
 (⟨.mov (.tm 0), .tm, none⟩, []),
 (⟨.load1 (.fr 0), .tm, some ((.tm 0), true)⟩, []),
 (⟨.nilck (.tm 0), .tm, some ((.tm 1), true)⟩, []),
 (⟨.faddr 6 (.tm 0), .tm, some ((.tm 2), true)⟩, []),
 (⟨.load1 (.tm 0), .tm, some ((.tm 3), true)⟩, []),
 (⟨.iaddrp 4 2 (.fr 1) (.c (.int .i64 1)), .tm, some ((.tm 4), true)⟩, []),
 (⟨.loadn 4 (.tm 0), .tm, some ((.tm 5), true)⟩, []),
 (⟨.callf 214 [(.tm 2), (.c (.int .i64 1)), (.tm 0)], .tm, some ((.tm 6), true)⟩, []),
 (⟨.bin .eql (.tm 0) (.c (.int .i64 0)), .tm, some ((.tm 7), true)⟩, []),
 (⟨.pick (.tm 8) (.tm 0) (.c (.bool false)), .tm, none⟩, []),
 (⟨.mov (.tm 0), .fr 2, none⟩, [])]) <|
 .ret, [.t 2]⟩
def f216 : AFunc := ⟨[0, 2, 3, 6],
 .seq (.reg [
 ⟨.mov (.c (.int .i64 0)), .fr 1, none⟩]) <|
 .seq (.block 0 (.seq (.reg [
 ⟨.mov (.fr 0), .tm, none⟩,
 ⟨.eqv 1 false (.tm 0) (.c (.pointer none)), .tm, none⟩,
 ⟨.mov (.tm 0), .fr 2, none⟩]) <|
 .cond (.fr 2)
 (.seq (.reg [
 ⟨.mov (.c (.int .i64 1)), .fr 1, none⟩]) <|
 .ret)
 (.seq (.reg [
 ⟨.mov (.fr 0), .tm, none⟩,
 ⟨.nilck (.tm 0), .tm, none⟩,
 ⟨.faddr 78 (.tm 0), .tm, none⟩,
 ⟨.load1 (.tm 0), .tm, none⟩,
 ⟨.eqv 1 false (.tm 0) (.c (.pointer none)), .tm, none⟩,
 ⟨.mov (.tm 0), .fr 3, none⟩]) <|
 .cond (.fr 3)
 (.seq (.reg [
 ⟨.mov (.c (.int .i64 4)), .fr 1, none⟩]) <|
 .ret)
 (.skip)))) <|
 .seq (.reg [
 ⟨.mov (.fr 0), .tm, none⟩,
 ⟨.mov (.fr 0), .tm, none⟩,
 ⟨.mov (.fr 0), .tm, none⟩,
 ⟨.mov (.fr 0), .tm, none⟩,
 ⟨.nilck (.tm 0), .tm, none⟩,
 ⟨.faddr 78 (.tm 0), .tm, none⟩,
 ⟨.load1 (.tm 0), .tm, none⟩,
 ⟨.nilck (.tm 0), .tm, none⟩,
 ⟨.loadn 68 (.tm 0), .tm, none⟩,
 ⟨.nilck (.tm 8), .tm, none⟩,
 ⟨.faddr 6 (.tm 0), .tm, none⟩,
 ⟨.storen 68 (.tm 0) (.tm 2), .no, none⟩,
 ⟨.nilck (.tm 9), .tm, none⟩,
 ⟨.faddr 78 (.tm 0), .tm, none⟩,
 ⟨.store1 (.tm 0) (.c (.pointer none)), .no, none⟩,
 ⟨.nilck (.tm 10), .tm, none⟩,
 ⟨.faddr 77 (.tm 0), .tm, none⟩,
 ⟨.store1 (.tm 0) (.c (.bool true)), .no, none⟩]) <|
 .seq (.reg [
 ⟨.mov (.c (.int .i64 0)), .fr 1, none⟩]) <|
 .ret, [.t 1]⟩
def f217 : AFunc := ⟨[0, 2, 3, 12],
 .seq (.reg [
 ⟨.new 275 4 [(.int .i64 0), (.int .i64 0), (.int .u64 0), (.int .u32 0)], .fr 1, none⟩,
 ⟨.mov (.c (.bool false)), .fr 2, none⟩]) <|
 .seq (.seq (.reg [
 ⟨.mov (.fr 0), .tm, none⟩,
 ⟨.eqv 1 false (.tm 0) (.c (.pointer none)), .tm, none⟩,
 ⟨.mov (.tm 0), .tm, none⟩,
 ⟨.mov (.fr 0), .tm, some ((.tm 0), false)⟩,
 ⟨.nilck (.tm 0), .tm, some ((.tm 1), false)⟩,
 ⟨.faddr 2 (.tm 0), .tm, some ((.tm 2), false)⟩,
 ⟨.load1 (.tm 0), .tm, some ((.tm 3), false)⟩,
 ⟨.eqv 1 false (.tm 0) (.c (.pointer none)), .tm, some ((.tm 4), false)⟩,
 ⟨.pick (.tm 5) (.c (.bool true)) (.tm 0), .fr 3, none⟩]) <|
 .cond (.fr 3)
 (.seq (.reg [
 ⟨.build [(.int .i64 0), (.int .i64 0), (.int .u64 0), (.int .u32 0)] [], .tm, none⟩,
 ⟨.storen 4 (.fr 1) (.tm 0), .no, none⟩,
 ⟨.mov (.c (.bool false)), .fr 2, none⟩]) <|
 .ret)
 (.skip)) <|
 .seq (.reg [
 ⟨.mov (.fr 0), .tm, none⟩,
 ⟨.nilck (.tm 0), .tm, none⟩,
 ⟨.faddr 2 (.tm 0), .tm, none⟩,
 ⟨.load1 (.tm 0), .tm, none⟩,
 ⟨.nilck (.tm 0), .tm, none⟩,
 ⟨.loadn 4 (.tm 0), .tm, none⟩,
 ⟨.storen 4 (.fr 1) (.tm 0), .no, none⟩,
 ⟨.mov (.c (.bool true)), .fr 2, none⟩]) <|
 .ret, [.cn 4 1, .t 2]⟩
def f225 : AFunc := ⟨[0, 2, 3, 5, 7, 8, 9, 13],
 .seq (.reg [
 ⟨.mov (.c (.bool false)), .fr 1, none⟩]) <|
 .seq (.reg [
 ⟨.mov (.c (.int .i64 0)), .fr 2, none⟩]) <|
 .seq (.seq (.reg [
 ⟨.mov (.fr 0), .tm, none⟩,
 ⟨.rng (.tm 0), .fr 4, none⟩]) <|
 .block 0 (.loop (.seq (.reg [
 ⟨.next (.fr 4), .fr 5, none⟩,
 ⟨.extract (.fr 5) 0, .fr 6, none⟩]) <|
 .seq (.cond (.fr 6)
 (.skip)
 (.exit 0)) <|
 .block 1 (.seq (.reg [
 ⟨.extract (.fr 5) 2, .tm, none⟩,
 ⟨.mov (.tm 0), .fr 3, none⟩]) <|
 .seq (.seq (.reg [
 ⟨.mov (.fr 3), .tm, none⟩,
 ⟨.callf 282 [(.tm 0)], .tm, none⟩,
 ⟨.un .not (.tm 0), .fr 7, none⟩]) <|
 .cond (.fr 7)
 (.seq (.reg [
 ⟨.mov (.c (.bool false)), .fr 1, none⟩]) <|
 .ret)
 (.skip)) <|
 .reg [
 ⟨.mov (.fr 2), .tm, none⟩,
 ⟨.bin .add (.tm 0) (.c (.int .i64 1)), .tm, none⟩,
 ⟨.mov (.tm 0), .fr 2, none⟩])))) <|
 .seq (.reg [
 ⟨.mov (.fr 2), .tm, none⟩,
 ⟨.bin .geq (.tm 0) (.c (.int .i64 1)), .tm, none⟩,
 ⟨.mov (.tm 0), .tm, none⟩,
 ⟨.mov (.fr 2), .tm, some ((.tm 0), true)⟩,
 ⟨.bin .leq (.tm 0) (.c (.int .i64 16)), .tm, some ((.tm 1), true)⟩,
 ⟨.pick (.tm 2) (.tm 0) (.c (.bool false)), .tm, none⟩,
 ⟨.mov (.tm 0), .fr 1, none⟩]) <|
 .ret, [.t 1]⟩
def f226 : AFunc := ⟨[0, 1, 2, 6, 8, 18],
 .seq (.reg [
 ⟨.mov (.c (.bool false)), .fr 3, none⟩]) <|
 .seq (.seq (.reg [
 ⟨.mov (.fr 0), .tm, none⟩,
 ⟨.nilck (.tm 0), .tm, none⟩,
 ⟨.faddr 4 (.tm 0), .tm, none⟩,
 ⟨.load1 (.tm 0), .tm, none⟩,
 ⟨.mov (.fr 1), .tm, none⟩,
 ⟨.mget .string .nilIface true (.tm 1) (.tm 0), .tm, none⟩,
 ⟨.mov (.tm 0), .tm, none⟩,
 ⟨.extract (.tm 0) 0, .tm, none⟩,
 ⟨.extract (.tm 1) 1, .tm, none⟩,
 ⟨.mov (.tm 1), .tm, none⟩,
 ⟨.mov (.tm 1), .fr 4, none⟩]) <|
 .seq (.reg [
 ⟨.mov (.fr 4), .fr 5, none⟩]) <|
 .cond (.fr 5)
 (.seq (.reg [
 ⟨.mov (.c (.bool false)), .fr 3, none⟩]) <|
 .ret)
 (.skip)) <|
 .seq (.reg [
 ⟨.mov (.fr 0), .tm, none⟩,
 ⟨.nilck (.tm 0), .tm, none⟩,
 ⟨.faddr 4 (.tm 0), .tm, none⟩,
 ⟨.load1 (.tm 0), .tm, none⟩,
 ⟨.mov (.fr 1), .tm, none⟩,
 ⟨.mov (.fr 2), .tm, none⟩,
 ⟨.mset .string (.tm 2) (.tm 1) (.tm 0), .no, none⟩]) <|
 .seq (.reg [
 ⟨.mov (.c (.bool true)), .fr 3, none⟩]) <|
 .ret, [.t 3]⟩
def f227 : AFunc := ⟨[0, 1, 4, 6, 7, 8, 9, 10, 19],
 .seq (.reg [
 ⟨.mov (.c (.bool false)), .fr 2, none⟩]) <|
 .seq (.seq (.reg [
 ⟨.mov (.fr 1), .fr 4, none⟩,
 ⟨.len false (.fr 4), .fr 5, none⟩,
 ⟨.mov (.c (.int .i64 0)), .fr 6, none⟩]) <|
 .block 0 (.loop (.seq (.reg [
 ⟨.bin .lss (.fr 6) (.fr 5), .fr 7, none⟩]) <|
 .seq (.cond (.fr 7)
 (.skip)
 (.exit 0)) <|
 .seq (.block 1 (.seq (.reg [
 ⟨.iaddr 1 (.fr 4) (.fr 6), .tm, none⟩,
 ⟨.load1 (.tm 0), .tm, none⟩,
 ⟨.mov (.tm 0), .fr 3, none⟩]) <|
 .seq (.reg [
 ⟨.mov (.fr 3), .tm, none⟩,
 ⟨.bin .lss (.tm 0) (.c (.int .i64 0)), .tm, none⟩,
 ⟨.mov (.tm 0), .tm, none⟩,
 ⟨.mov (.fr 3), .tm, some ((.tm 0), false)⟩,
 ⟨.mov (.fr 0), .tm, some ((.tm 1), false)⟩,
 ⟨.bin .geq (.tm 1) (.tm 0), .tm, some ((.tm 2), false)⟩,
 ⟨.pick (.tm 3) (.c (.bool true)) (.tm 0), .fr 8, none⟩]) <|
 .cond (.fr 8)
 (.seq (.reg [
 ⟨.mov (.c (.bool false)), .fr 2, none⟩]) <|
 .ret)
 (.skip))) <|
 .reg [
 ⟨.bin .add (.fr 6) (.c (.int .i64 1)), .tm, none⟩,
 ⟨.mov (.tm 0), .fr 6, none⟩]))) <|
 .seq (.reg [
 ⟨.mov (.c (.bool true)), .fr 2, none⟩]) <|
 .ret, [.t 2]⟩
def f228 : AFunc := ⟨[0, 1, 4, 5, 6, 7, 8, 9, 10, 23],
 .seq (.reg [
 ⟨.mov (.c (.bool false)), .fr 2, none⟩]) <|
 .seq (.seq (.reg [
 ⟨.mov (.fr 0), .fr 5, none⟩,
 ⟨.len false (.fr 5), .fr 6, none⟩,
 ⟨.mov (.c (.int .i64 0)), .fr 7, none⟩]) <|
 .block 0 (.loop (.seq (.reg [
 ⟨.bin .lss (.fr 7) (.fr 6), .fr 8, none⟩]) <|
 .seq (.cond (.fr 8)
 (.skip)
 (.exit 0)) <|
 .seq (.block 1 (.seq (.reg [
 ⟨.mov (.fr 7), .tm, none⟩,
 ⟨.iaddr 2 (.fr 5) (.fr 7), .tm, none⟩,
 ⟨.loadn 2 (.tm 0), .tm, none⟩,
 ⟨.new 90 2 [(.int .i64 0), (.bool false)], .fr 4, none⟩,
 ⟨.mov (.tm 2), .fr 3, none⟩,
 ⟨.storen 2 (.fr 4) (.tm 0), .no, none⟩]) <|
 .seq (.reg [
 ⟨.mov (.fr 3), .tm, none⟩,
 ⟨.bin .geq (.tm 0) (.c (.int .i64 16)), .tm, none⟩,
 ⟨.mov (.tm 0), .tm, none⟩,
 ⟨.mov (.fr 1), .tm, some ((.tm 0), false)⟩,
 ⟨.faddr 0 (.fr 4), .tm, some ((.tm 1), false)⟩,
 ⟨.load1 (.tm 0), .tm, some ((.tm 2), false)⟩,
 ⟨.bslice 3 1 1 [(.int .i64 0)] [(0, 1, (.tm 0))], .tm, some ((.tm 3), false)⟩,
 ⟨.callf 227 [(.tm 3), (.tm 0)], .tm, some ((.tm 4), false)⟩,
 ⟨.un .not (.tm 0), .tm, some ((.tm 5), false)⟩,
 ⟨.pick (.tm 6) (.c (.bool true)) (.tm 0), .fr 9, none⟩]) <|
 .cond (.fr 9)
 (.seq (.reg [
 ⟨.mov (.c (.bool false)), .fr 2, none⟩]) <|
 .ret)
 (.skip))) <|
 .reg [
 ⟨.bin .add (.fr 7) (.c (.int .i64 1)), .tm, none⟩,
 ⟨.mov (.tm 0), .fr 7, none⟩]))) <|
 .seq (.reg [
 ⟨.mov (.c (.bool true)), .fr 2, none⟩]) <|
 .ret, [.t 2]⟩
def f229 : AFunc := ⟨[0, 1, 3, 4, 5, 6, 7, 8, 9, 10, 18],
 .seq (.reg [
 ⟨.box 62 1 (.fr 1), .fr 2, none⟩,
 ⟨.mov (.c (.bool false)), .fr 3, none⟩]) <|
 .seq (.seq (.reg [
 ⟨.mov (.fr 0), .fr 6, none⟩,
 ⟨.len false (.fr 6), .fr 7, none⟩,
 ⟨.mov (.c (.int .i64 0)), .fr 8, none⟩]) <|
 .block 0 (.loop (.seq (.reg [
 ⟨.bin .lss (.fr 8) (.fr 7), .fr 9, none⟩]) <|
 .seq (.cond (.fr 9)
 (.skip)
 (.exit 0)) <|
 .seq (.block 1 (.seq (.reg [
 ⟨.mov (.fr 8), .tm, none⟩,
 ⟨.iaddr 1 (.fr 6) (.fr 8), .tm, none⟩,
 ⟨.load1 (.tm 0), .tm, none⟩,
 ⟨.new 3 1 [(.int .i64 0)], .fr 5, none⟩,
 ⟨.mov (.tm 2), .fr 4, none⟩,
 ⟨.store1 (.fr 5) (.tm 0), .no, none⟩]) <|
 .seq (.reg [
 ⟨.mov (.fr 0), .tm, none⟩,
 ⟨.mov (.fr 4), .tm, none⟩,
 ⟨.slsl 1 (.tm 1) none (some (.tm 0)) none, .tm, none⟩,
 ⟨.mkfn (.func 283) [] [(.fr 2), (.fr 5)], .tm, none⟩,
 ⟨.callf 176 [(.tm 1), (.tm 0)], .fr 10, none⟩]) <|
 .cond (.fr 10)
 (.seq (.reg [
 ⟨.mov (.c (.bool true)), .fr 3, none⟩]) <|
 .ret)
 (.skip))) <|
 .reg [
 ⟨.bin .add (.fr 8) (.c (.int .i64 1)), .tm, none⟩,
 ⟨.mov (.tm 0), .fr 8, none⟩]))) <|
 .seq (.reg [
 ⟨.mov (.c (.bool false)), .fr 3, none⟩]) <|
 .ret, [.t 3]⟩
def f232 : AFunc := ⟨[0, 1, 3, 4, 5, 6, 7, 8, 9, 10, 18],
 .seq (.reg [
 ⟨.box 382 1 (.fr 1), .fr 2, none⟩,
 ⟨.mov (.c (.bool false)), .fr 3, none⟩]) <|
 .seq (.seq (.reg [
 ⟨.mov (.fr 0), .fr 6, none⟩,
 ⟨.len false (.fr 6), .fr 7, none⟩,
 ⟨.mov (.c (.int .i64 0)), .fr 8, none⟩]) <|
 .block 0 (.loop (.seq (.reg [
 ⟨.bin .lss (.fr 8) (.fr 7), .fr 9, none⟩]) <|
 .seq (.cond (.fr 9)
 (.skip)
 (.exit 0)) <|
 .seq (.block 1 (.seq (.reg [
 ⟨.mov (.fr 8), .tm, none⟩,
 ⟨.iaddr 2 (.fr 6) (.fr 8), .tm, none⟩,
 ⟨.loadn 2 (.tm 0), .tm, none⟩,
 ⟨.new 90 2 [(.int .i64 0), (.bool false)], .fr 5, none⟩,
 ⟨.mov (.tm 2), .fr 4, none⟩,
 ⟨.storen 2 (.fr 5) (.tm 0), .no, none⟩]) <|
 .seq (.reg [
 ⟨.mov (.fr 0), .tm, none⟩,
 ⟨.mov (.fr 4), .tm, none⟩,
 ⟨.slsl 2 (.tm 1) none (some (.tm 0)) none, .tm, none⟩,
 ⟨.mkfn (.func 285) [] [(.fr 2), (.fr 5)], .tm, none⟩,
 ⟨.callf 178 [(.tm 1), (.tm 0)], .fr 10, none⟩]) <|
 .cond (.fr 10)
 (.seq (.reg [
 ⟨.mov (.c (.bool true)), .fr 3, none⟩]) <|
 .ret)
 (.skip))) <|
 .reg [
 ⟨.bin .add (.fr 8) (.c (.int .i64 1)), .tm, none⟩,
 ⟨.mov (.tm 0), .fr 8, none⟩]))) <|
 .seq (.reg [
 ⟨.mov (.c (.bool false)), .fr 3, none⟩]) <|
 .ret, [.t 3]⟩
def f235 : AFunc := ⟨[0, 1, 4, 6, 16],
 .seq (.reg [
 ⟨.mov (.c (.slice none 0 0)), .fr 2, none⟩]) <|
 .seq (.seq (.reg [
 ⟨.mov (.fr 1), .tm, none⟩,
 ⟨.bin .lss (.tm 0) (.c (.int .i64 0)), .fr 3, none⟩]) <|
 .cond (.fr 3)
 (.reg [
 ⟨.iface 9 (.c (.string ⟨#[99, 97, 110, 110, 111, 116, 32, 98, 101, 32, 110, 101, 103, 97, 116, 105, 118, 101]⟩)), .tm, none⟩,
 ⟨.bad, .no, none⟩])
 (.skip)) <|
 .seq (.seq (.reg [
 ⟨.mov (.fr 1), .tm, none⟩,
 ⟨.mov (.fr 0), .tm, none⟩,
 ⟨.cap (.tm 0), .tm, none⟩,
 ⟨.mov (.fr 0), .tm, none⟩,
 ⟨.len false (.tm 0), .tm, none⟩,
 ⟨.bin .sub (.tm 2) (.tm 0), .tm, none⟩,
 ⟨.bin .sub (.tm 5) (.tm 0), .tm, none⟩,
 ⟨.mov (.tm 0), .fr 1, none⟩]) <|
 .seq (.reg [
 ⟨.mov (.fr 1), .tm, none⟩,
 ⟨.bin .gtr (.tm 0) (.c (.int .i64 0)), .fr 4, none⟩]) <|
 .cond (.fr 4)
 (.reg [
 ⟨.mov (.fr 0), .tm, none⟩,
 ⟨.mov (.fr 0), .tm, none⟩,
 ⟨.cap (.tm 0), .tm, none⟩,
 ⟨.slsl 1 (.tm 2) none (some (.tm 0)) none, .tm, none⟩,
 ⟨.mov (.fr 1), .tm, none⟩,
 ⟨.appz 3 1 8 [(.int .i64 0)] (.tm 1) (.tm 0), .tm, none⟩,
 ⟨.mov (.fr 0), .tm, none⟩,
 ⟨.len false (.tm 0), .tm, none⟩,
 ⟨.slsl 1 (.tm 2) none (some (.tm 0)) none, .tm, none⟩,
 ⟨.mov (.tm 0), .fr 0, none⟩])
 (.skip)) <|
 .seq (.reg [
 ⟨.mov (.fr 0), .tm, none⟩,
 ⟨.mov (.tm 0), .fr 2, none⟩]) <|
 .ret, [.t 2]⟩
def f236 : AFunc := ⟨[0, 1, 4, 6, 16],
 .seq (.reg [
 ⟨.mov (.c (.slice none 0 0)), .fr 2, none⟩]) <|
 .seq (.seq (.reg [
 ⟨.mov (.fr 1), .tm, none⟩,
 ⟨.bin .lss (.tm 0) (.c (.int .i64 0)), .fr 3, none⟩]) <|
 .cond (.fr 3)
 (.reg [
 ⟨.iface 9 (.c (.string ⟨#[99, 97, 110, 110, 111, 116, 32, 98, 101, 32, 110, 101, 103, 97, 116, 105, 118, 101]⟩)), .tm, none⟩,
 ⟨.bad, .no, none⟩])
 (.skip)) <|
 .seq (.seq (.reg [
 ⟨.mov (.fr 1), .tm, none⟩,
 ⟨.mov (.fr 0), .tm, none⟩,
 ⟨.cap (.tm 0), .tm, none⟩,
 ⟨.mov (.fr 0), .tm, none⟩,
 ⟨.len false (.tm 0), .tm, none⟩,
 ⟨.bin .sub (.tm 2) (.tm 0), .tm, none⟩,
 ⟨.bin .sub (.tm 5) (.tm 0), .tm, none⟩,
 ⟨.mov (.tm 0), .fr 1, none⟩]) <|
 .seq (.reg [
 ⟨.mov (.fr 1), .tm, none⟩,
 ⟨.bin .gtr (.tm 0) (.c (.int .i64 0)), .fr 4, none⟩]) <|
 .cond (.fr 4)
 (.reg [
 ⟨.mov (.fr 0), .tm, none⟩,
 ⟨.mov (.fr 0), .tm, none⟩,
 ⟨.cap (.tm 0), .tm, none⟩,
 ⟨.slsl 2 (.tm 2) none (some (.tm 0)) none, .tm, none⟩,
 ⟨.mov (.fr 1), .tm, none⟩,
 ⟨.appz 90 2 16 [(.int .i64 0), (.bool false)] (.tm 1) (.tm 0), .tm, none⟩,
 ⟨.mov (.fr 0), .tm, none⟩,
 ⟨.len false (.tm 0), .tm, none⟩,
 ⟨.slsl 2 (.tm 2) none (some (.tm 0)) none, .tm, none⟩,
 ⟨.mov (.tm 0), .fr 0, none⟩])
 (.skip)) <|
 .seq (.reg [
 ⟨.mov (.fr 0), .tm, none⟩,
 ⟨.mov (.tm 0), .fr 2, none⟩]) <|
 .ret, [.t 2]⟩
def f240 : AFunc := ⟨[0, 1, 4, 5, 6, 9, 15, 25],
 .seq (.reg [
 ⟨.mov (.c (.int .i64 0)), .fr 2, none⟩]) <|
 .seq (.seq (.reg [
 ⟨.mov (.fr 1), .tm, none⟩,
 ⟨.len false (.tm 0), .tm, none⟩,
 ⟨.bin .eql (.tm 0) (.c (.int .i64 0)), .fr 5, none⟩]) <|
 .cond (.fr 5)
 (.seq (.reg [
 ⟨.mov (.fr 0), .tm, none⟩,
 ⟨.callf 291 [(.tm 0)], .tm, none⟩,
 ⟨.bin .add (.tm 0) (.c (.int .i64 1)), .tm, none⟩,
 ⟨.mov (.tm 0), .fr 2, none⟩]) <|
 .ret)
 (.skip)) <|
 .seq (.seq (.reg [
 ⟨.mov (.fr 1), .tm, none⟩,
 ⟨.len false (.tm 0), .tm, none⟩,
 ⟨.bin .eql (.tm 0) (.c (.int .i64 1)), .fr 6, none⟩]) <|
 .cond (.fr 6)
 (.seq (.reg [
 ⟨.mov (.fr 0), .tm, none⟩,
 ⟨.mov (.fr 1), .tm, none⟩,
 ⟨.iaddr 1 (.tm 0) (.c (.int .i64 0)), .tm, none⟩,
 ⟨.load1 (.tm 0), .tm, none⟩,
 ⟨.callf 292 [(.tm 3), (.tm 0)], .tm, none⟩,
 ⟨.mov (.tm 0), .fr 2, none⟩]) <|
 .ret)
 (.skip)) <|
 .seq (.reg [
 ⟨.mov (.c (.int .i64 0)), .fr 3, none⟩]) <|
 .block 0 (.loop (.block 1 (.seq (.reg [
 ⟨.mov (.fr 0), .tm, none⟩,
 ⟨.mov (.fr 1), .tm, none⟩,
 ⟨.callf 293 [(.tm 1), (.tm 0)], .tm, none⟩,
 ⟨.mov (.tm 0), .fr 4, none⟩]) <|
 .seq (.seq (.reg [
 ⟨.mov (.fr 4), .tm, none⟩,
 ⟨.bin .eql (.tm 0) (.c (.int .i64 (-1))), .fr 7, none⟩]) <|
 .cond (.fr 7)
 (.seq (.reg [
 ⟨.mov (.fr 3), .tm, none⟩,
 ⟨.mov (.tm 0), .fr 2, none⟩]) <|
 .ret)
 (.skip)) <|
 .seq (.reg [
 ⟨.mov (.fr 3), .tm, none⟩,
 ⟨.bin .add (.tm 0) (.c (.int .i64 1)), .tm, none⟩,
 ⟨.mov (.tm 0), .fr 3, none⟩]) <|
 .reg [
 ⟨.mov (.fr 0), .tm, none⟩,
 ⟨.mov (.fr 4), .tm, none⟩,
 ⟨.mov (.fr 1), .tm, none⟩,
 ⟨.len false (.tm 0), .tm, none⟩,
 ⟨.bin .add (.tm 2) (.tm 0), .tm, none⟩,
 ⟨.slsl 1 (.tm 4) (some (.tm 0)) none none, .tm, none⟩,
 ⟨.mov (.tm 0), .fr 0, none⟩]))), [.t 2]⟩
def f242 : AFunc := ⟨[0, 1, 2, 6, 22],
 .seq (.reg [
 ⟨.mov (.c (.int .i64 0)), .fr 3, none⟩]) <|
 .seq (.dreg [
 (⟨.mov (.fr 0), .tm, none⟩, []),
 (⟨.mov (.fr 0), .tm, none⟩, []),
 (⟨.nilck (.tm 0), .tm, none⟩, []),
 (⟨.faddr 0 (.tm 0), .tm, none⟩, []),
 (⟨.load1 (.tm 0), .tm, none⟩, []),
 (⟨.mov (.fr 1), .tm, none⟩, []),
 (⟨.mov (.fr 2), .tm, none⟩, []),
 (⟨.callf 295 [(.tm 0)], .tm, none⟩, [4]),
 (⟨.callf 296 [(.tm 3), (.tm 2), (.tm 0)], .tm, none⟩, []),
 (⟨.nilck (.tm 8), .tm, none⟩, []),
 (⟨.faddr 4 (.tm 0), .tm, none⟩, []),
 (⟨.store1 (.tm 0) (.tm 2), .no, none⟩, [])]) <|
 .seq (.seq (.reg [
 ⟨.mov (.fr 0), .tm, none⟩,
 ⟨.nilck (.tm 0), .tm, none⟩,
 ⟨.faddr 4 (.tm 0), .tm, none⟩,
 ⟨.load1 (.tm 0), .tm, none⟩,
 ⟨.bin .eql (.tm 0) (.c (.int .i64 0)), .fr 4, none⟩]) <|
 .cond (.fr 4)
 (.reg [
 ⟨.mov (.fr 0), .tm, none⟩,
 ⟨.mov (.fr 0), .tm, none⟩,
 ⟨.nilck (.tm 0), .tm, none⟩,
 ⟨.faddr 0 (.tm 0), .tm, none⟩,
 ⟨.load1 (.tm 0), .tm, none⟩,
 ⟨.callf 297 [(.tm 0)], .tm, none⟩,
 ⟨.nilck (.tm 5), .tm, none⟩,
 ⟨.faddr 4 (.tm 0), .tm, none⟩,
 ⟨.store1 (.tm 0) (.tm 2), .no, none⟩])
 (.skip)) <|
 .seq (.reg [
 ⟨.mov (.fr 0), .tm, none⟩,
 ⟨.nilck (.tm 0), .tm, none⟩,
 ⟨.faddr 4 (.tm 0), .tm, none⟩,
 ⟨.load1 (.tm 0), .tm, none⟩,
 ⟨.mov (.tm 0), .fr 3, none⟩]) <|
 .ret, [.t 3]⟩
def f244 : AFunc := ⟨[0, 1, 4, 5, 6, 8, 9],
 .seq (.reg [
 ⟨.new 397 2 [(.int .i64 0), (.slice none 0 0)], .fr 2, none⟩,
 ⟨.mov (.c (.bool false)), .fr 3, none⟩]) <|
 .seq (.dreg [
 (⟨.mov (.fr 0), .tm, none⟩, []),
 (⟨.nilck (.tm 0), .tm, none⟩, []),
 (⟨.faddr 0 (.tm 0), .tm, none⟩, []),
 (⟨.load1 (.tm 0), .tm, none⟩, []),
 (⟨.mov (.fr 0), .tm, none⟩, []),
 (⟨.mov (.fr 1), .tm, none⟩, []),
 (⟨.callf 298 [(.tm 1), (.tm 0)], .tm, none⟩, [3]),
 (⟨.callf 239 [(.tm 3), (.tm 0)], .tm, none⟩, []),
 (⟨.mov (.tm 0), .tm, none⟩, []),
 (⟨.extract (.tm 0) 0, .tm, none⟩, []),
 (⟨.extract (.tm 1) 1, .tm, none⟩, []),
 (⟨.mov (.tm 1), .fr 4, none⟩, []),
 (⟨.mov (.tm 0), .tm, none⟩, [])]) <|
 .seq (.reg [
 ⟨.mov (.fr 4), .tm, none⟩,
 ⟨.callf 241 [(.tm 0)], .tm, none⟩,
 ⟨.assert 397 (.agg #[(.int .i64 0), (.slice none 0 0)]) true (.tm 0), .tm, none⟩,
 ⟨.mov (.tm 0), .tm, none⟩,
 ⟨.extract (.tm 0) 0, .tm, none⟩,
 ⟨.extract (.tm 1) 1, .tm, none⟩,
 ⟨.new 397 2 [(.int .i64 0), (.slice none 0 0)], .fr 5, none⟩,
 ⟨.storen 2 (.fr 5) (.tm 1), .no, none⟩,
 ⟨.mov (.tm 0), .fr 6, none⟩]) <|
 .seq (.reg [
 ⟨.loadn 2 (.fr 5), .tm, none⟩,
 ⟨.mov (.fr 6), .tm, none⟩,
 ⟨.storen 2 (.fr 2) (.tm 1), .no, none⟩,
 ⟨.mov (.tm 0), .fr 3, none⟩]) <|
 .ret, [.cn 2 2, .t 3]⟩
def f245 : AFunc := ⟨[0, 1, 4, 5, 6, 8, 9, 10, 25],
 .seq (.reg [
 ⟨.mov (.fr 0), .tm, none⟩,
 ⟨.callf 243 [(.tm 0)], .fr 5, none⟩,
 ⟨.mov (.c (.int .i64 0)), .fr 6, none⟩]) <|
 .block 0 (.loop (.seq (.reg [
 ⟨.bin .lss (.fr 6) (.fr 5), .fr 7, none⟩]) <|
 .seq (.cond (.fr 7)
 (.skip)
 (.exit 0)) <|
 .seq (.block 1 (.seq (.reg [
 ⟨.mov (.fr 6), .tm, none⟩,
 ⟨.mov (.tm 0), .fr 2, none⟩]) <|
 .seq (.reg [
 ⟨.mov (.fr 0), .tm, none⟩,
 ⟨.mov (.fr 2), .tm, none⟩,
 ⟨.bin .add (.tm 0) (.c (.int .i64 1)), .tm, none⟩,
 ⟨.callf 244 [(.tm 2), (.tm 0)], .tm, none⟩,
 ⟨.mov (.tm 0), .tm, none⟩,
 ⟨.extract (.tm 0) 0, .tm, none⟩,
 ⟨.extract (.tm 1) 1, .tm, none⟩,
 ⟨.new 397 2 [(.int .i64 0), (.slice none 0 0)], .fr 3, none⟩,
 ⟨.storen 2 (.fr 3) (.tm 1), .no, none⟩,
 ⟨.mov (.tm 0), .fr 4, none⟩]) <|
 .seq (.reg [
 ⟨.mov (.fr 4), .tm, none⟩,
 ⟨.mov (.tm 0), .tm, none⟩,
 ⟨.mov (.fr 1), .tm, some ((.tm 0), true)⟩,
 ⟨.loadn 2 (.fr 3), .tm, some ((.tm 1), true)⟩,
 ⟨.callv (.tm 1) [(.tm 0)], .tm, some ((.tm 2), true)⟩,
 ⟨.un .not (.tm 0), .tm, some ((.tm 3), true)⟩,
 ⟨.pick (.tm 4) (.tm 0) (.c (.bool false)), .fr 8, none⟩]) <|
 .cond (.fr 8)
 (.ret)
 (.skip))) <|
 .reg [
 ⟨.bin .add (.fr 6) (.c (.int .i64 1)), .tm, none⟩,
 ⟨.mov (.tm 0), .fr 6, none⟩])), []⟩
def f247 : AFunc := ⟨[0, 1, 4, 5, 22],
 .seq (.reg [
 ⟨.mov (.c (.slice none 0 0)), .fr 2, none⟩,
 ⟨.mov (.c (.bool false)), .fr 3, none⟩]) <|
 .seq (.seq (.reg [
 ⟨.mov (.fr 0), .tm, none⟩,
 ⟨.eqv 1 false (.tm 0) (.c (.pointer none)), .tm, none⟩,
 ⟨.mov (.tm 0), .tm, none⟩,
 ⟨.mov (.fr 1), .tm, some ((.tm 0), false)⟩,
 ⟨.mov (.fr 0), .tm, some ((.tm 1), false)⟩,
 ⟨.nilck (.tm 0), .tm, some ((.tm 2), false)⟩,
 ⟨.faddr 1 (.tm 0), .tm, some ((.tm 3), false)⟩,
 ⟨.faddr 1 (.tm 0), .tm, some ((.tm 4), false)⟩,
 ⟨.load1 (.tm 0), .tm, some ((.tm 5), false)⟩,
 ⟨.bin .lss (.tm 5) (.tm 0), .tm, some ((.tm 6), false)⟩,
 ⟨.pick (.tm 7) (.c (.bool true)) (.tm 0), .tm, none⟩,
 ⟨.mov (.tm 0), .tm, none⟩,
 ⟨.mov (.fr 1), .tm, some ((.tm 0), false)⟩,
 ⟨.mov (.fr 0), .tm, some ((.tm 1), false)⟩,
 ⟨.callf 168 [(.tm 0)], .tm, some ((.tm 2), false)⟩,
 ⟨.bin .geq (.tm 2) (.tm 0), .tm, some ((.tm 3), false)⟩,
 ⟨.pick (.tm 4) (.c (.bool true)) (.tm 0), .fr 4, none⟩]) <|
 .cond (.fr 4)
 (.seq (.reg [
 ⟨.mov (.c (.slice none 0 0)), .fr 2, none⟩,
 ⟨.mov (.c (.bool false)), .fr 3, none⟩]) <|
 .ret)
 (.skip)) <|
 .seq (.dreg [
 (⟨.mov (.fr 0), .tm, none⟩, []),
 (⟨.nilck (.tm 0), .tm, none⟩, []),
 (⟨.faddr 3 (.tm 0), .tm, none⟩, []),
 (⟨.load1 (.tm 0), .tm, none⟩, []),
 (⟨.mov (.fr 1), .tm, none⟩, []),
 (⟨.mov (.fr 0), .tm, none⟩, []),
 (⟨.nilck (.tm 0), .tm, none⟩, []),
 (⟨.faddr 1 (.tm 0), .tm, none⟩, []),
 (⟨.faddr 1 (.tm 0), .tm, none⟩, []),
 (⟨.load1 (.tm 0), .tm, none⟩, []),
 (⟨.bin .sub (.tm 5) (.tm 0), .tm, none⟩, []),
 (⟨.iaddr 1 (.tm 7) (.tm 0), .tm, none⟩, []),
 (⟨.load1 (.tm 0), .tm, none⟩, []),
 (⟨.callf 156 [(.tm 0)], .tm, none⟩, []),
 (⟨.mov (.tm 0), .fr 2, none⟩, []),
 (⟨.mov (.c (.bool true)), .fr 3, none⟩, [])]) <|
 .ret, [.t 2, .t 3]⟩
def f253 : AFunc := ⟨[0, 1, 4, 5, 7, 8, 9, 16],
 .seq (.reg [
 ⟨.mov (.c (.int .i64 0)), .fr 2, none⟩]) <|
 .seq (.seq (.reg [
 ⟨.mov (.fr 0), .tm, none⟩,
 ⟨.len false (.tm 0), .fr 4, none⟩,
 ⟨.mov (.c (.int .i64 0)), .fr 5, none⟩]) <|
 .block 0 (.loop (.seq (.reg [
 ⟨.bin .lss (.fr 5) (.fr 4), .fr 6, none⟩]) <|
 .seq (.cond (.fr 6)
 (.skip)
 (.exit 0)) <|
 .seq (.block 1 (.seq (.reg [
 ⟨.mov (.fr 5), .tm, none⟩,
 ⟨.mov (.tm 0), .fr 3, none⟩]) <|
 .seq (.reg [
 ⟨.mov (.fr 1), .tm, none⟩,
 ⟨.mov (.fr 0), .tm, none⟩,
 ⟨.mov (.fr 3), .tm, none⟩,
 ⟨.iaddr 2 (.tm 1) (.tm 0), .tm, none⟩,
 ⟨.loadn 2 (.tm 0), .tm, none⟩,
 ⟨.callv (.tm 4) [(.tm 0)], .fr 7, none⟩]) <|
 .cond (.fr 7)
 (.seq (.reg [
 ⟨.mov (.fr 3), .tm, none⟩,
 ⟨.mov (.tm 0), .fr 2, none⟩]) <|
 .ret)
 (.skip))) <|
 .reg [
 ⟨.bin .add (.fr 5) (.c (.int .i64 1)), .tm, none⟩,
 ⟨.mov (.tm 0), .fr 5, none⟩]))) <|
 .seq (.reg [
 ⟨.mov (.c (.int .i64 (-1))), .fr 2, none⟩]) <|
 .ret, [.t 2]⟩
def f258 : AFunc := ⟨[0, 1, 2, 3, 5, 7, 8, 9, 10, 21],
 .seq (.reg [
 ⟨.box 253 5 (.fr 0), .fr 1, none⟩,
 ⟨.mov (.c (.bool false)), .fr 2, none⟩]) <|
 .seq (.reg [
 ⟨.mov (.c (.int .i64 (-1))), .fr 3, none⟩]) <|
 .seq (.seq (.reg [
 ⟨.faddr 4 (.fr 1), .tm, none⟩,
 ⟨.load1 (.tm 0), .fr 5, none⟩,
 ⟨.len false (.fr 5), .fr 6, none⟩,
 ⟨.mov (.c (.int .i64 0)), .fr 7, none⟩]) <|
 .block 0 (.loop (.seq (.reg [
 ⟨.bin .lss (.fr 7) (.fr 6), .fr 8, none⟩]) <|
 .seq (.cond (.fr 8)
 (.skip)
 (.exit 0)) <|
 .seq (.block 1 (.seq (.reg [
 ⟨.iaddr 2 (.fr 5) (.fr 7), .tm, none⟩,
 ⟨.loadn 2 (.tm 0), .tm, none⟩,
 ⟨.new 344 2 [(.int .i64 0), (.int .u8 0)], .fr 4, none⟩,
 ⟨.storen 2 (.fr 4) (.tm 0), .no, none⟩]) <|
 .seq (.seq (.reg [
 ⟨.faddr 0 (.fr 4), .tm, none⟩,
 ⟨.load1 (.tm 0), .tm, none⟩,
 ⟨.mov (.fr 3), .tm, none⟩,
 ⟨.bin .leq (.tm 1) (.tm 0), .tm, none⟩,
 ⟨.mov (.tm 0), .tm, none⟩,
 ⟨.faddr 0 (.fr 4), .tm, some ((.tm 0), false)⟩,
 ⟨.load1 (.tm 0), .tm, some ((.tm 1), false)⟩,
 ⟨.bin .geq (.tm 0) (.c (.int .i64 64)), .tm, some ((.tm 2), false)⟩,
 ⟨.pick (.tm 3) (.c (.bool true)) (.tm 0), .fr 9, none⟩]) <|
 .cond (.fr 9)
 (.seq (.reg [
 ⟨.mov (.c (.bool false)), .fr 2, none⟩]) <|
 .ret)
 (.skip)) <|
 .reg [
 ⟨.faddr 0 (.fr 4), .tm, none⟩,
 ⟨.load1 (.tm 0), .tm, none⟩,
 ⟨.mov (.tm 0), .fr 3, none⟩])) <|
 .reg [
 ⟨.bin .add (.fr 7) (.c (.int .i64 1)), .tm, none⟩,
 ⟨.mov (.tm 0), .fr 7, none⟩]))) <|
 .seq (.reg [
 ⟨.mov (.c (.bool true)), .fr 2, none⟩]) <|
 .ret, [.t 2]⟩
def f259 : AFunc := ⟨[0, 2, 3, 5, 6, 7, 8, 9, 14],
 .seq (.reg [
 ⟨.mov (.c (.int .i64 0)), .fr 1, none⟩]) <|
 .seq (.reg [
 ⟨.mov (.c (.int .i64 0)), .fr 2, none⟩]) <|
 .seq (.seq (.reg [
 ⟨.mov (.fr 0), .fr 4, none⟩,
 ⟨.len false (.fr 4), .fr 5, none⟩,
 ⟨.mov (.c (.int .i64 0)), .fr 6, none⟩]) <|
 .block 0 (.loop (.seq (.reg [
 ⟨.bin .lss (.fr 6) (.fr 5), .fr 7, none⟩]) <|
 .seq (.cond (.fr 7)
 (.skip)
 (.exit 0)) <|
 .seq (.block 1 (.seq (.reg [
 ⟨.iaddr 1 (.fr 4) (.fr 6), .tm, none⟩,
 ⟨.load1 (.tm 0), .tm, none⟩,
 ⟨.mov (.tm 0), .fr 3, none⟩]) <|
 .seq (.reg [
 ⟨.mov (.fr 3), .tm, none⟩,
 ⟨.mov (.fr 2), .tm, none⟩,
 ⟨.bin .neq (.tm 1) (.tm 0), .fr 8, none⟩]) <|
 .cond (.fr 8)
 (.seq (.reg [
 ⟨.mov (.fr 3), .tm, none⟩,
 ⟨.mov (.tm 0), .fr 1, none⟩]) <|
 .ret)
 (.skip))) <|
 .reg [
 ⟨.bin .add (.fr 6) (.c (.int .i64 1)), .tm, none⟩,
 ⟨.mov (.tm 0), .fr 6, none⟩]))) <|
 .seq (.reg [
 ⟨.mov (.fr 2), .tm, none⟩,
 ⟨.mov (.tm 0), .fr 1, none⟩]) <|
 .ret, [.t 1]⟩
def f260 : AFunc := ⟨[0, 1, 4, 5, 6, 11, 12, 13, 16, 19],
 .seq (.reg [
 ⟨.mov (.c (.int .i64 0)), .fr 2, none⟩]) <|
 .seq (.reg [
 ⟨.mov (.fr 0), .tm, none⟩,
 ⟨.callf 310 [(.tm 0)], .tm, none⟩,
 ⟨.mov (.tm 0), .fr 3, none⟩]) <|
 .seq (.reg [
 ⟨.mov (.fr 1), .tm, none⟩,
 ⟨.callf 310 [(.tm 0)], .tm, none⟩,
 ⟨.mov (.tm 0), .fr 4, none⟩]) <|
 .seq (.seq (.reg [
 ⟨.mov (.fr 3), .fr 5, none⟩]) <|
 .cond (.fr 5)
 (.seq (.seq (.reg [
 ⟨.mov (.fr 4), .fr 6, none⟩]) <|
 .cond (.fr 6)
 (.seq (.reg [
 ⟨.mov (.c (.int .i64 0)), .fr 2, none⟩]) <|
 .ret)
 (.skip)) <|
 .seq (.reg [
 ⟨.mov (.c (.int .i64 (-1))), .fr 2, none⟩]) <|
 .ret)
 (.skip)) <|
 .seq (.seq (.reg [
 ⟨.mov (.fr 4), .fr 7, none⟩]) <|
 .cond (.fr 7)
 (.seq (.reg [
 ⟨.mov (.c (.int .i64 1)), .fr 2, none⟩]) <|
 .ret)
 (.skip)) <|
 .seq (.seq (.reg [
 ⟨.mov (.fr 0), .tm, none⟩,
 ⟨.mov (.fr 1), .tm, none⟩,
 ⟨.bin .lss (.tm 1) (.tm 0), .fr 8, none⟩]) <|
 .cond (.fr 8)
 (.seq (.reg [
 ⟨.mov (.c (.int .i64 (-1))), .fr 2, none⟩]) <|
 .ret)
 (.skip)) <|
 .seq (.seq (.reg [
 ⟨.mov (.fr 0), .tm, none⟩,
 ⟨.mov (.fr 1), .tm, none⟩,
 ⟨.bin .gtr (.tm 1) (.tm 0), .fr 9, none⟩]) <|
 .cond (.fr 9)
 (.seq (.reg [
 ⟨.mov (.c (.int .i64 1)), .fr 2, none⟩]) <|
 .ret)
 (.skip)) <|
 .seq (.reg [
 ⟨.mov (.c (.int .i64 0)), .fr 2, none⟩]) <|
 .ret, [.t 2]⟩
def f266 : AFunc := ⟨[0, 1, 2],
 .seq (.reg [
 ⟨.box 71 3 (.fr 0), .fr 1, none⟩,
 ⟨.mov (.c (.bool false)), .fr 2, none⟩]) <|
 .seq (.reg [
 ⟨.faddr 0 (.fr 1), .tm, none⟩,
 ⟨.load1 (.tm 0), .tm, none⟩,
 ⟨.bslice 2 1 1 [(.int .i64 0)] [(0, 1, (.tm 0))], .tm, none⟩,
 ⟨.callf 267 [(.c (.int .i64 1099511627776)), (.tm 0)], .tm, none⟩,
 ⟨.mov (.tm 0), .tm, none⟩,
 ⟨.faddr 2 (.fr 1), .tm, some ((.tm 0), true)⟩,
 ⟨.load1 (.tm 0), .tm, some ((.tm 1), true)⟩,
 ⟨.bslice 2 1 1 [(.int .i64 0)] [(0, 1, (.tm 0))], .tm, some ((.tm 2), true)⟩,
 ⟨.callf 267 [(.c (.int .i64 1099511627784)), (.tm 0)], .tm, some ((.tm 3), true)⟩,
 ⟨.pick (.tm 4) (.tm 0) (.c (.bool false)), .tm, none⟩,
 ⟨.mov (.tm 0), .tm, none⟩,
 ⟨.faddr 1 (.fr 1), .tm, some ((.tm 0), true)⟩,
 ⟨.load1 (.tm 0), .tm, some ((.tm 1), true)⟩,
 ⟨.bin .add (.tm 0) (.c (.int .i64 1)), .tm, some ((.tm 2), true)⟩,
 ⟨.bslice 2 1 1 [(.int .i64 0)] [(0, 1, (.tm 0))], .tm, some ((.tm 3), true)⟩,
 ⟨.callf 267 [(.c (.int .i64 2)), (.tm 0)], .tm, some ((.tm 4), true)⟩,
 ⟨.pick (.tm 5) (.tm 0) (.c (.bool false)), .tm, none⟩,
 ⟨.mov (.tm 0), .tm, none⟩,
 ⟨.faddr 0 (.fr 1), .tm, some ((.tm 0), true)⟩,
 ⟨.load1 (.tm 0), .tm, some ((.tm 1), true)⟩,
 ⟨.bin .gtr (.tm 0) (.c (.int .i64 0)), .tm, some ((.tm 2), true)⟩,
 ⟨.mov (.tm 0), .tm, some ((.tm 3), true)⟩,
 ⟨.faddr 1 (.fr 1), .tm, some ((.tm 0), false)⟩,
 ⟨.load1 (.tm 0), .tm, some ((.tm 1), false)⟩,
 ⟨.bin .lss (.tm 0) (.c (.int .i64 0)), .tm, some ((.tm 2), false)⟩,
 ⟨.pick (.tm 3) (.c (.bool true)) (.tm 0), .tm, some ((.tm 7), true)⟩,
 ⟨.pick (.tm 8) (.tm 0) (.c (.bool false)), .tm, none⟩,
 ⟨.mov (.tm 0), .fr 2, none⟩]) <|
 .ret, [.t 2]⟩
def f267 : AFunc := ⟨[0, 1, 4, 6, 7, 8, 9, 10, 19],
 .seq (.reg [
 ⟨.mov (.c (.bool false)), .fr 2, none⟩]) <|
 .seq (.seq (.reg [
 ⟨.mov (.fr 1), .fr 4, none⟩,
 ⟨.len false (.fr 4), .fr 5, none⟩,
 ⟨.mov (.c (.int .i64 0)), .fr 6, none⟩]) <|
 .block 0 (.loop (.seq (.reg [
 ⟨.bin .lss (.fr 6) (.fr 5), .fr 7, none⟩]) <|
 .seq (.cond (.fr 7)
 (.skip)
 (.exit 0)) <|
 .seq (.block 1 (.seq (.reg [
 ⟨.iaddr 1 (.fr 4) (.fr 6), .tm, none⟩,
 ⟨.load1 (.tm 0), .tm, none⟩,
 ⟨.mov (.tm 0), .fr 3, none⟩]) <|
 .seq (.reg [
 ⟨.mov (.fr 3), .tm, none⟩,
 ⟨.bin .lss (.tm 0) (.c (.int .i64 0)), .tm, none⟩,
 ⟨.mov (.tm 0), .tm, none⟩,
 ⟨.mov (.fr 3), .tm, some ((.tm 0), false)⟩,
 ⟨.mov (.fr 0), .tm, some ((.tm 1), false)⟩,
 ⟨.bin .gtr (.tm 1) (.tm 0), .tm, some ((.tm 2), false)⟩,
 ⟨.pick (.tm 3) (.c (.bool true)) (.tm 0), .fr 8, none⟩]) <|
 .cond (.fr 8)
 (.seq (.reg [
 ⟨.mov (.c (.bool false)), .fr 2, none⟩]) <|
 .ret)
 (.skip))) <|
 .reg [
 ⟨.bin .add (.fr 6) (.c (.int .i64 1)), .tm, none⟩,
 ⟨.mov (.tm 0), .fr 6, none⟩]))) <|
 .seq (.reg [
 ⟨.mov (.c (.bool true)), .fr 2, none⟩]) <|
 .ret, [.t 2]⟩
def f279 : AFunc := ⟨[0, 1],
 .seq (.reg [
 ⟨.mov (.fr 0), .tm, none⟩,
 ⟨.faddr 0 (.fr 1), .tm, none⟩,
 ⟨.load1 (.tm 0), .tm, none⟩,
 ⟨.callf 197 [(.tm 2), (.tm 0)], .tm, none⟩]) <|
 .seq (.reg [
 ⟨.mov (.fr 0), .tm, none⟩,
 ⟨.faddr 1 (.fr 1), .tm, none⟩,
 ⟨.load1 (.tm 0), .tm, none⟩,
 ⟨.callf 197 [(.tm 2), (.tm 0)], .tm, none⟩]) <|
 .seq (.reg [
 ⟨.mov (.fr 0), .tm, none⟩,
 ⟨.faddr 2 (.fr 1), .tm, none⟩,
 ⟨.load1 (.tm 0), .tm, none⟩,
 ⟨.faddr 3 (.fr 1), .tm, none⟩,
 ⟨.load1 (.tm 0), .tm, none⟩,
 ⟨.bslice 2 1 2 [(.int .i64 0), (.int .i64 0)] [(0, 1, (.tm 2)), (1, 1, (.tm 0))], .tm, none⟩,
 ⟨.callf 280 [(.tm 5), (.tm 0)], .tm, none⟩]) <|
 .seq (.reg [
 ⟨.mov (.fr 0), .tm, none⟩,
 ⟨.faddr 4 (.fr 1), .tm, none⟩,
 ⟨.load1 (.tm 0), .tm, none⟩,
 ⟨.len false (.tm 0), .tm, none⟩,
 ⟨.i2i .u16 (.tm 0), .tm, none⟩,
 ⟨.callf 281 [(.tm 4), (.tm 0)], .tm, none⟩]) <|
 .reg [
 ⟨.mov (.fr 0), .tm, none⟩,
 ⟨.faddr 4 (.fr 1), .tm, none⟩,
 ⟨.load1 (.tm 0), .tm, none⟩,
 ⟨.callf 198 [(.tm 2), (.tm 0)], .tm, none⟩], []⟩
def f282 : AFunc := ⟨[0, 2, 3, 12, 13],
 .seq (.reg [
 ⟨.mov (.c (.bool false)), .fr 1, none⟩]) <|
 .seq (.block 0 (.seq (.seq (.reg [
 ⟨.mov (.fr 0), .tm, none⟩,
 ⟨.bin .lss (.tm 0) (.c (.int .i32 33)), .tm, none⟩,
 ⟨.mov (.tm 0), .fr 2, none⟩]) <|
 .cond (.fr 2)
 (.skip)
 (.reg [
 ⟨.mov (.fr 0), .tm, none⟩,
 ⟨.bin .geq (.tm 0) (.c (.int .i32 127)), .tm, none⟩,
 ⟨.mov (.tm 0), .tm, none⟩,
 ⟨.mov (.fr 0), .tm, some ((.tm 0), true)⟩,
 ⟨.bin .leq (.tm 0) (.c (.int .i32 160)), .tm, some ((.tm 1), true)⟩,
 ⟨.pick (.tm 2) (.tm 0) (.c (.bool false)), .tm, none⟩,
 ⟨.mov (.tm 0), .fr 2, none⟩])) <|
 .cond (.fr 2)
 (.seq (.reg [
 ⟨.mov (.c (.bool false)), .fr 1, none⟩]) <|
 .ret)
 (.skip))) <|
 .seq (.seq (.reg [
 ⟨.mov (.fr 0), .fr 3, none⟩]) <|
 .block 1 (.seq (.seq (.reg [
 ⟨.bin .eql (.fr 3) (.c (.int .i32 58)), .tm, none⟩,
 ⟨.mov (.tm 0), .fr 4, none⟩]) <|
 .cond (.fr 4)
 (.skip)
 (.seq (.reg [
 ⟨.bin .eql (.fr 3) (.c (.int .i32 35)), .tm, none⟩,
 ⟨.mov (.tm 0), .fr 4, none⟩]) <|
 .cond (.fr 4)
 (.skip)
 (.seq (.reg [
 ⟨.bin .eql (.fr 3) (.c (.int .i32 43)), .tm, none⟩,
 ⟨.mov (.tm 0), .fr 4, none⟩]) <|
 .cond (.fr 4)
 (.skip)
 (.seq (.reg [
 ⟨.bin .eql (.fr 3) (.c (.int .i32 45)), .tm, none⟩,
 ⟨.mov (.tm 0), .fr 4, none⟩]) <|
 .cond (.fr 4)
 (.skip)
 (.reg [
 ⟨.bin .eql (.fr 3) (.c (.int .i32 65533)), .tm, none⟩,
 ⟨.mov (.tm 0), .fr 4, none⟩]))))) <|
 .cond (.fr 4)
 (.seq (.reg [
 ⟨.mov (.c (.bool false)), .fr 1, none⟩]) <|
 .ret)
 (.skip))) <|
 .seq (.reg [
 ⟨.mov (.c (.bool true)), .fr 1, none⟩]) <|
 .ret, [.t 1]⟩
def f289 : AFunc := ⟨[0, 1, 4, 5, 8, 13],
 .seq (.reg [
 ⟨.mov (.c (.int .i64 0)), .fr 2, none⟩]) <|
 .seq (.block 0 (.seq (.reg [
 ⟨.mov (.fr 0), .tm, none⟩,
 ⟨.eqv 1 false (.tm 0) (.c (.pointer none)), .tm, none⟩,
 ⟨.mov (.tm 0), .fr 3, none⟩]) <|
 .cond (.fr 3)
 (.seq (.reg [
 ⟨.mov (.c (.int .i64 1)), .fr 2, none⟩]) <|
 .ret)
 (.seq (.reg [
 ⟨.mov (.fr 0), .tm, none⟩,
 ⟨.nilck (.tm 0), .tm, none⟩,
 ⟨.faddr 4 (.tm 0), .tm, none⟩,
 ⟨.load1 (.tm 0), .tm, none⟩,
 ⟨.mov (.tm 0), .fr 4, none⟩]) <|
 .cond (.fr 4)
 (.seq (.reg [
 ⟨.mov (.c (.int .i64 140)), .fr 2, none⟩]) <|
 .ret)
 (.seq (.reg [
 ⟨.mov (.fr 1), .tm, none⟩,
 ⟨.bin .lss (.tm 0) (.c (.int .i64 0)), .tm, none⟩,
 ⟨.mov (.tm 0), .tm, none⟩,
 ⟨.mov (.fr 1), .tm, some ((.tm 0), false)⟩,
 ⟨.mov (.fr 0), .tm, some ((.tm 1), false)⟩,
 ⟨.nilck (.tm 0), .tm, some ((.tm 2), false)⟩,
 ⟨.faddr 0 (.tm 0), .tm, some ((.tm 3), false)⟩,
 ⟨.load1 (.tm 0), .tm, some ((.tm 4), false)⟩,
 ⟨.len false (.tm 0), .tm, some ((.tm 5), false)⟩,
 ⟨.bin .geq (.tm 5) (.tm 0), .tm, some ((.tm 6), false)⟩,
 ⟨.pick (.tm 7) (.c (.bool true)) (.tm 0), .tm, none⟩,
 ⟨.mov (.tm 0), .fr 5, none⟩]) <|
 .cond (.fr 5)
 (.seq (.reg [
 ⟨.mov (.c (.int .i64 2)), .fr 2, none⟩]) <|
 .ret)
 (.skip))))) <|
 .seq (.reg [
 ⟨.mov (.c (.int .i64 0)), .fr 2, none⟩]) <|
 .ret, [.t 2]⟩
def f319 : AFunc := ⟨[0, 1, 2, 3, 4, 5, 26],
 .seq (.reg [
 ⟨.box 40 4 (.fr 0), .fr 2, none⟩,
 ⟨.box 40 4 (.fr 1), .fr 3, none⟩,
 ⟨.new 40 4 [(.int .u64 0), (.int .u32 0), (.int .u32 0), (.slice none 0 0)], .fr 4, none⟩]) <|
 .seq (.reg [
 ⟨.faddr 0 (.fr 2), .tm, none⟩,
 ⟨.load1 (.tm 0), .tm, none⟩,
 ⟨.faddr 0 (.fr 3), .tm, none⟩,
 ⟨.load1 (.tm 0), .tm, none⟩,
 ⟨.bin .or (.tm 2) (.tm 0), .tm, none⟩,
 ⟨.faddr 1 (.fr 2), .tm, none⟩,
 ⟨.load1 (.tm 0), .tm, none⟩,
 ⟨.faddr 1 (.fr 3), .tm, none⟩,
 ⟨.load1 (.tm 0), .tm, none⟩,
 ⟨.bin .and (.tm 2) (.tm 0), .tm, none⟩,
 ⟨.faddr 2 (.fr 2), .tm, none⟩,
 ⟨.load1 (.tm 0), .tm, none⟩,
 ⟨.faddr 2 (.fr 3), .tm, none⟩,
 ⟨.load1 (.tm 0), .tm, none⟩,
 ⟨.bin .and (.tm 2) (.tm 0), .tm, none⟩,
 ⟨.build [(.int .u64 0), (.int .u32 0), (.int .u32 0), (.slice none 0 0)] [(0, 1, (.tm 10)), (1, 1, (.tm 5)), (2, 1, (.tm 0))], .tm, none⟩,
 ⟨.new 40 4 [(.int .u64 0), (.int .u32 0), (.int .u32 0), (.slice none 0 0)], .fr 5, none⟩,
 ⟨.storen 4 (.fr 5) (.tm 0), .no, none⟩]) <|
 .seq (.seq (.reg [
 ⟨.faddr 3 (.fr 2), .tm, none⟩,
 ⟨.load1 (.tm 0), .tm, none⟩,
 ⟨.faddr 3 (.fr 3), .tm, none⟩,
 ⟨.load1 (.tm 0), .tm, none⟩,
 ⟨.callf 321 [(.tm 2), (.tm 0)], .fr 6, none⟩]) <|
 .cond (.fr 6)
 (.reg [
 ⟨.faddr 3 (.fr 2), .tm, none⟩,
 ⟨.load1 (.tm 0), .tm, none⟩,
 ⟨.callf 77 [(.tm 0)], .tm, none⟩,
 ⟨.faddr 3 (.fr 5), .tm, none⟩,
 ⟨.store1 (.tm 0) (.tm 1), .no, none⟩])
 (.skip)) <|
 .seq (.reg [
 ⟨.loadn 4 (.fr 5), .tm, none⟩,
 ⟨.storen 4 (.fr 4) (.tm 0), .no, none⟩]) <|
 .ret, [.cn 4 4]⟩
def f321 : AFunc := ⟨[0, 1, 4, 5, 6, 11, 12, 13, 14, 15, 24],
 .seq (.reg [
 ⟨.mov (.c (.bool false)), .fr 2, none⟩]) <|
 .seq (.seq (.reg [
 ⟨.mov (.fr 0), .tm, none⟩,
 ⟨.len false (.tm 0), .tm, none⟩,
 ⟨.mov (.fr 1), .tm, none⟩,
 ⟨.len false (.tm 0), .tm, none⟩,
 ⟨.bin .neq (.tm 2) (.tm 0), .fr 5, none⟩]) <|
 .cond (.fr 5)
 (.seq (.reg [
 ⟨.mov (.c (.bool false)), .fr 2, none⟩]) <|
 .ret)
 (.skip)) <|
 .seq (.seq (.reg [
 ⟨.mov (.fr 0), .fr 6, none⟩,
 ⟨.len false (.fr 6), .fr 7, none⟩,
 ⟨.mov (.c (.int .i64 0)), .fr 8, none⟩]) <|
 .block 0 (.loop (.seq (.reg [
 ⟨.bin .lss (.fr 8) (.fr 7), .fr 9, none⟩]) <|
 .seq (.cond (.fr 9)
 (.skip)
 (.exit 0)) <|
 .seq (.block 1 (.seq (.reg [
 ⟨.mov (.fr 8), .tm, none⟩,
 ⟨.iaddr 2 (.fr 6) (.fr 8), .tm, none⟩,
 ⟨.loadn 2 (.tm 0), .tm, none⟩,
 ⟨.new 121 2 [(.int .u8 0), (.int .i64 0)], .fr 4, none⟩,
 ⟨.mov (.tm 2), .fr 3, none⟩,
 ⟨.storen 2 (.fr 4) (.tm 0), .no, none⟩]) <|
 .seq (.dreg [
 (⟨.loadn 2 (.fr 4), .tm, none⟩, []),
 (⟨.mov (.fr 1), .tm, none⟩, []),
 (⟨.mov (.fr 3), .tm, none⟩, []),
 (⟨.iaddr 2 (.tm 1) (.tm 0), .tm, none⟩, []),
 (⟨.loadn 2 (.tm 0), .tm, none⟩, []),
 (⟨.eqs [1, 1] true (.tm 4) (.tm 0), .fr 10, none⟩, [])]) <|
 .cond (.fr 10)
 (.seq (.reg [
 ⟨.mov (.c (.bool false)), .fr 2, none⟩]) <|
 .ret)
 (.skip))) <|
 .reg [
 ⟨.bin .add (.fr 8) (.c (.int .i64 1)), .tm, none⟩,
 ⟨.mov (.tm 0), .fr 8, none⟩]))) <|
 .seq (.reg [
 ⟨.mov (.c (.bool true)), .fr 2, none⟩]) <|
 .ret, [.t 2]⟩
def f330 : AFunc := ⟨[0, 1, 4, 18, 24],
 .seq (.reg [
 ⟨.mov (.c (.int .i64 0)), .fr 2, none⟩]) <|
 .seq (.reg [
 ⟨.mov (.fr 0), .tm, none⟩,
 ⟨.nilck (.tm 0), .tm, none⟩,
 ⟨.faddr 2 (.tm 0), .tm, none⟩,
 ⟨.load1 (.tm 0), .tm, none⟩,
 ⟨.bin .add (.tm 0) (.c (.int .i64 1)), .tm, none⟩,
 ⟨.nilck (.tm 4), .tm, none⟩,
 ⟨.faddr 2 (.tm 0), .tm, none⟩,
 ⟨.store1 (.tm 0) (.tm 2), .no, none⟩]) <|
 .seq (.block 0 (.seq (.reg [
 ⟨.mov (.fr 0), .tm, none⟩,
 ⟨.nilck (.tm 0), .tm, none⟩,
 ⟨.faddr 3 (.tm 0), .tm, none⟩,
 ⟨.load1 (.tm 0), .tm, none⟩,
 ⟨.eqv 1 false (.tm 0) (.c (.pointer none)), .tm, none⟩,
 ⟨.mov (.tm 0), .fr 3, none⟩]) <|
 .cond (.fr 3)
 (.skip)
 (.seq (.reg [
 ⟨.mov (.fr 0), .tm, none⟩,
 ⟨.nilck (.tm 0), .tm, none⟩,
 ⟨.faddr 3 (.tm 0), .tm, none⟩,
 ⟨.load1 (.tm 0), .tm, none⟩,
 ⟨.nilck (.tm 0), .tm, none⟩,
 ⟨.load1 (.tm 0), .tm, none⟩,
 ⟨.bin .gtr (.tm 0) (.c (.int .i64 0)), .tm, none⟩,
 ⟨.mov (.tm 0), .fr 4, none⟩]) <|
 .cond (.fr 4)
 (.reg [
 ⟨.mov (.fr 0), .tm, none⟩,
 ⟨.nilck (.tm 0), .tm, none⟩,
 ⟨.faddr 3 (.tm 0), .tm, none⟩,
 ⟨.load1 (.tm 0), .tm, none⟩,
 ⟨.nilck (.tm 0), .tm, none⟩,
 ⟨.load1 (.tm 0), .tm, none⟩,
 ⟨.bin .sub (.tm 0) (.c (.int .i64 1)), .tm, none⟩,
 ⟨.nilck (.tm 3), .tm, none⟩,
 ⟨.store1 (.tm 0) (.tm 1), .no, none⟩])
 (.seq (.reg [
 ⟨.mov (.fr 0), .tm, none⟩,
 ⟨.mov (.fr 0), .tm, none⟩,
 ⟨.nilck (.tm 1), .tm, none⟩,
 ⟨.faddr 3 (.tm 0), .tm, none⟩,
 ⟨.store1 (.tm 0) (.c (.pointer none)), .no, none⟩,
 ⟨.nilck (.tm 2), .tm, none⟩,
 ⟨.faddr 4 (.tm 0), .tm, none⟩,
 ⟨.store1 (.tm 0) (.c (.bool true)), .no, none⟩]) <|
 .seq (.reg [
 ⟨.mov (.c (.int .i64 140)), .fr 2, none⟩]) <|
 .ret)))) <|
 .seq (.reg [
 ⟨.mov (.fr 1), .tm, none⟩,
 ⟨.callv (.tm 0) [], .tm, none⟩]) <|
 .seq (.reg [
 ⟨.mov (.c (.int .i64 0)), .fr 2, none⟩]) <|
 .ret, [.t 2]⟩
def f338 : AFunc := ⟨[0, 2, 4],
 .seq (.reg [
 ⟨.mov (.c (.int .i64 0)), .fr 1, none⟩]) <|
 .seq (.seq (.reg [
 ⟨.mov (.fr 0), .tm, none⟩,
 ⟨.eqv 1 false (.tm 0) (.c (.pointer none)), .fr 2, none⟩]) <|
 .cond (.fr 2)
 (.seq (.reg [
 ⟨.mov (.c (.int .i64 0)), .fr 1, none⟩]) <|
 .ret)
 (.skip)) <|
 .seq (.dreg [
 (⟨.mov (.fr 0), .tm, none⟩, []),
 (⟨.nilck (.tm 0), .tm, none⟩, []),
 (⟨.faddr 0 (.tm 0), .tm, none⟩, []),
 (⟨.load1 (.tm 0), .tm, none⟩, []),
 (⟨.callf 243 [(.tm 0)], .tm, none⟩, []),
 (⟨.mov (.fr 0), .tm, none⟩, []),
 (⟨.nilck (.tm 0), .tm, none⟩, []),
 (⟨.faddr 0 (.tm 0), .tm, none⟩, []),
 (⟨.load1 (.tm 0), .tm, none⟩, [4]),
 (⟨.callf 168 [(.tm 0)], .tm, none⟩, []),
 (⟨.mov (.fr 0), .tm, none⟩, []),
 (⟨.nilck (.tm 0), .tm, none⟩, []),
 (⟨.faddr 0 (.tm 0), .tm, none⟩, []),
 (⟨.load1 (.tm 0), .tm, none⟩, [4, 9]),
 (⟨.callf 246 [(.tm 0)], .tm, none⟩, []),
 (⟨.bin .sub (.tm 5) (.tm 0), .tm, none⟩, []),
 (⟨.bin .sub (.tm 11) (.tm 0), .tm, none⟩, []),
 (⟨.mov (.tm 0), .fr 1, none⟩, [])]) <|
 .ret, [.t 1]⟩
def f343 : AFunc := ⟨[0, 1, 4, 6, 16],
 .seq (.reg [
 ⟨.mov (.c (.slice none 0 0)), .fr 2, none⟩]) <|
 .seq (.seq (.reg [
 ⟨.mov (.fr 1), .tm, none⟩,
 ⟨.bin .lss (.tm 0) (.c (.int .i64 0)), .fr 3, none⟩]) <|
 .cond (.fr 3)
 (.reg [
 ⟨.iface 9 (.c (.string ⟨#[99, 97, 110, 110, 111, 116, 32, 98, 101, 32, 110, 101, 103, 97, 116, 105, 118, 101]⟩)), .tm, none⟩,
 ⟨.bad, .no, none⟩])
 (.skip)) <|
 .seq (.seq (.reg [
 ⟨.mov (.fr 1), .tm, none⟩,
 ⟨.mov (.fr 0), .tm, none⟩,
 ⟨.cap (.tm 0), .tm, none⟩,
 ⟨.mov (.fr 0), .tm, none⟩,
 ⟨.len false (.tm 0), .tm, none⟩,
 ⟨.bin .sub (.tm 2) (.tm 0), .tm, none⟩,
 ⟨.bin .sub (.tm 5) (.tm 0), .tm, none⟩,
 ⟨.mov (.tm 0), .fr 1, none⟩]) <|
 .seq (.reg [
 ⟨.mov (.fr 1), .tm, none⟩,
 ⟨.bin .gtr (.tm 0) (.c (.int .i64 0)), .fr 4, none⟩]) <|
 .cond (.fr 4)
 (.reg [
 ⟨.mov (.fr 0), .tm, none⟩,
 ⟨.mov (.fr 0), .tm, none⟩,
 ⟨.cap (.tm 0), .tm, none⟩,
 ⟨.slsl 1 (.tm 2) none (some (.tm 0)) none, .tm, none⟩,
 ⟨.mov (.fr 1), .tm, none⟩,
 ⟨.appz 5 1 1 [(.int .u8 0)] (.tm 1) (.tm 0), .tm, none⟩,
 ⟨.mov (.fr 0), .tm, none⟩,
 ⟨.len false (.tm 0), .tm, none⟩,
 ⟨.slsl 1 (.tm 2) none (some (.tm 0)) none, .tm, none⟩,
 ⟨.mov (.tm 0), .fr 0, none⟩])
 (.skip)) <|
 .seq (.reg [
 ⟨.mov (.fr 0), .tm, none⟩,
 ⟨.mov (.tm 0), .fr 2, none⟩]) <|
 .ret, [.t 2]⟩
def f344 : AFunc := ⟨[0, 1, 4, 5, 7, 8, 9, 16],
 .seq (.reg [
 ⟨.mov (.c (.int .i64 0)), .fr 2, none⟩]) <|
 .seq (.seq (.reg [
 ⟨.mov (.fr 0), .tm, none⟩,
 ⟨.len false (.tm 0), .fr 4, none⟩,
 ⟨.mov (.c (.int .i64 0)), .fr 5, none⟩]) <|
 .block 0 (.loop (.seq (.reg [
 ⟨.bin .lss (.fr 5) (.fr 4), .fr 6, none⟩]) <|
 .seq (.cond (.fr 6)
 (.skip)
 (.exit 0)) <|
 .seq (.block 1 (.seq (.reg [
 ⟨.mov (.fr 5), .tm, none⟩,
 ⟨.mov (.tm 0), .fr 3, none⟩]) <|
 .seq (.reg [
 ⟨.mov (.fr 1), .tm, none⟩,
 ⟨.mov (.fr 0), .tm, none⟩,
 ⟨.mov (.fr 3), .tm, none⟩,
 ⟨.iaddr 1 (.tm 1) (.tm 0), .tm, none⟩,
 ⟨.load1 (.tm 0), .tm, none⟩,
 ⟨.callv (.tm 4) [(.tm 0)], .fr 7, none⟩]) <|
 .cond (.fr 7)
 (.seq (.reg [
 ⟨.mov (.fr 3), .tm, none⟩,
 ⟨.mov (.tm 0), .fr 2, none⟩]) <|
 .ret)
 (.skip))) <|
 .reg [
 ⟨.bin .add (.fr 5) (.c (.int .i64 1)), .tm, none⟩,
 ⟨.mov (.tm 0), .fr 5, none⟩]))) <|
 .seq (.reg [
 ⟨.mov (.c (.int .i64 (-1))), .fr 2, none⟩]) <|
 .ret, [.t 2]⟩
def f383 : AFunc := ⟨[0, 1, 4, 5, 6, 7, 8, 9, 10, 11, 18],
 .seq (.reg [
 ⟨.mov (.c (.int .u64 0)), .fr 2, none⟩]) <|
 .seq (.reg [
 ⟨.mov (.c (.int .u64 0)), .fr 3, none⟩]) <|
 .seq (.seq (.reg [
 ⟨.mov (.fr 0), .fr 6, none⟩,
 ⟨.len false (.fr 6), .fr 7, none⟩,
 ⟨.mov (.c (.int .i64 0)), .fr 8, none⟩]) <|
 .block 0 (.loop (.seq (.reg [
 ⟨.bin .lss (.fr 8) (.fr 7), .fr 9, none⟩]) <|
 .seq (.cond (.fr 9)
 (.skip)
 (.exit 0)) <|
 .seq (.block 1 (.seq (.reg [
 ⟨.mov (.fr 8), .tm, none⟩,
 ⟨.iaddr 6 (.fr 6) (.fr 8), .tm, none⟩,
 ⟨.loadn 6 (.tm 0), .tm, none⟩,
 ⟨.new 472 6 [(.int .u64 0), (.int .u64 0), (.int .u64 0), (.int .u32 0), (.int .u32 0), (.int .u64 0)], .fr 5, none⟩,
 ⟨.mov (.tm 2), .fr 4, none⟩,
 ⟨.storen 6 (.fr 5) (.tm 0), .no, none⟩]) <|
 .seq (.reg [
 ⟨.mov (.fr 1), .tm, none⟩,
 ⟨.mov (.fr 4), .tm, none⟩,
 ⟨.loadn 6 (.fr 5), .tm, none⟩,
 ⟨.callv (.tm 2) [(.tm 1), (.tm 0)], .fr 10, none⟩]) <|
 .cond (.fr 10)
 (.reg [
 ⟨.mov (.fr 3), .tm, none⟩,
 ⟨.mov (.fr 4), .tm, none⟩,
 ⟨.callf 308 [(.tm 1), (.tm 0)], .tm, none⟩,
 ⟨.mov (.tm 0), .fr 3, none⟩])
 (.skip))) <|
 .reg [
 ⟨.bin .add (.fr 8) (.c (.int .i64 1)), .tm, none⟩,
 ⟨.mov (.tm 0), .fr 8, none⟩]))) <|
 .seq (.reg [
 ⟨.mov (.fr 3), .tm, none⟩,
 ⟨.mov (.tm 0), .fr 2, none⟩]) <|
 .ret, [.t 2]⟩
def f386 : AFunc := ⟨[0, 1, 4, 5, 6, 7, 8, 9, 10, 11, 18],
 .seq (.reg [
 ⟨.mov (.c (.int .u64 0)), .fr 2, none⟩]) <|
 .seq (.reg [
 ⟨.mov (.c (.int .u64 0)), .fr 3, none⟩]) <|
 .seq (.seq (.reg [
 ⟨.mov (.fr 0), .fr 6, none⟩,
 ⟨.len false (.fr 6), .fr 7, none⟩,
 ⟨.mov (.c (.int .i64 0)), .fr 8, none⟩]) <|
 .block 0 (.loop (.seq (.reg [
 ⟨.bin .lss (.fr 8) (.fr 7), .fr 9, none⟩]) <|
 .seq (.cond (.fr 9)
 (.skip)
 (.exit 0)) <|
 .seq (.block 1 (.seq (.reg [
 ⟨.mov (.fr 8), .tm, none⟩,
 ⟨.iaddr 1 (.fr 6) (.fr 8), .tm, none⟩,
 ⟨.load1 (.tm 0), .tm, none⟩,
 ⟨.mov (.tm 2), .fr 4, none⟩,
 ⟨.mov (.tm 0), .fr 5, none⟩]) <|
 .seq (.reg [
 ⟨.mov (.fr 1), .tm, none⟩,
 ⟨.mov (.fr 4), .tm, none⟩,
 ⟨.mov (.fr 5), .tm, none⟩,
 ⟨.callv (.tm 2) [(.tm 1), (.tm 0)], .fr 10, none⟩]) <|
 .cond (.fr 10)
 (.reg [
 ⟨.mov (.fr 3), .tm, none⟩,
 ⟨.mov (.fr 4), .tm, none⟩,
 ⟨.callf 308 [(.tm 1), (.tm 0)], .tm, none⟩,
 ⟨.mov (.tm 0), .fr 3, none⟩])
 (.skip))) <|
 .reg [
 ⟨.bin .add (.fr 8) (.c (.int .i64 1)), .tm, none⟩,
 ⟨.mov (.tm 0), .fr 8, none⟩]))) <|
 .seq (.reg [
 ⟨.mov (.fr 3), .tm, none⟩,
 ⟨.mov (.tm 0), .fr 2, none⟩]) <|
 .ret, [.t 2]⟩
def f391 : AFunc := ⟨[0, 1, 2, 3, 6, 7, 8, 9, 11, 12, 13, 14, 20],
 .seq (.reg [
 ⟨.box 411 5 (.fr 0), .fr 3, none⟩,
 ⟨.mov (.c (.int .u32 0)), .fr 4, none⟩]) <|
 .seq (.reg [
 ⟨.mov (.c (.int .u32 0)), .fr 5, none⟩]) <|
 .seq (.seq (.reg [
 ⟨.faddr 0 (.fr 3), .tm, none⟩,
 ⟨.load1 (.tm 0), .fr 8, none⟩,
 ⟨.len false (.fr 8), .fr 9, none⟩,
 ⟨.mov (.c (.int .i64 0)), .fr 10, none⟩]) <|
 .block 0 (.loop (.seq (.reg [
 ⟨.bin .lss (.fr 10) (.fr 9), .fr 11, none⟩]) <|
 .seq (.cond (.fr 11)
 (.skip)
 (.exit 0)) <|
 .seq (.block 1 (.seq (.reg [
 ⟨.mov (.fr 10), .tm, none⟩,
 ⟨.iaddr 6 (.fr 8) (.fr 10), .tm, none⟩,
 ⟨.loadn 6 (.tm 0), .tm, none⟩,
 ⟨.new 472 6 [(.int .u64 0), (.int .u64 0), (.int .u64 0), (.int .u32 0), (.int .u32 0), (.int .u64 0)], .fr 7, none⟩,
 ⟨.mov (.tm 2), .fr 6, none⟩,
 ⟨.storen 6 (.fr 7) (.tm 0), .no, none⟩]) <|
 .seq (.reg [
 ⟨.mov (.fr 1), .tm, none⟩,
 ⟨.mov (.fr 6), .tm, none⟩,
 ⟨.callf 390 [(.tm 1), (.tm 0)], .fr 12, none⟩]) <|
 .cond (.fr 12)
 (.reg [
 ⟨.mov (.fr 5), .tm, none⟩,
 ⟨.mov (.fr 2), .tm, none⟩,
 ⟨.loadn 6 (.fr 7), .tm, none⟩,
 ⟨.callv (.tm 1) [(.tm 0)], .tm, none⟩,
 ⟨.bin .or (.tm 3) (.tm 0), .tm, none⟩,
 ⟨.mov (.tm 0), .fr 5, none⟩])
 (.skip))) <|
 .reg [
 ⟨.bin .add (.fr 10) (.c (.int .i64 1)), .tm, none⟩,
 ⟨.mov (.tm 0), .fr 10, none⟩]))) <|
 .seq (.reg [
 ⟨.mov (.fr 5), .tm, none⟩,
 ⟨.mov (.tm 0), .fr 4, none⟩]) <|
 .ret, [.t 4]⟩
def f394 : AFunc := ⟨[0, 1, 2, 3, 6, 7, 8, 9, 11, 12, 13, 14, 20],
 .seq (.reg [
 ⟨.box 411 5 (.fr 0), .fr 3, none⟩,
 ⟨.mov (.c (.int .u64 0)), .fr 4, none⟩]) <|
 .seq (.reg [
 ⟨.mov (.c (.int .u64 0)), .fr 5, none⟩]) <|
 .seq (.seq (.reg [
 ⟨.faddr 0 (.fr 3), .tm, none⟩,
 ⟨.load1 (.tm 0), .fr 8, none⟩,
 ⟨.len false (.fr 8), .fr 9, none⟩,
 ⟨.mov (.c (.int .i64 0)), .fr 10, none⟩]) <|
 .block 0 (.loop (.seq (.reg [
 ⟨.bin .lss (.fr 10) (.fr 9), .fr 11, none⟩]) <|
 .seq (.cond (.fr 11)
 (.skip)
 (.exit 0)) <|
 .seq (.block 1 (.seq (.reg [
 ⟨.mov (.fr 10), .tm, none⟩,
 ⟨.iaddr 6 (.fr 8) (.fr 10), .tm, none⟩,
 ⟨.loadn 6 (.tm 0), .tm, none⟩,
 ⟨.new 472 6 [(.int .u64 0), (.int .u64 0), (.int .u64 0), (.int .u32 0), (.int .u32 0), (.int .u64 0)], .fr 7, none⟩,
 ⟨.mov (.tm 2), .fr 6, none⟩,
 ⟨.storen 6 (.fr 7) (.tm 0), .no, none⟩]) <|
 .seq (.reg [
 ⟨.mov (.fr 1), .tm, none⟩,
 ⟨.mov (.fr 6), .tm, none⟩,
 ⟨.callf 390 [(.tm 1), (.tm 0)], .fr 12, none⟩]) <|
 .cond (.fr 12)
 (.reg [
 ⟨.mov (.fr 5), .tm, none⟩,
 ⟨.mov (.fr 2), .tm, none⟩,
 ⟨.loadn 6 (.fr 7), .tm, none⟩,
 ⟨.callv (.tm 1) [(.tm 0)], .tm, none⟩,
 ⟨.bin .or (.tm 3) (.tm 0), .tm, none⟩,
 ⟨.mov (.tm 0), .fr 5, none⟩])
 (.skip))) <|
 .reg [
 ⟨.bin .add (.fr 10) (.c (.int .i64 1)), .tm, none⟩,
 ⟨.mov (.tm 0), .fr 10, none⟩]))) <|
 .seq (.reg [
 ⟨.mov (.fr 5), .tm, none⟩,
 ⟨.mov (.tm 0), .fr 4, none⟩]) <|
 .ret, [.t 4]⟩
theorem f5_ok : compF Go.Proofs.Tryz.prog 0 [0] 5 = some f5 := by kernel_rfl
theorem f5_n : argsOK Go.Proofs.Tryz.prog 5 0 = true := by kernel_rfl
theorem f11_ok : compF Go.Proofs.Tryz.prog 0 [0, 2, 3, 4, 6, 13, 14, 15] 11 = some f11 := by kernel_rfl
theorem f11_n : argsOK Go.Proofs.Tryz.prog 11 1 = true := by kernel_rfl
theorem f28_ok : compF Go.Proofs.Tryz.prog 0 [0, 2, 3, 9] 28 = some f28 := by kernel_rfl
theorem f28_n : argsOK Go.Proofs.Tryz.prog 28 1 = true := by kernel_rfl
theorem f51_ok : compF Go.Proofs.Tryz.prog 0 [0, 1, 2, 6, 31] 51 = some f51 := by kernel_rfl
theorem f51_n : argsOK Go.Proofs.Tryz.prog 51 3 = true := by kernel_rfl
theorem f74_ok : compF Go.Proofs.Tryz.prog 0 [0, 1, 2, 6, 7, 8] 74 = some f74 := by kernel_rfl
theorem f74_n : argsOK Go.Proofs.Tryz.prog 74 3 = true := by kernel_rfl
theorem f75_ok : compF Go.Proofs.Tryz.prog 0 [0, 1, 2, 6, 7, 18] 75 = some f75 := by kernel_rfl
theorem f75_n : argsOK Go.Proofs.Tryz.prog 75 3 = true := by kernel_rfl
theorem f76_ok : compF Go.Proofs.Tryz.prog 0 [0, 1, 3, 4, 5, 8] 76 = some f76 := by kernel_rfl
theorem f76_n : argsOK Go.Proofs.Tryz.prog 76 2 = true := by kernel_rfl
theorem f83_ok : compF Go.Proofs.Tryz.prog 0 [0, 2, 3, 6] 83 = some f83 := by kernel_rfl
theorem f83_n : argsOK Go.Proofs.Tryz.prog 83 1 = true := by kernel_rfl
theorem f87_ok : compF Go.Proofs.Tryz.prog 0 [0, 1, 4] 87 = some f87 := by kernel_rfl
theorem f87_n : argsOK Go.Proofs.Tryz.prog 87 2 = true := by kernel_rfl
theorem f91_ok : compF Go.Proofs.Tryz.prog 0 [0, 1, 2, 6, 7, 10, 16] 91 = some f91 := by kernel_rfl
theorem f91_n : argsOK Go.Proofs.Tryz.prog 91 3 = true := by kernel_rfl
theorem f92_ok : compF Go.Proofs.Tryz.prog 0 [0, 1, 2, 6, 7, 16] 92 = some f92 := by kernel_rfl
theorem f92_n : argsOK Go.Proofs.Tryz.prog 92 3 = true := by kernel_rfl
theorem f93_ok : compF Go.Proofs.Tryz.prog 0 [0, 2, 3, 6, 11] 93 = some f93 := by kernel_rfl
theorem f93_n : argsOK Go.Proofs.Tryz.prog 93 1 = true := by kernel_rfl
theorem f94_ok : compF Go.Proofs.Tryz.prog 0 [0, 1, 20] 94 = some f94 := by kernel_rfl
theorem f94_n : argsOK Go.Proofs.Tryz.prog 94 2 = true := by kernel_rfl
theorem f95_ok : compF Go.Proofs.Tryz.prog 0 [0, 1, 4, 5, 7] 95 = some f95 := by kernel_rfl
theorem f95_n : argsOK Go.Proofs.Tryz.prog 95 2 = true := by kernel_rfl
theorem f100_ok : compF Go.Proofs.Tryz.prog 0 [0, 1, 2, 3, 8, 9, 26] 100 = some f100 := by kernel_rfl
theorem f100_n : argsOK Go.Proofs.Tryz.prog 100 4 = true := by kernel_rfl
theorem f104_ok : compF Go.Proofs.Tryz.prog 0 [0, 1, 2, 5, 15] 104 = some f104 := by kernel_rfl
theorem f104_n : argsOK Go.Proofs.Tryz.prog 104 3 = true := by kernel_rfl
theorem f109_ok : compF Go.Proofs.Tryz.prog 0 [0, 1, 2, 3, 4, 7, 13] 109 = some f109 := by kernel_rfl
theorem f109_n : argsOK Go.Proofs.Tryz.prog 109 1 = true := by kernel_rfl
theorem f114_ok : compF Go.Proofs.Tryz.prog 0 [0, 2, 3, 4, 5, 6, 13] 114 = some f114 := by kernel_rfl
theorem f114_n : argsOK Go.Proofs.Tryz.prog 114 1 = true := by kernel_rfl
theorem f118_ok : compF Go.Proofs.Tryz.prog 0 [0, 1, 3, 4, 5, 6, 7, 8, 9, 11] 118 = some f118 := by kernel_rfl
theorem f118_n : argsOK Go.Proofs.Tryz.prog 118 2 = true := by kernel_rfl
theorem f123_ok : compF Go.Proofs.Tryz.prog 0 [0, 1, 4, 5, 8] 123 = some f123 := by kernel_rfl
theorem f123_n : argsOK Go.Proofs.Tryz.prog 123 2 = true := by kernel_rfl
theorem f131_ok : compF Go.Proofs.Tryz.prog 0 [0, 1, 2, 3, 4] 131 = some f131 := by kernel_rfl
theorem f131_n : argsOK Go.Proofs.Tryz.prog 131 2 = true := by kernel_rfl
theorem f132_ok : compF Go.Proofs.Tryz.prog 0 [0, 1, 2, 3, 5, 8, 9, 12, 19] 132 = some f132 := by kernel_rfl
theorem f132_n : argsOK Go.Proofs.Tryz.prog 132 4 = true := by kernel_rfl
theorem f145_ok : compF Go.Proofs.Tryz.prog 0 [0, 1, 4] 145 = some f145 := by kernel_rfl
theorem f145_n : argsOK Go.Proofs.Tryz.prog 145 2 = true := by kernel_rfl
theorem f149_ok : compF Go.Proofs.Tryz.prog 0 [0, 1, 4, 5, 6, 8, 24] 149 = some f149 := by kernel_rfl
theorem f149_n : argsOK Go.Proofs.Tryz.prog 149 2 = true := by kernel_rfl
theorem f152_ok : compF Go.Proofs.Tryz.prog 0 [0, 1, 4, 5, 15] 152 = some f152 := by kernel_rfl
theorem f152_n : argsOK Go.Proofs.Tryz.prog 152 2 = true := by kernel_rfl
theorem f160_ok : compF Go.Proofs.Tryz.prog 0 [0, 1, 4, 5, 7, 8, 9, 16] 160 = some f160 := by kernel_rfl
theorem f160_n : argsOK Go.Proofs.Tryz.prog 160 2 = true := by kernel_rfl
theorem f180_ok : compF Go.Proofs.Tryz.prog 0 [0, 1, 2, 3, 4, 5, 12] 180 = some f180 := by kernel_rfl
theorem f180_n : argsOK Go.Proofs.Tryz.prog 180 1 = true := by kernel_rfl
theorem f181_ok : compF Go.Proofs.Tryz.prog 0 [0, 2, 3, 4, 7, 15] 181 = some f181 := by kernel_rfl
theorem f181_n : argsOK Go.Proofs.Tryz.prog 181 1 = true := by kernel_rfl
theorem f182_ok : compF Go.Proofs.Tryz.prog 0 [0, 2, 3, 4, 7, 15] 182 = some f182 := by kernel_rfl
theorem f182_n : argsOK Go.Proofs.Tryz.prog 182 1 = true := by kernel_rfl
theorem f192_ok : compF Go.Proofs.Tryz.prog 0 [0, 1, 2] 192 = some f192 := by kernel_rfl
theorem f192_n : argsOK Go.Proofs.Tryz.prog 192 1 = true := by kernel_rfl
theorem f201_ok : compF Go.Proofs.Tryz.prog 0 [0, 1, 2, 3, 6, 20] 201 = some f201 := by kernel_rfl
theorem f201_n : argsOK Go.Proofs.Tryz.prog 201 3 = true := by kernel_rfl
theorem f204_ok : compF Go.Proofs.Tryz.prog 0 [0, 1, 2, 6, 7, 8, 10] 204 = some f204 := by kernel_rfl
theorem f204_n : argsOK Go.Proofs.Tryz.prog 204 3 = true := by kernel_rfl
theorem f210_ok : compF Go.Proofs.Tryz.prog 0 [0, 1, 2, 6, 7, 8, 9, 13, 14, 15, 33] 210 = some f210 := by kernel_rfl
theorem f210_n : argsOK Go.Proofs.Tryz.prog 210 3 = true := by kernel_rfl
theorem f211_ok : compF Go.Proofs.Tryz.prog 0 [0, 1, 2] 211 = some f211 := by kernel_rfl
theorem f211_n : argsOK Go.Proofs.Tryz.prog 211 2 = true := by kernel_rfl
theorem f213_ok : compF Go.Proofs.Tryz.prog 0 [0, 1, 2] 213 = some f213 := by kernel_rfl
theorem f213_n : argsOK Go.Proofs.Tryz.prog 213 2 = true := by kernel_rfl
theorem f216_ok : compF Go.Proofs.Tryz.prog 0 [0, 2, 3, 6] 216 = some f216 := by kernel_rfl
theorem f216_n : argsOK Go.Proofs.Tryz.prog 216 1 = true := by kernel_rfl
theorem f217_ok : compF Go.Proofs.Tryz.prog 0 [0, 2, 3, 12] 217 = some f217 := by kernel_rfl
theorem f217_n : argsOK Go.Proofs.Tryz.prog 217 1 = true := by kernel_rfl
theorem f225_ok : compF Go.Proofs.Tryz.prog 0 [0, 2, 3, 5, 7, 8, 9, 13] 225 = some f225 := by kernel_rfl
theorem f225_n : argsOK Go.Proofs.Tryz.prog 225 1 = true := by kernel_rfl
theorem f226_ok : compF Go.Proofs.Tryz.prog 0 [0, 1, 2, 6, 8, 18] 226 = some f226 := by kernel_rfl
theorem f226_n : argsOK Go.Proofs.Tryz.prog 226 3 = true := by kernel_rfl
theorem f227_ok : compF Go.Proofs.Tryz.prog 0 [0, 1, 4, 6, 7, 8, 9, 10, 19] 227 = some f227 := by kernel_rfl
theorem f227_n : argsOK Go.Proofs.Tryz.prog 227 2 = true := by kernel_rfl
theorem f228_ok : compF Go.Proofs.Tryz.prog 0 [0, 1, 4, 5, 6, 7, 8, 9, 10, 23] 228 = some f228 := by kernel_rfl
theorem f228_n : argsOK Go.Proofs.Tryz.prog 228 2 = true := by kernel_rfl
theorem f229_ok : compF Go.Proofs.Tryz.prog 0 [0, 1, 3, 4, 5, 6, 7, 8, 9, 10, 18] 229 = some f229 := by kernel_rfl
theorem f229_n : argsOK Go.Proofs.Tryz.prog 229 2 = true := by kernel_rfl
theorem f232_ok : compF Go.Proofs.Tryz.prog 0 [0, 1, 3, 4, 5, 6, 7, 8, 9, 10, 18] 232 = some f232 := by kernel_rfl
theorem f232_n : argsOK Go.Proofs.Tryz.prog 232 2 = true := by kernel_rfl
theorem f235_ok : compF Go.Proofs.Tryz.prog 0 [0, 1, 4, 6, 16] 235 = some f235 := by kernel_rfl
theorem f235_n : argsOK Go.Proofs.Tryz.prog 235 2 = true := by kernel_rfl
theorem f236_ok : compF Go.Proofs.Tryz.prog 0 [0, 1, 4, 6, 16] 236 = some f236 := by kernel_rfl
theorem f236_n : argsOK Go.Proofs.Tryz.prog 236 2 = true := by kernel_rfl
theorem f240_ok : compF Go.Proofs.Tryz.prog 0 [0, 1, 4, 5, 6, 9, 15, 25] 240 = some f240 := by kernel_rfl
theorem f240_n : argsOK Go.Proofs.Tryz.prog 240 2 = true := by kernel_rfl
theorem f242_ok : compF Go.Proofs.Tryz.prog 0 [0, 1, 2, 6, 22] 242 = some f242 := by kernel_rfl
theorem f242_n : argsOK Go.Proofs.Tryz.prog 242 3 = true := by kernel_rfl
theorem f244_ok : compF Go.Proofs.Tryz.prog 0 [0, 1, 4, 5, 6, 8, 9] 244 = some f244 := by kernel_rfl
theorem f244_n : argsOK Go.Proofs.Tryz.prog 244 2 = true := by kernel_rfl
theorem f245_ok : compF Go.Proofs.Tryz.prog 0 [0, 1, 4, 5, 6, 8, 9, 10, 25] 245 = some f245 := by kernel_rfl
theorem f245_n : argsOK Go.Proofs.Tryz.prog 245 2 = true := by kernel_rfl
theorem f247_ok : compF Go.Proofs.Tryz.prog 0 [0, 1, 4, 5, 22] 247 = some f247 := by kernel_rfl
theorem f247_n : argsOK Go.Proofs.Tryz.prog 247 2 = true := by kernel_rfl
theorem f253_ok : compF Go.Proofs.Tryz.prog 0 [0, 1, 4, 5, 7, 8, 9, 16] 253 = some f253 := by kernel_rfl
theorem f253_n : argsOK Go.Proofs.Tryz.prog 253 2 = true := by kernel_rfl
theorem f258_ok : compF Go.Proofs.Tryz.prog 0 [0, 1, 2, 3, 5, 7, 8, 9, 10, 21] 258 = some f258 := by kernel_rfl
theorem f258_n : argsOK Go.Proofs.Tryz.prog 258 1 = true := by kernel_rfl
theorem f259_ok : compF Go.Proofs.Tryz.prog 0 [0, 2, 3, 5, 6, 7, 8, 9, 14] 259 = some f259 := by kernel_rfl
theorem f259_n : argsOK Go.Proofs.Tryz.prog 259 1 = true := by kernel_rfl
theorem f260_ok : compF Go.Proofs.Tryz.prog 0 [0, 1, 4, 5, 6, 11, 12, 13, 16, 19] 260 = some f260 := by kernel_rfl
theorem f260_n : argsOK Go.Proofs.Tryz.prog 260 2 = true := by kernel_rfl
theorem f266_ok : compF Go.Proofs.Tryz.prog 0 [0, 1, 2] 266 = some f266 := by kernel_rfl
theorem f266_n : argsOK Go.Proofs.Tryz.prog 266 1 = true := by kernel_rfl
theorem f267_ok : compF Go.Proofs.Tryz.prog 0 [0, 1, 4, 6, 7, 8, 9, 10, 19] 267 = some f267 := by kernel_rfl
theorem f267_n : argsOK Go.Proofs.Tryz.prog 267 2 = true := by kernel_rfl
theorem f279_ok : compF Go.Proofs.Tryz.prog 0 [0, 1] 279 = some f279 := by kernel_rfl
theorem f279_n : argsOK Go.Proofs.Tryz.prog 279 2 = true := by kernel_rfl
theorem f282_ok : compF Go.Proofs.Tryz.prog 0 [0, 2, 3, 12, 13] 282 = some f282 := by kernel_rfl
theorem f282_n : argsOK Go.Proofs.Tryz.prog 282 1 = true := by kernel_rfl
theorem f289_ok : compF Go.Proofs.Tryz.prog 0 [0, 1, 4, 5, 8, 13] 289 = some f289 := by kernel_rfl
theorem f289_n : argsOK Go.Proofs.Tryz.prog 289 2 = true := by kernel_rfl
theorem f319_ok : compF Go.Proofs.Tryz.prog 0 [0, 1, 2, 3, 4, 5, 26] 319 = some f319 := by kernel_rfl
theorem f319_n : argsOK Go.Proofs.Tryz.prog 319 2 = true := by kernel_rfl
theorem f321_ok : compF Go.Proofs.Tryz.prog 0 [0, 1, 4, 5, 6, 11, 12, 13, 14, 15, 24] 321 = some f321 := by kernel_rfl
theorem f321_n : argsOK Go.Proofs.Tryz.prog 321 2 = true := by kernel_rfl
theorem f330_ok : compF Go.Proofs.Tryz.prog 0 [0, 1, 4, 18, 24] 330 = some f330 := by kernel_rfl
theorem f330_n : argsOK Go.Proofs.Tryz.prog 330 2 = true := by kernel_rfl
theorem f338_ok : compF Go.Proofs.Tryz.prog 0 [0, 2, 4] 338 = some f338 := by kernel_rfl
theorem f338_n : argsOK Go.Proofs.Tryz.prog 338 1 = true := by kernel_rfl
theorem f343_ok : compF Go.Proofs.Tryz.prog 0 [0, 1, 4, 6, 16] 343 = some f343 := by kernel_rfl
theorem f343_n : argsOK Go.Proofs.Tryz.prog 343 2 = true := by kernel_rfl
theorem f344_ok : compF Go.Proofs.Tryz.prog 0 [0, 1, 4, 5, 7, 8, 9, 16] 344 = some f344 := by kernel_rfl
theorem f344_n : argsOK Go.Proofs.Tryz.prog 344 2 = true := by kernel_rfl
theorem f383_ok : compF Go.Proofs.Tryz.prog 0 [0, 1, 4, 5, 6, 7, 8, 9, 10, 11, 18] 383 = some f383 := by kernel_rfl
theorem f383_n : argsOK Go.Proofs.Tryz.prog 383 2 = true := by kernel_rfl
theorem f386_ok : compF Go.Proofs.Tryz.prog 0 [0, 1, 4, 5, 6, 7, 8, 9, 10, 11, 18] 386 = some f386 := by kernel_rfl
theorem f386_n : argsOK Go.Proofs.Tryz.prog 386 2 = true := by kernel_rfl
theorem f391_ok : compF Go.Proofs.Tryz.prog 0 [0, 1, 2, 3, 6, 7, 8, 9, 11, 12, 13, 14, 20] 391 = some f391 := by kernel_rfl
theorem f391_n : argsOK Go.Proofs.Tryz.prog 391 3 = true := by kernel_rfl
theorem f394_ok : compF Go.Proofs.Tryz.prog 0 [0, 1, 2, 3, 6, 7, 8, 9, 11, 12, 13, 14, 20] 394 = some f394 := by kernel_rfl
theorem f394_n : argsOK Go.Proofs.Tryz.prog 394 3 = true := by kernel_rfl
end Go.AM.F

set_option maxRecDepth 100000
namespace Go.AM.F
def Z70X : List Value := [(.int .i64 0), (.int .i64 0), (.int .u64 0), (.int .u64 0), (.int .u64 0)] ++ List.replicate 64 (.int .u8 0) ++ [(.int .u32 0)]
def Z68X : List Value := [(.int .u64 0), (.int .u64 0), (.int .u64 0)] ++ List.replicate 64 (.int .u8 0) ++ [(.int .u32 0)]
def f23 : AFunc := ⟨[0, 1, 2, 3, 4, 5, 6, 9],
 .seq (.reg [
 ⟨.mov (.c (.bool false)), .fr 0, none⟩]) <|
 .seq (.reg [
 ⟨.callf 59 [], .tm, none⟩,
 ⟨.mov (.tm 0), .fr 1, none⟩]) <|
 .seq (.seq (.reg [
 ⟨.mov (.fr 1), .tm, none⟩,
 ⟨.eqv 1 false (.tm 0) (.c (.pointer none)), .fr 7, none⟩]) <|
 .cond (.fr 7)
 (.seq (.reg [
 ⟨.mov (.c (.bool false)), .fr 0, none⟩]) <|
 .ret)
 (.skip)) <|
 .seq (.reg [
 ⟨.mov (.fr 1), .tm, none⟩,
 ⟨.build [(.int .u8 0), (.int .i64 0)] [(0, 1, (.c (.int .u8 1)))], .tm, none⟩,
 ⟨.bslice 121 2 1 [(.int .u8 0), (.int .i64 0)] [(0, 2, (.tm 0))], .tm, none⟩,
 ⟨.build [(.int .u64 0), (.int .u32 0), (.int .u32 0), (.slice none 0 0)] [(1, 1, (.c (.int .u32 1))), (3, 1, (.tm 0))], .tm, none⟩,
 ⟨.callf 60 [(.tm 3), (.tm 0)], .tm, none⟩]) <|
 .seq (.reg [
 ⟨.mov (.fr 1), .tm, none⟩,
 ⟨.callf 7 [(.tm 0)], .tm, none⟩,
 ⟨.mov (.tm 0), .tm, none⟩,
 ⟨.extract (.tm 0) 0, .tm, none⟩,
 ⟨.extract (.tm 1) 1, .tm, none⟩,
 ⟨.new 49 2 [(.int .u64 0), (.int .u32 0)], .fr 2, none⟩,
 ⟨.storen 2 (.fr 2) (.tm 1), .no, none⟩,
 ⟨.mov (.tm 0), .fr 3, none⟩]) <|
 .seq (.reg [
 ⟨.mov (.fr 1), .tm, none⟩,
 ⟨.callf 11 [(.tm 0)], .tm, none⟩,
 ⟨.mov (.tm 0), .fr 4, none⟩]) <|
 .seq (.reg [
 ⟨.mov (.fr 1), .tm, none⟩,
 ⟨.callf 9 [(.tm 0), (.c (.int .i64 0))], .tm, none⟩,
 ⟨.mov (.tm 0), .tm, none⟩,
 ⟨.extract (.tm 0) 0, .tm, none⟩,
 ⟨.extract (.tm 1) 1, .tm, none⟩,
 ⟨.new 53 70 Z70X, .fr 5, none⟩,
 ⟨.storen 70 (.fr 5) (.tm 1), .no, none⟩,
 ⟨.mov (.tm 0), .fr 6, none⟩]) <|
 .seq (.dreg [
 (⟨.mov (.fr 1), .tm, none⟩, []),
 (⟨.callf 15 [(.tm 0), (.c (.int .i64 0))], .tm, none⟩, []),
 (⟨.mov (.tm 0), .tm, none⟩, []),
 (⟨.faddr 0 (.fr 2), .tm, some ((.tm 0), true)⟩, []),
 (⟨.load1 (.tm 0), .tm, some ((.tm 1), true)⟩, []),
 (⟨.bin .eql (.tm 0) (.c (.int .u64 1)), .tm, some ((.tm 2), true)⟩, []),
 (⟨.pick (.tm 3) (.tm 0) (.c (.bool false)), .tm, none⟩, []),
 (⟨.mov (.tm 0), .tm, none⟩, []),
 (⟨.mov (.fr 3), .tm, some ((.tm 0), true)⟩, []),
 (⟨.un .not (.tm 0), .tm, some ((.tm 1), true)⟩, []),
 (⟨.pick (.tm 2) (.tm 0) (.c (.bool false)), .tm, none⟩, []),
 (⟨.mov (.tm 0), .tm, none⟩, []),
 (⟨.mov (.fr 4), .tm, some ((.tm 0), true)⟩, []),
 (⟨.len false (.tm 0), .tm, some ((.tm 1), true)⟩, []),
 (⟨.bin .eql (.tm 0) (.c (.int .i64 1)), .tm, some ((.tm 2), true)⟩, []),
 (⟨.pick (.tm 3) (.tm 0) (.c (.bool false)), .tm, none⟩, []),
 (⟨.mov (.tm 0), .tm, none⟩, []),
 (⟨.mov (.fr 4), .tm, some ((.tm 0), true)⟩, []),
 (⟨.iaddr 10 (.tm 0) (.c (.int .i64 0)), .tm, some ((.tm 1), true)⟩, []),
 (⟨.faddr 7 (.tm 0), .tm, some ((.tm 2), true)⟩, []),
 (⟨.load1 (.tm 0), .tm, some ((.tm 3), true)⟩, []),
 (⟨.un .not (.tm 0), .tm, some ((.tm 4), true)⟩, []),
 (⟨.pick (.tm 5) (.tm 0) (.c (.bool false)), .tm, none⟩, []),
 (⟨.mov (.tm 0), .tm, none⟩, []),
 (⟨.mov (.fr 4), .tm, some ((.tm 0), true)⟩, []),
 (⟨.iaddr 10 (.tm 0) (.c (.int .i64 0)), .tm, some ((.tm 1), true)⟩, []),
 (⟨.faddr 8 (.tm 0), .tm, some ((.tm 2), true)⟩, []),
 (⟨.loadn 2 (.tm 0), .tm, some ((.tm 3), true)⟩, []),
 (⟨.loadn 2 (.fr 2), .tm, some ((.tm 4), true)⟩, []),
 (⟨.eqs [1, 1] false (.tm 1) (.tm 0), .tm, some ((.tm 5), true)⟩, []),
 (⟨.pick (.tm 6) (.tm 0) (.c (.bool false)), .tm, none⟩, []),
 (⟨.mov (.tm 0), .tm, none⟩, []),
 (⟨.mov (.fr 1), .tm, some ((.tm 0), true)⟩, []),
 (⟨.callf 12 [(.tm 0)], .tm, some ((.tm 1), true)⟩, []),
 (⟨.bin .eql (.tm 0) (.c (.int .i64 1)), .tm, some ((.tm 2), true)⟩, []),
 (⟨.pick (.tm 3) (.tm 0) (.c (.bool false)), .tm, none⟩, []),
 (⟨.mov (.tm 0), .tm, none⟩, []),
 (⟨.mov (.fr 6), .tm, some ((.tm 0), true)⟩, []),
 (⟨.pick (.tm 1) (.tm 0) (.c (.bool false)), .tm, none⟩, []),
 (⟨.mov (.tm 0), .tm, none⟩, []),
 (⟨.faddr 2 (.fr 5), .tm, some ((.tm 0), true)⟩, []),
 (⟨.faddr 0 (.tm 0), .tm, some ((.tm 1), true)⟩, []),
 (⟨.load1 (.tm 0), .tm, some ((.tm 2), true)⟩, []),
 (⟨.bin .eql (.tm 0) (.c (.int .u64 1)), .tm, some ((.tm 3), true)⟩, []),
 (⟨.pick (.tm 4) (.tm 0) (.c (.bool false)), .tm, none⟩, []),
 (⟨.mov (.tm 0), .fr 0, none⟩, [])]) <|
 .ret, [.t 0]⟩
def f26 : AFunc := ⟨[0, 1, 2, 3, 4, 23, 24, 25],
 .seq (.reg [
 ⟨.box 33 4 (.fr 0), .fr 1, none⟩,
 ⟨.new 33 4 [(.slice none 0 0), (.slice none 0 0), (.slice none 0 0), (.slice none 0 0)], .fr 2, none⟩]) <|
 .seq (.dreg [
 (⟨.faddr 0 (.fr 1), .tm, none⟩, []),
 (⟨.load1 (.tm 0), .tm, none⟩, []),
 (⟨.callf 67 [(.tm 0)], .tm, none⟩, []),
 (⟨.faddr 1 (.fr 1), .tm, none⟩, []),
 (⟨.load1 (.tm 0), .tm, none⟩, [2]),
 (⟨.callf 68 [(.tm 0)], .tm, none⟩, []),
 (⟨.faddr 2 (.fr 1), .tm, none⟩, []),
 (⟨.load1 (.tm 0), .tm, none⟩, [2, 5]),
 (⟨.callf 69 [(.tm 0)], .tm, none⟩, []),
 (⟨.faddr 0 (.fr 1), .tm, none⟩, []),
 (⟨.store1 (.tm 0) (.tm 7), .no, none⟩, []),
 (⟨.faddr 1 (.fr 1), .tm, none⟩, []),
 (⟨.store1 (.tm 0) (.tm 5), .no, none⟩, []),
 (⟨.faddr 2 (.fr 1), .tm, none⟩, []),
 (⟨.store1 (.tm 0) (.tm 3), .no, none⟩, [])]) <|
 .seq (.reg [
 ⟨.faddr 3 (.fr 1), .tm, none⟩,
 ⟨.load1 (.tm 0), .tm, none⟩,
 ⟨.callf 70 [(.tm 0)], .tm, none⟩,
 ⟨.faddr 3 (.fr 1), .tm, none⟩,
 ⟨.store1 (.tm 0) (.tm 1), .no, none⟩]) <|
 .seq (.seq (.reg [
 ⟨.faddr 3 (.fr 1), .tm, none⟩,
 ⟨.load1 (.tm 0), .tm, none⟩,
 ⟨.len false (.tm 0), .fr 5, none⟩,
 ⟨.mov (.c (.int .i64 0)), .fr 6, none⟩]) <|
 .block 0 (.loop (.seq (.reg [
 ⟨.bin .lss (.fr 6) (.fr 5), .fr 7, none⟩]) <|
 .seq (.cond (.fr 7)
 (.skip)
 (.exit 0)) <|
 .seq (.block 1 (.seq (.reg [
 ⟨.mov (.fr 6), .tm, none⟩,
 ⟨.mov (.tm 0), .fr 3, none⟩]) <|
 .seq (.reg [
 ⟨.faddr 3 (.fr 1), .tm, none⟩,
 ⟨.load1 (.tm 0), .tm, none⟩,
 ⟨.mov (.fr 3), .tm, none⟩,
 ⟨.iaddr 6 (.tm 1) (.tm 0), .tm, none⟩,
 ⟨.mov (.tm 0), .fr 4, none⟩]) <|
 .dreg [
 (⟨.mov (.fr 4), .tm, none⟩, []),
 (⟨.mov (.fr 4), .tm, none⟩, []),
 (⟨.mov (.fr 4), .tm, none⟩, []),
 (⟨.mov (.fr 4), .tm, none⟩, []),
 (⟨.mov (.fr 4), .tm, none⟩, []),
 (⟨.nilck (.tm 0), .tm, none⟩, []),
 (⟨.faddr 2 (.tm 0), .tm, none⟩, []),
 (⟨.load1 (.tm 0), .tm, none⟩, []),
 (⟨.callf 71 [(.tm 0)], .tm, none⟩, []),
 (⟨.mov (.fr 4), .tm, none⟩, []),
 (⟨.nilck (.tm 0), .tm, none⟩, []),
 (⟨.faddr 3 (.tm 0), .tm, none⟩, []),
 (⟨.load1 (.tm 0), .tm, none⟩, [8]),
 (⟨.callf 72 [(.tm 0)], .tm, none⟩, []),
 (⟨.mov (.fr 4), .tm, none⟩, []),
 (⟨.nilck (.tm 0), .tm, none⟩, []),
 (⟨.faddr 4 (.tm 0), .tm, none⟩, []),
 (⟨.load1 (.tm 0), .tm, none⟩, [8, 13]),
 (⟨.callf 71 [(.tm 0)], .tm, none⟩, []),
 (⟨.mov (.fr 4), .tm, none⟩, []),
 (⟨.nilck (.tm 0), .tm, none⟩, []),
 (⟨.faddr 5 (.tm 0), .tm, none⟩, []),
 (⟨.load1 (.tm 0), .tm, none⟩, [8, 13, 18]),
 (⟨.callf 72 [(.tm 0)], .tm, none⟩, []),
 (⟨.nilck (.tm 23), .tm, none⟩, []),
 (⟨.faddr 2 (.tm 0), .tm, none⟩, []),
 (⟨.store1 (.tm 0) (.tm 17), .no, none⟩, []),
 (⟨.nilck (.tm 24), .tm, none⟩, []),
 (⟨.faddr 3 (.tm 0), .tm, none⟩, []),
 (⟨.store1 (.tm 0) (.tm 14), .no, none⟩, []),
 (⟨.nilck (.tm 25), .tm, none⟩, []),
 (⟨.faddr 4 (.tm 0), .tm, none⟩, []),
 (⟨.store1 (.tm 0) (.tm 11), .no, none⟩, []),
 (⟨.nilck (.tm 26), .tm, none⟩, []),
 (⟨.faddr 5 (.tm 0), .tm, none⟩, []),
 (⟨.store1 (.tm 0) (.tm 8), .no, none⟩, [])])) <|
 .reg [
 ⟨.bin .add (.fr 6) (.c (.int .i64 1)), .tm, none⟩,
 ⟨.mov (.tm 0), .fr 6, none⟩]))) <|
 .seq (.reg [
 ⟨.loadn 4 (.fr 1), .tm, none⟩,
 ⟨.storen 4 (.fr 2) (.tm 0), .no, none⟩]) <|
 .ret, [.cn 4 2]⟩
def f43 : AFunc := ⟨[0, 1, 2, 5, 6, 7, 8, 18, 35, 36, 38, 40, 55, 97],
 .seq (.reg [
 ⟨.box 47 77 (.fr 2), .fr 3, none⟩]) <|
 .seq (.reg [
 ⟨.mov (.fr 1), .tm, none⟩,
 ⟨.nilck (.tm 0), .tm, none⟩,
 ⟨.faddr 0 (.tm 0), .tm, none⟩,
 ⟨.load1 (.tm 0), .tm, none⟩,
 ⟨.nilck (.tm 0), .tm, none⟩,
 ⟨.faddr 7 (.tm 0), .tm, none⟩,
 ⟨.load1 (.tm 0), .tm, none⟩,
 ⟨.len false (.tm 0), .tm, none⟩,
 ⟨.mov (.tm 0), .fr 4, none⟩]) <|
 .seq (.seq (.reg [
 ⟨.mov (.fr 4), .tm, none⟩,
 ⟨.bin .eql (.tm 0) (.c (.int .i64 0)), .fr 7, none⟩]) <|
 .cond (.fr 7)
 (.ret)
 (.skip)) <|
 .seq (.reg [
 ⟨.faddr 2 (.fr 3), .tm, none⟩,
 ⟨.load1 (.tm 0), .tm, none⟩,
 ⟨.mov (.fr 4), .tm, none⟩,
 ⟨.callf 30 [(.tm 1), (.tm 0)], .tm, none⟩,
 ⟨.mov (.tm 0), .fr 5, none⟩]) <|
 .seq (.reg [
 ⟨.mov (.fr 1), .tm, none⟩,
 ⟨.nilck (.tm 0), .tm, none⟩,
 ⟨.faddr 0 (.tm 0), .tm, none⟩,
 ⟨.load1 (.tm 0), .tm, none⟩,
 ⟨.nilck (.tm 0), .tm, none⟩,
 ⟨.faddr 7 (.tm 0), .tm, none⟩,
 ⟨.load1 (.tm 0), .tm, none⟩,
 ⟨.mov (.fr 5), .tm, none⟩,
 ⟨.iaddr 7 (.tm 1) (.tm 0), .tm, none⟩,
 ⟨.loadn 7 (.tm 0), .tm, none⟩,
 ⟨.new 178 7 [(.int .i64 0), (.int .i64 0), (.int .i64 0), (.int .u64 0), (.int .u32 0), (.int .u32 0), (.slice none 0 0)], .fr 6, none⟩,
 ⟨.storen 7 (.fr 6) (.tm 0), .no, none⟩]) <|
 .seq (.reg [
 ⟨.faddr 0 (.fr 3), .tm, none⟩,
 ⟨.load1 (.tm 0), .tm, none⟩,
 ⟨.bin .rem (.tm 0) (.c (.int .u8 17)), .fr 8, none⟩]) <|
 .block 0 (.seq (.block 3 (.seq (.block 2 (.seq (.block 1 (.seq (.seq (.seq (.reg [
 ⟨.bin .eql (.fr 8) (.c (.int .u8 2)), .tm, none⟩,
 ⟨.mov (.tm 0), .fr 9, none⟩]) <|
 .cond (.fr 9)
 (.exit 1)
 (.skip)) <|
 .seq (.seq (.reg [
 ⟨.bin .eql (.fr 8) (.c (.int .u8 3)), .tm, none⟩,
 ⟨.mov (.tm 0), .fr 10, none⟩]) <|
 .cond (.fr 10)
 (.exit 2)
 (.skip)) <|
 .seq (.reg [
 ⟨.bin .eql (.fr 8) (.c (.int .u8 4)), .tm, none⟩,
 ⟨.mov (.tm 0), .fr 11, none⟩]) <|
 .cond (.fr 11)
 (.exit 3)
 (.skip)) <|
 .exit 0)) <|
 .seq (.dreg [
 (⟨.mov (.fr 1), .tm, none⟩, []),
 (⟨.nilck (.tm 0), .tm, none⟩, []),
 (⟨.faddr 0 (.tm 0), .tm, none⟩, []),
 (⟨.load1 (.tm 0), .tm, none⟩, []),
 (⟨.nilck (.tm 0), .tm, none⟩, []),
 (⟨.faddr 0 (.tm 0), .tm, none⟩, []),
 (⟨.load1 (.tm 0), .tm, none⟩, []),
 (⟨.faddr 0 (.fr 6), .tm, none⟩, []),
 (⟨.load1 (.tm 0), .tm, none⟩, []),
 (⟨.faddr 1 (.fr 6), .tm, none⟩, []),
 (⟨.loadn 6 (.tm 0), .tm, none⟩, []),
 (⟨.iface 176 (.tm 0), .tm, none⟩, []),
 (⟨.callf 91 [(.tm 5), (.tm 3), (.tm 0)], .tm, none⟩, []),
 (⟨.bin .eql (.tm 0) (.c (.int .i64 0)), .fr 12, none⟩, [])]) <|
 .cond (.fr 12)
 (.dreg [
 (⟨.mov (.fr 1), .tm, none⟩, []),
 (⟨.nilck (.tm 0), .tm, none⟩, []),
 (⟨.faddr 0 (.tm 0), .tm, none⟩, []),
 (⟨.load1 (.tm 0), .tm, none⟩, []),
 (⟨.faddr 0 (.fr 6), .tm, none⟩, []),
 (⟨.load1 (.tm 0), .tm, none⟩, []),
 (⟨.mov (.fr 1), .tm, none⟩, []),
 (⟨.nilck (.tm 0), .tm, none⟩, []),
 (⟨.faddr 0 (.tm 0), .tm, none⟩, []),
 (⟨.load1 (.tm 0), .tm, none⟩, []),
 (⟨.faddr 0 (.fr 6), .tm, none⟩, []),
 (⟨.load1 (.tm 0), .tm, none⟩, []),
 (⟨.nilck (.tm 2), .tm, none⟩, []),
 (⟨.faddr 8 (.tm 0), .tm, none⟩, []),
 (⟨.iaddrp 1 2 (.tm 0) (.tm 2), .tm, none⟩, []),
 (⟨.load1 (.tm 0), .tm, none⟩, []),
 (⟨.faddr 1 (.fr 6), .tm, none⟩, []),
 (⟨.faddr 1 (.tm 0), .tm, none⟩, []),
 (⟨.load1 (.tm 0), .tm, none⟩, []),
 (⟨.mm true (.tm 3) (.tm 0), .tm, none⟩, []),
 (⟨.nilck (.tm 16), .tm, none⟩, []),
 (⟨.faddr 8 (.tm 0), .tm, none⟩, []),
 (⟨.iaddrp 1 2 (.tm 0) (.tm 16), .tm, none⟩, []),
 (⟨.store1 (.tm 0) (.tm 3), .no, none⟩, [])])
 (.skip))) <|
 .seq (.dreg [
 (⟨.mov (.fr 1), .tm, none⟩, []),
 (⟨.nilck (.tm 0), .tm, none⟩, []),
 (⟨.faddr 0 (.tm 0), .tm, none⟩, []),
 (⟨.load1 (.tm 0), .tm, none⟩, []),
 (⟨.mov (.fr 1), .tm, none⟩, []),
 (⟨.nilck (.tm 0), .tm, none⟩, []),
 (⟨.faddr 0 (.tm 0), .tm, none⟩, []),
 (⟨.load1 (.tm 0), .tm, none⟩, []),
 (⟨.nilck (.tm 0), .tm, none⟩, []),
 (⟨.faddr 7 (.tm 0), .tm, none⟩, []),
 (⟨.load1 (.tm 0), .tm, none⟩, []),
 (⟨.mov (.fr 5), .tm, none⟩, []),
 (⟨.mov (.fr 5), .tm, none⟩, []),
 (⟨.bin .add (.tm 0) (.c (.int .i64 1)), .tm, none⟩, []),
 (⟨.callf 92 [(.tm 3), (.tm 2), (.tm 0)], .tm, none⟩, [3]),
 (⟨.nilck (.tm 11), .tm, none⟩, []),
 (⟨.faddr 7 (.tm 0), .tm, none⟩, []),
 (⟨.store1 (.tm 0) (.tm 2), .no, none⟩, [])]) <|
 .exit 0)) <|
 .seq (.seq (.reg [
 ⟨.mov (.fr 4), .tm, none⟩,
 ⟨.bin .lss (.tm 0) (.c (.int .i64 16)), .fr 13, none⟩]) <|
 .cond (.fr 13)
 (.dreg [
 (⟨.mov (.fr 1), .tm, none⟩, []),
 (⟨.nilck (.tm 0), .tm, none⟩, []),
 (⟨.faddr 0 (.tm 0), .tm, none⟩, []),
 (⟨.load1 (.tm 0), .tm, none⟩, []),
 (⟨.mov (.fr 1), .tm, none⟩, []),
 (⟨.nilck (.tm 0), .tm, none⟩, []),
 (⟨.faddr 0 (.tm 0), .tm, none⟩, []),
 (⟨.load1 (.tm 0), .tm, none⟩, []),
 (⟨.nilck (.tm 0), .tm, none⟩, []),
 (⟨.faddr 7 (.tm 0), .tm, none⟩, []),
 (⟨.load1 (.tm 0), .tm, none⟩, []),
 (⟨.loadn 7 (.fr 6), .tm, none⟩, []),
 (⟨.bslice 178 7 1 [(.int .i64 0), (.int .i64 0), (.int .i64 0), (.int .u64 0), (.int .u32 0), (.int .u32 0), (.slice none 0 0)] [(0, 7, (.tm 0))], .tm, none⟩, []),
 (⟨.app 178 7 64 (.tm 2) (.tm 0), .tm, none⟩, [3]),
 (⟨.nilck (.tm 10), .tm, none⟩, []),
 (⟨.faddr 7 (.tm 0), .tm, none⟩, []),
 (⟨.store1 (.tm 0) (.tm 2), .no, none⟩, [])])
 (.skip)) <|
 .exit 0), []⟩
def f61 : AFunc := ⟨[0, 1, 2, 3, 4, 6, 7, 8, 9, 10, 17, 25, 26, 27, 28, 62, 63, 64, 65],
 .seq (.reg [
 ⟨.box 33 4 (.fr 0), .fr 1, none⟩,
 ⟨.mov (.c (.pointer none)), .fr 2, none⟩,
 ⟨.mov (.c (.int .i64 0)), .fr 3, none⟩]) <|
 .seq (.seq (.reg [
 ⟨.loadn 4 (.fr 1), .tm, none⟩,
 ⟨.callf 109 [(.tm 0)], .tm, none⟩,
 ⟨.mov (.tm 0), .tm, none⟩,
 ⟨.extract (.tm 0) 0, .tm, none⟩,
 ⟨.extract (.tm 1) 1, .tm, none⟩,
 ⟨.mov (.tm 1), .fr 4, none⟩,
 ⟨.mov (.tm 0), .tm, none⟩]) <|
 .seq (.reg [
 ⟨.mov (.fr 4), .tm, none⟩,
 ⟨.bin .neq (.tm 0) (.c (.int .i64 0)), .fr 10, none⟩]) <|
 .cond (.fr 10)
 (.seq (.reg [
 ⟨.mov (.fr 4), .tm, none⟩,
 ⟨.mov (.c (.pointer none)), .fr 2, none⟩,
 ⟨.mov (.tm 0), .fr 3, none⟩]) <|
 .ret)
 (.skip)) <|
 .seq (.reg [
 ⟨.faddr 0 (.fr 1), .tm, none⟩,
 ⟨.load1 (.tm 0), .tm, none⟩,
 ⟨.len false (.tm 0), .tm, none⟩,
 ⟨.build [(.slice none 0 0), (.slice none 0 0), (.int .i64 0), (.int .u32 0)] [(2, 1, (.tm 0))], .tm, none⟩,
 ⟨.box 200 4 (.tm 0), .tm, none⟩,
 ⟨.mov (.tm 0), .fr 5, none⟩]) <|
 .seq (.seq (.reg [
 ⟨.faddr 3 (.fr 1), .tm, none⟩,
 ⟨.load1 (.tm 0), .fr 11, none⟩,
 ⟨.len false (.fr 11), .fr 12, none⟩,
 ⟨.mov (.c (.int .i64 0)), .fr 13, none⟩]) <|
 .block 0 (.loop (.seq (.reg [
 ⟨.bin .lss (.fr 13) (.fr 12), .fr 14, none⟩]) <|
 .seq (.cond (.fr 14)
 (.skip)
 (.exit 0)) <|
 .seq (.block 1 (.seq (.reg [
 ⟨.mov (.fr 13), .tm, none⟩,
 ⟨.iaddr 6 (.fr 11) (.fr 13), .tm, none⟩,
 ⟨.loadn 6 (.tm 0), .tm, none⟩,
 ⟨.new 93 6 [(.string ByteArray.empty), (.int .i64 0), (.slice none 0 0), (.slice none 0 0), (.slice none 0 0), (.slice none 0 0)], .fr 7, none⟩,
 ⟨.mov (.tm 2), .fr 6, none⟩,
 ⟨.storen 6 (.fr 7) (.tm 0), .no, none⟩]) <|
 .dreg [
 (⟨.mov (.fr 5), .tm, none⟩, []),
 (⟨.mov (.fr 5), .tm, none⟩, []),
 (⟨.nilck (.tm 0), .tm, none⟩, []),
 (⟨.faddr 0 (.tm 0), .tm, none⟩, []),
 (⟨.load1 (.tm 0), .tm, none⟩, []),
 (⟨.faddr 2 (.fr 7), .tm, none⟩, []),
 (⟨.load1 (.tm 0), .tm, none⟩, []),
 (⟨.iaddr 1 (.tm 0) (.c (.int .i64 0)), .tm, none⟩, []),
 (⟨.load1 (.tm 0), .tm, none⟩, []),
 (⟨.faddr 2 (.fr 1), .tm, none⟩, []),
 (⟨.load1 (.tm 0), .tm, none⟩, []),
 (⟨.faddr 1 (.fr 7), .tm, none⟩, []),
 (⟨.load1 (.tm 0), .tm, none⟩, []),
 (⟨.iaddr 2 (.tm 2) (.tm 0), .tm, none⟩, []),
 (⟨.faddr 1 (.tm 0), .tm, none⟩, []),
 (⟨.load1 (.tm 0), .tm, none⟩, []),
 (⟨.loadn 6 (.fr 7), .tm, none⟩, []),
 (⟨.callf 110 [(.tm 0)], .tm, none⟩, [4, 6, 8, 10, 12, 15]),
 (⟨.loadn 6 (.fr 7), .tm, none⟩, [17]),
 (⟨.callf 111 [(.tm 0)], .tm, none⟩, [4, 6, 8, 10, 12, 15]),
 (⟨.loadn 4 (.fr 1), .tm, none⟩, [17, 19]),
 (⟨.mov (.fr 6), .tm, none⟩, []),
 (⟨.callf 112 [(.tm 1), (.tm 0)], .tm, none⟩, [4, 6, 8, 10, 12, 15]),
 (⟨.build [(.int .i64 0), (.int .i64 0), (.slice none 0 0), (.slice none 0 0), (.slice none 0 0)] [(0, 1, (.tm 14)), (1, 1, (.tm 7)), (2, 1, (.tm 5)), (3, 1, (.tm 3)), (4, 1, (.tm 0))], .tm, none⟩, []),
 (⟨.bslice 205 5 1 [(.int .i64 0), (.int .i64 0), (.slice none 0 0), (.slice none 0 0), (.slice none 0 0)] [(0, 5, (.tm 0))], .tm, none⟩, []),
 (⟨.app 205 5 88 (.tm 20) (.tm 0), .tm, none⟩, []),
 (⟨.nilck (.tm 25), .tm, none⟩, []),
 (⟨.faddr 0 (.tm 0), .tm, none⟩, []),
 (⟨.store1 (.tm 0) (.tm 2), .no, none⟩, [])])) <|
 .reg [
 ⟨.bin .add (.fr 13) (.c (.int .i64 1)), .tm, none⟩,
 ⟨.mov (.tm 0), .fr 13, none⟩]))) <|
 .seq (.seq (.reg [
 ⟨.faddr 1 (.fr 1), .tm, none⟩,
 ⟨.load1 (.tm 0), .fr 15, none⟩,
 ⟨.len false (.fr 15), .fr 16, none⟩,
 ⟨.mov (.c (.int .i64 0)), .fr 17, none⟩]) <|
 .block 2 (.loop (.seq (.reg [
 ⟨.bin .lss (.fr 17) (.fr 16), .fr 18, none⟩]) <|
 .seq (.cond (.fr 18)
 (.skip)
 (.exit 2)) <|
 .seq (.block 3 (.seq (.reg [
 ⟨.mov (.fr 17), .tm, none⟩,
 ⟨.iaddr 2 (.fr 15) (.fr 17), .tm, none⟩,
 ⟨.loadn 2 (.tm 0), .tm, none⟩,
 ⟨.new 27 2 [(.string ByteArray.empty), (.int .i64 0)], .fr 9, none⟩,
 ⟨.mov (.tm 2), .fr 8, none⟩,
 ⟨.storen 2 (.fr 9) (.tm 0), .no, none⟩]) <|
 .seq (.dreg [
 (⟨.mov (.fr 5), .tm, none⟩, []),
 (⟨.mov (.fr 5), .tm, none⟩, []),
 (⟨.nilck (.tm 0), .tm, none⟩, []),
 (⟨.faddr 1 (.tm 0), .tm, none⟩, []),
 (⟨.load1 (.tm 0), .tm, none⟩, []),
 (⟨.faddr 1 (.fr 9), .tm, none⟩, []),
 (⟨.load1 (.tm 0), .tm, none⟩, []),
 (⟨.bslice 3 1 1 [(.int .i64 0)] [(0, 1, (.tm 0))], .tm, none⟩, []),
 (⟨.app 3 1 8 (.tm 3) (.tm 0), .tm, none⟩, []),
 (⟨.nilck (.tm 8), .tm, none⟩, []),
 (⟨.faddr 1 (.tm 0), .tm, none⟩, []),
 (⟨.store1 (.tm 0) (.tm 2), .no, none⟩, [])]) <|
 .dreg [
 (⟨.mov (.fr 5), .tm, none⟩, []),
 (⟨.nilck (.tm 0), .tm, none⟩, []),
 (⟨.faddr 3 (.tm 0), .tm, none⟩, []),
 (⟨.load1 (.tm 0), .tm, none⟩, []),
 (⟨.mov (.fr 8), .tm, none⟩, []),
 (⟨.bin .shl (.c (.int .u32 1)) (.tm 0), .tm, none⟩, []),
 (⟨.bin .or (.tm 2) (.tm 0), .tm, none⟩, []),
 (⟨.nilck (.tm 6), .tm, none⟩, []),
 (⟨.faddr 3 (.tm 0), .tm, none⟩, []),
 (⟨.store1 (.tm 0) (.tm 2), .no, none⟩, [])])) <|
 .reg [
 ⟨.bin .add (.fr 17) (.c (.int .i64 1)), .tm, none⟩,
 ⟨.mov (.tm 0), .fr 17, none⟩]))) <|
 .seq (.reg [
 ⟨.mov (.fr 5), .tm, none⟩,
 ⟨.mov (.tm 0), .fr 2, none⟩,
 ⟨.mov (.c (.int .i64 0)), .fr 3, none⟩]) <|
 .ret, [.t 2, .t 3]⟩
def f85 : AFunc := ⟨[0, 1, 2, 6, 7, 8, 12, 22, 64, 77, 99],
 .seq (.seq (.reg [
 ⟨.mov (.fr 1), .tm, none⟩,
 ⟨.nilck (.tm 0), .tm, none⟩,
 ⟨.faddr 13 (.tm 0), .tm, none⟩,
 ⟨.load1 (.tm 0), .fr 6, none⟩]) <|
 .cond (.fr 6)
 (.ret)
 (.skip)) <|
 .seq (.reg [
 ⟨.new 232 2 [(.int .i64 0), (.int .i64 0)], .fr 3, none⟩]) <|
 .seq (.reg [
 ⟨.mov (.c (.int .i64 0)), .fr 4, none⟩]) <|
 .seq (.reg [
 ⟨.mov (.fr 1), .tm, none⟩,
 ⟨.nilck (.tm 0), .tm, none⟩,
 ⟨.faddr 0 (.tm 0), .tm, none⟩,
 ⟨.load1 (.tm 0), .tm, none⟩,
 ⟨.nilck (.tm 0), .tm, none⟩,
 ⟨.faddr 1 (.tm 0), .tm, none⟩,
 ⟨.load1 (.tm 0), .tm, none⟩,
 ⟨.callf 99 [(.tm 0)], .tm, none⟩,
 ⟨.mov (.tm 0), .fr 5, none⟩]) <|
 .seq (.seq (.reg [
 ⟨.mov (.fr 2), .tm, none⟩,
 ⟨.bin .eql (.tm 0) (.c (.int .u8 1)), .fr 7, none⟩]) <|
 .cond (.fr 7)
 (.dreg [
 (⟨.mov (.fr 0), .tm, none⟩, []),
 (⟨.mov (.fr 0), .tm, none⟩, []),
 (⟨.nilck (.tm 0), .tm, none⟩, []),
 (⟨.faddr 7 (.tm 0), .tm, none⟩, []),
 (⟨.loadn 3 (.tm 0), .tm, none⟩, []),
 (⟨.mov (.fr 1), .tm, none⟩, []),
 (⟨.nilck (.tm 0), .tm, none⟩, []),
 (⟨.faddr 1 (.tm 0), .tm, none⟩, []),
 (⟨.load1 (.tm 0), .tm, none⟩, []),
 (⟨.mov (.fr 0), .tm, none⟩, []),
 (⟨.nilck (.tm 0), .tm, none⟩, []),
 (⟨.faddr 10 (.tm 0), .tm, none⟩, []),
 (⟨.load1 (.tm 0), .tm, none⟩, []),
 (⟨.callf 134 [(.tm 8), (.tm 4), (.tm 0)], .tm, none⟩, []),
 (⟨.mov (.tm 0), .tm, none⟩, []),
 (⟨.extract (.tm 0) 0, .tm, none⟩, []),
 (⟨.extract (.tm 1) 1, .tm, none⟩, []),
 (⟨.extract (.tm 2) 2, .tm, none⟩, []),
 (⟨.nilck (.tm 17), .tm, none⟩, []),
 (⟨.faddr 7 (.tm 0), .tm, none⟩, []),
 (⟨.storen 3 (.tm 0) (.tm 4), .no, none⟩, []),
 (⟨.storen 2 (.fr 3) (.tm 3), .no, none⟩, []),
 (⟨.mov (.tm 2), .fr 4, none⟩, [])])
 (.dreg [
 (⟨.mov (.fr 0), .tm, none⟩, []),
 (⟨.mov (.fr 0), .tm, none⟩, []),
 (⟨.nilck (.tm 0), .tm, none⟩, []),
 (⟨.faddr 7 (.tm 0), .tm, none⟩, []),
 (⟨.loadn 3 (.tm 0), .tm, none⟩, []),
 (⟨.mov (.fr 1), .tm, none⟩, []),
 (⟨.nilck (.tm 0), .tm, none⟩, []),
 (⟨.faddr 1 (.tm 0), .tm, none⟩, []),
 (⟨.load1 (.tm 0), .tm, none⟩, []),
 (⟨.mov (.fr 5), .tm, none⟩, []),
 (⟨.mov (.fr 0), .tm, none⟩, []),
 (⟨.nilck (.tm 0), .tm, none⟩, []),
 (⟨.faddr 10 (.tm 0), .tm, none⟩, []),
 (⟨.load1 (.tm 0), .tm, none⟩, []),
 (⟨.callf 135 [(.tm 9), (.tm 5), (.tm 4), (.tm 0)], .tm, none⟩, []),
 (⟨.mov (.tm 0), .tm, none⟩, []),
 (⟨.extract (.tm 0) 0, .tm, none⟩, []),
 (⟨.extract (.tm 1) 1, .tm, none⟩, []),
 (⟨.extract (.tm 2) 2, .tm, none⟩, []),
 (⟨.nilck (.tm 18), .tm, none⟩, []),
 (⟨.faddr 7 (.tm 0), .tm, none⟩, []),
 (⟨.storen 3 (.tm 0) (.tm 4), .no, none⟩, []),
 (⟨.storen 2 (.fr 3) (.tm 3), .no, none⟩, []),
 (⟨.mov (.tm 2), .fr 4, none⟩, [])])) <|
 .block 0 (.seq (.reg [
 ⟨.mov (.fr 4), .tm, none⟩,
 ⟨.bin .neq (.tm 0) (.c (.int .i64 0)), .tm, none⟩,
 ⟨.mov (.tm 0), .fr 8, none⟩]) <|
 .cond (.fr 8)
 (.reg [
 ⟨.mov (.fr 1), .tm, none⟩,
 ⟨.mov (.fr 1), .tm, none⟩,
 ⟨.nilck (.tm 0), .tm, none⟩,
 ⟨.faddr 0 (.tm 0), .tm, none⟩,
 ⟨.load1 (.tm 0), .tm, none⟩,
 ⟨.nilck (.tm 0), .tm, none⟩,
 ⟨.faddr 1 (.tm 0), .tm, none⟩,
 ⟨.load1 (.tm 0), .tm, none⟩,
 ⟨.callf 136 [(.tm 0)], .tm, none⟩,
 ⟨.callf 97 [(.tm 8), (.tm 0)], .tm, none⟩])
 (.seq (.dreg [
 (⟨.mov (.fr 1), .tm, none⟩, []),
 (⟨.nilck (.tm 0), .tm, none⟩, []),
 (⟨.faddr 0 (.tm 0), .tm, none⟩, []),
 (⟨.load1 (.tm 0), .tm, none⟩, []),
 (⟨.nilck (.tm 0), .tm, none⟩, []),
 (⟨.faddr 1 (.tm 0), .tm, none⟩, []),
 (⟨.load1 (.tm 0), .tm, none⟩, []),
 (⟨.loadn 2 (.fr 3), .tm, none⟩, []),
 (⟨.callf 137 [(.tm 1), (.tm 0)], .tm, none⟩, []),
 (⟨.bin .eql (.tm 0) (.c (.int .i64 0)), .tm, none⟩, []),
 (⟨.mov (.tm 0), .tm, none⟩, []),
 (⟨.faddr 0 (.fr 3), .tm, some ((.tm 0), true)⟩, []),
 (⟨.load1 (.tm 0), .tm, some ((.tm 1), true)⟩, []),
 (⟨.mov (.fr 5), .tm, some ((.tm 2), true)⟩, []),
 (⟨.bin .gtr (.tm 1) (.tm 0), .tm, some ((.tm 3), true)⟩, []),
 (⟨.pick (.tm 4) (.tm 0) (.c (.bool false)), .tm, none⟩, []),
 (⟨.mov (.tm 0), .fr 9, none⟩, [])]) <|
 .cond (.fr 9)
 (.seq (.reg [
 ⟨.mov (.fr 0), .tm, none⟩,
 ⟨.mov (.fr 1), .tm, none⟩,
 ⟨.faddr 0 (.fr 3), .tm, none⟩,
 ⟨.load1 (.tm 0), .tm, none⟩,
 ⟨.callf 138 [(.tm 3), (.tm 2), (.tm 0)], .tm, none⟩,
 ⟨.bin .neq (.tm 0) (.c (.int .i64 0)), .fr 10, none⟩]) <|
 .cond (.fr 10)
 (.reg [
 ⟨.mov (.fr 1), .tm, none⟩,
 ⟨.nilck (.tm 0), .tm, none⟩,
 ⟨.faddr 0 (.tm 0), .tm, none⟩,
 ⟨.load1 (.tm 0), .tm, none⟩,
 ⟨.nilck (.tm 0), .tm, none⟩,
 ⟨.faddr 0 (.tm 0), .tm, none⟩,
 ⟨.load1 (.tm 0), .tm, none⟩,
 ⟨.callf 139 [(.tm 0)], .tm, none⟩])
 (.skip))
 (.skip))), []⟩
def f86 : AFunc := ⟨[0, 1, 4, 5, 6, 7, 38, 39, 40, 50],
 .seq (.reg [
 ⟨.mov (.c (.bool false)), .fr 2, none⟩]) <|
 .seq (.dreg [
 (⟨.mov (.fr 1), .tm, none⟩, []),
 (⟨.nilck (.tm 0), .tm, none⟩, []),
 (⟨.faddr 0 (.tm 0), .tm, none⟩, []),
 (⟨.load1 (.tm 0), .tm, none⟩, []),
 (⟨.nilck (.tm 0), .tm, none⟩, []),
 (⟨.faddr 0 (.tm 0), .tm, none⟩, []),
 (⟨.load1 (.tm 0), .tm, none⟩, []),
 (⟨.mov (.fr 1), .tm, none⟩, []),
 (⟨.nilck (.tm 0), .tm, none⟩, []),
 (⟨.faddr 0 (.tm 0), .tm, none⟩, []),
 (⟨.load1 (.tm 0), .tm, none⟩, []),
 (⟨.nilck (.tm 0), .tm, none⟩, []),
 (⟨.faddr 2 (.tm 0), .tm, none⟩, []),
 (⟨.load1 (.tm 0), .tm, none⟩, []),
 (⟨.callf 141 [(.tm 0)], .tm, none⟩, [3, 6]),
 (⟨.mov (.fr 1), .tm, none⟩, []),
 (⟨.nilck (.tm 0), .tm, none⟩, []),
 (⟨.faddr 4 (.tm 0), .tm, none⟩, []),
 (⟨.iaddrp 4 2 (.tm 0) (.c (.int .i64 0)), .tm, none⟩, []),
 (⟨.loadn 4 (.tm 0), .tm, none⟩, [14]),
 (⟨.mov (.fr 1), .tm, none⟩, []),
 (⟨.nilck (.tm 0), .tm, none⟩, []),
 (⟨.faddr 4 (.tm 0), .tm, none⟩, []),
 (⟨.iaddrp 4 2 (.tm 0) (.c (.int .i64 1)), .tm, none⟩, []),
 (⟨.loadn 4 (.tm 0), .tm, none⟩, [14]),
 (⟨.callf 140 [(.tm 18), (.tm 10), (.tm 5), (.tm 0)], .tm, none⟩, []),
 (⟨.mov (.tm 0), .tm, none⟩, []),
 (⟨.extract (.tm 0) 0, .tm, none⟩, []),
 (⟨.extract (.tm 1) 1, .tm, none⟩, []),
 (⟨.new 269 12 [(.int .i64 0), (.int .i64 0), (.int .u64 0), (.int .u32 0), (.int .u32 0), (.slice none 0 0), (.int .i64 0), (.int .i64 0), (.int .u64 0), (.int .u32 0), (.int .u32 0), (.slice none 0 0)], .fr 3, none⟩, []),
 (⟨.storen 12 (.fr 3) (.tm 1), .no, none⟩, []),
 (⟨.mov (.tm 0), .fr 4, none⟩, [])]) <|
 .seq (.seq (.reg [
 ⟨.mov (.fr 4), .tm, none⟩,
 ⟨.bin .neq (.tm 0) (.c (.int .i64 0)), .fr 6, none⟩]) <|
 .cond (.fr 6)
 (.seq (.reg [
 ⟨.mov (.c (.bool false)), .fr 2, none⟩]) <|
 .ret)
 (.skip)) <|
 .seq (.seq (.reg [
 ⟨.mov (.c (.int .i64 0)), .fr 7, none⟩]) <|
 .block 0 (.loop (.seq (.reg [
 ⟨.bin .lss (.fr 7) (.c (.int .i64 2)), .fr 8, none⟩]) <|
 .seq (.cond (.fr 8)
 (.skip)
 (.exit 0)) <|
 .seq (.block 1 (.seq (.reg [
 ⟨.mov (.fr 7), .tm, none⟩,
 ⟨.mov (.tm 0), .fr 5, none⟩]) <|
 .seq (.reg [
 ⟨.mov (.fr 1), .tm, none⟩,
 ⟨.nilck (.tm 0), .tm, none⟩,
 ⟨.faddr 0 (.tm 0), .tm, none⟩,
 ⟨.load1 (.tm 0), .tm, none⟩,
 ⟨.nilck (.tm 0), .tm, none⟩,
 ⟨.faddr 7 (.tm 0), .tm, none⟩,
 ⟨.load1 (.tm 0), .tm, none⟩,
 ⟨.len false (.tm 0), .tm, none⟩,
 ⟨.bin .lss (.tm 0) (.c (.int .i64 16)), .fr 9, none⟩]) <|
 .cond (.fr 9)
 (.dreg [
 (⟨.mov (.fr 1), .tm, none⟩, []),
 (⟨.nilck (.tm 0), .tm, none⟩, []),
 (⟨.faddr 0 (.tm 0), .tm, none⟩, []),
 (⟨.load1 (.tm 0), .tm, none⟩, []),
 (⟨.mov (.fr 1), .tm, none⟩, []),
 (⟨.nilck (.tm 0), .tm, none⟩, []),
 (⟨.faddr 0 (.tm 0), .tm, none⟩, []),
 (⟨.load1 (.tm 0), .tm, none⟩, []),
 (⟨.nilck (.tm 0), .tm, none⟩, []),
 (⟨.faddr 7 (.tm 0), .tm, none⟩, []),
 (⟨.load1 (.tm 0), .tm, none⟩, []),
 (⟨.mov (.fr 5), .tm, none⟩, []),
 (⟨.bin .sub (.c (.int .i64 1)) (.tm 0), .tm, none⟩, []),
 (⟨.mov (.fr 5), .tm, none⟩, []),
 (⟨.iaddrp 6 2 (.fr 3) (.tm 0), .tm, none⟩, []),
 (⟨.loadn 6 (.tm 0), .tm, none⟩, []),
 (⟨.build [(.int .i64 0), (.int .i64 0), (.int .i64 0), (.int .u64 0), (.int .u32 0), (.int .u32 0), (.slice none 0 0)] [(0, 1, (.tm 3)), (1, 6, (.tm 0))], .tm, none⟩, []),
 (⟨.bslice 178 7 1 [(.int .i64 0), (.int .i64 0), (.int .i64 0), (.int .u64 0), (.int .u32 0), (.int .u32 0), (.slice none 0 0)] [(0, 7, (.tm 0))], .tm, none⟩, []),
 (⟨.app 178 7 64 (.tm 7) (.tm 0), .tm, none⟩, [3]),
 (⟨.nilck (.tm 15), .tm, none⟩, []),
 (⟨.faddr 7 (.tm 0), .tm, none⟩, []),
 (⟨.store1 (.tm 0) (.tm 2), .no, none⟩, [])])
 (.skip))) <|
 .reg [
 ⟨.bin .add (.fr 7) (.c (.int .i64 1)), .tm, none⟩,
 ⟨.mov (.tm 0), .fr 7, none⟩]))) <|
 .seq (.reg [
 ⟨.mov (.c (.bool true)), .fr 2, none⟩]) <|
 .ret, [.t 2]⟩
def f89 : AFunc := ⟨[0, 1, 4, 5, 6, 7, 9, 33, 45, 76, 77, 116],
 .seq (.reg [
 ⟨.mov (.c (.bool false)), .fr 2, none⟩]) <|
 .seq (.reg [
 ⟨.mov (.fr 1), .tm, none⟩,
 ⟨.nilck (.tm 0), .tm, none⟩,
 ⟨.faddr 0 (.tm 0), .tm, none⟩,
 ⟨.load1 (.tm 0), .tm, none⟩,
 ⟨.nilck (.tm 0), .tm, none⟩,
 ⟨.faddr 0 (.tm 0), .tm, none⟩,
 ⟨.load1 (.tm 0), .tm, none⟩,
 ⟨.callf 144 [(.tm 0)], .tm, none⟩,
 ⟨.mov (.tm 0), .tm, none⟩,
 ⟨.extract (.tm 0) 0, .tm, none⟩,
 ⟨.extract (.tm 1) 1, .tm, none⟩,
 ⟨.new 275 4 [(.int .i64 0), (.int .i64 0), (.int .u64 0), (.int .u32 0)], .fr 3, none⟩,
 ⟨.storen 4 (.fr 3) (.tm 1), .no, none⟩,
 ⟨.mov (.tm 0), .fr 4, none⟩]) <|
 .seq (.seq (.reg [
 ⟨.mov (.fr 4), .tm, none⟩,
 ⟨.un .not (.tm 0), .tm, none⟩,
 ⟨.mov (.tm 0), .tm, none⟩,
 ⟨.mov (.fr 1), .tm, some ((.tm 0), false)⟩,
 ⟨.callf 55 [(.tm 0)], .tm, some ((.tm 1), false)⟩,
 ⟨.un .not (.tm 0), .tm, some ((.tm 2), false)⟩,
 ⟨.pick (.tm 3) (.c (.bool true)) (.tm 0), .tm, none⟩,
 ⟨.mov (.tm 0), .tm, none⟩,
 ⟨.mov (.fr 1), .tm, some ((.tm 0), false)⟩,
 ⟨.nilck (.tm 0), .tm, some ((.tm 1), false)⟩,
 ⟨.faddr 13 (.tm 0), .tm, some ((.tm 2), false)⟩,
 ⟨.load1 (.tm 0), .tm, some ((.tm 3), false)⟩,
 ⟨.pick (.tm 4) (.c (.bool true)) (.tm 0), .fr 7, none⟩]) <|
 .cond (.fr 7)
 (.seq (.reg [
 ⟨.mov (.c (.bool true)), .fr 2, none⟩]) <|
 .ret)
 (.skip)) <|
 .seq (.seq (.dreg [
 (⟨.mov (.fr 1), .tm, none⟩, []),
 (⟨.nilck (.tm 0), .tm, none⟩, []),
 (⟨.faddr 0 (.tm 0), .tm, none⟩, []),
 (⟨.load1 (.tm 0), .tm, none⟩, []),
 (⟨.nilck (.tm 0), .tm, none⟩, []),
 (⟨.faddr 1 (.tm 0), .tm, none⟩, []),
 (⟨.load1 (.tm 0), .tm, none⟩, []),
 (⟨.mov (.fr 0), .tm, none⟩, []),
 (⟨.mov (.fr 1), .tm, none⟩, []),
 (⟨.callf 96 [(.tm 1), (.tm 0)], .tm, none⟩, [3, 6]),
 (⟨.callf 145 [(.tm 3), (.tm 0)], .tm, none⟩, []),
 (⟨.un .not (.tm 0), .fr 8, none⟩, [])]) <|
 .cond (.fr 8)
 (.seq (.reg [
 ⟨.mov (.fr 1), .tm, none⟩,
 ⟨.nilck (.tm 0), .tm, none⟩,
 ⟨.faddr 0 (.tm 0), .tm, none⟩,
 ⟨.load1 (.tm 0), .tm, none⟩,
 ⟨.nilck (.tm 0), .tm, none⟩,
 ⟨.faddr 0 (.tm 0), .tm, none⟩,
 ⟨.load1 (.tm 0), .tm, none⟩,
 ⟨.callf 139 [(.tm 0)], .tm, none⟩]) <|
 .seq (.reg [
 ⟨.mov (.c (.bool true)), .fr 2, none⟩]) <|
 .ret)
 (.skip)) <|
 .seq (.reg [
 ⟨.mov (.fr 1), .tm, none⟩,
 ⟨.callf 52 [(.tm 0)], .tm, none⟩,
 ⟨.mov (.tm 0), .tm, none⟩,
 ⟨.extract (.tm 0) 0, .tm, none⟩,
 ⟨.extract (.tm 1) 1, .tm, none⟩,
 ⟨.new 53 70 Z70X, .fr 5, none⟩,
 ⟨.storen 70 (.fr 5) (.tm 1), .no, none⟩,
 ⟨.mov (.tm 0), .tm, none⟩]) <|
 .seq (.seq (.dreg [
 (⟨.mov (.fr 0), .tm, none⟩, []),
 (⟨.nilck (.tm 0), .tm, none⟩, []),
 (⟨.faddr 6 (.tm 0), .tm, none⟩, []),
 (⟨.load1 (.tm 0), .tm, none⟩, []),
 (⟨.mov (.fr 1), .tm, none⟩, []),
 (⟨.nilck (.tm 0), .tm, none⟩, []),
 (⟨.faddr 1 (.tm 0), .tm, none⟩, []),
 (⟨.load1 (.tm 0), .tm, none⟩, []),
 (⟨.faddr 0 (.fr 3), .tm, none⟩, []),
 (⟨.load1 (.tm 0), .tm, none⟩, []),
 (⟨.faddr 1 (.fr 3), .tm, none⟩, []),
 (⟨.load1 (.tm 0), .tm, none⟩, []),
 (⟨.faddr 2 (.fr 3), .tm, none⟩, []),
 (⟨.loadn 2 (.tm 0), .tm, none⟩, []),
 (⟨.build [(.int .u8 0), (.int .i64 0), (.int .i64 0), (.int .u64 0), (.int .u32 0)] [(1, 1, (.tm 4)), (2, 1, (.tm 2)), (3, 2, (.tm 0))], .tm, none⟩, []),
 (⟨.faddr 2 (.fr 5), .tm, none⟩, []),
 (⟨.loadn 68 (.tm 0), .tm, none⟩, []),
 (⟨.callf 146 [(.tm 13), (.tm 9), (.tm 2), (.tm 0)], .fr 9, none⟩, [])]) <|
 .block 0 (.seq (.reg [
 ⟨.bin .eql (.fr 9) (.c (.int .i64 0)), .tm, none⟩,
 ⟨.mov (.tm 0), .fr 10, none⟩]) <|
 .cond (.fr 10)
 (.seq (.dreg [
 (⟨.mov (.fr 0), .tm, none⟩, []),
 (⟨.nilck (.tm 0), .tm, none⟩, []),
 (⟨.faddr 12 (.tm 0), .tm, none⟩, []),
 (⟨.load1 (.tm 0), .tm, none⟩, []),
 (⟨.mov (.fr 1), .tm, none⟩, []),
 (⟨.nilck (.tm 0), .tm, none⟩, []),
 (⟨.faddr 0 (.tm 0), .tm, none⟩, []),
 (⟨.load1 (.tm 0), .tm, none⟩, []),
 (⟨.nilck (.tm 0), .tm, none⟩, []),
 (⟨.faddr 10 (.tm 0), .tm, none⟩, []),
 (⟨.load1 (.tm 0), .tm, none⟩, []),
 (⟨.iaddr 10 (.tm 7) (.tm 0), .tm, none⟩, []),
 (⟨.mov (.tm 0), .fr 6, none⟩, [])]) <|
 .seq (.dreg [
 (⟨.mov (.fr 6), .tm, none⟩, []),
 (⟨.mov (.fr 6), .tm, none⟩, []),
 (⟨.faddr 2 (.fr 3), .tm, none⟩, []),
 (⟨.loadn 2 (.tm 0), .tm, none⟩, []),
 (⟨.nilck (.tm 3), .tm, none⟩, []),
 (⟨.faddr 7 (.tm 0), .tm, none⟩, []),
 (⟨.store1 (.tm 0) (.c (.bool false)), .no, none⟩, [3]),
 (⟨.nilck (.tm 4), .tm, none⟩, []),
 (⟨.faddr 8 (.tm 0), .tm, none⟩, []),
 (⟨.storen 2 (.tm 0) (.tm 4), .no, none⟩, [])]) <|
 .seq (.dreg [
 (⟨.mov (.fr 1), .tm, none⟩, []),
 (⟨.nilck (.tm 0), .tm, none⟩, []),
 (⟨.faddr 0 (.tm 0), .tm, none⟩, []),
 (⟨.load1 (.tm 0), .tm, none⟩, []),
 (⟨.nilck (.tm 0), .tm, none⟩, []),
 (⟨.faddr 4 (.tm 0), .tm, none⟩, []),
 (⟨.faddr 1 (.fr 3), .tm, none⟩, []),
 (⟨.load1 (.tm 0), .tm, none⟩, []),
 (⟨.faddr 0 (.fr 3), .tm, none⟩, []),
 (⟨.load1 (.tm 0), .tm, none⟩, []),
 (⟨.faddr 2 (.fr 5), .tm, none⟩, []),
 (⟨.loadn 68 (.tm 0), .tm, none⟩, []),
 (⟨.build Z70X [(0, 1, (.tm 4)), (1, 1, (.tm 2)), (2, 68, (.tm 0))], .tm, none⟩, []),
 (⟨.callf 147 [(.tm 7), (.tm 0)], .tm, none⟩, [])]) <|
 .reg [
 ⟨.mov (.fr 0), .tm, none⟩,
 ⟨.mov (.fr 1), .tm, none⟩,
 ⟨.callf 102 [(.tm 1), (.tm 0)], .tm, none⟩])
 (.seq (.reg [
 ⟨.bin .eql (.fr 9) (.c (.int .i64 230)), .tm, none⟩,
 ⟨.mov (.tm 0), .fr 11, none⟩]) <|
 .cond (.fr 11)
 (.reg [
 ⟨.mov (.fr 1), .tm, none⟩,
 ⟨.nilck (.tm 0), .tm, none⟩,
 ⟨.faddr 0 (.tm 0), .tm, none⟩,
 ⟨.load1 (.tm 0), .tm, none⟩,
 ⟨.nilck (.tm 0), .tm, none⟩,
 ⟨.faddr 0 (.tm 0), .tm, none⟩,
 ⟨.load1 (.tm 0), .tm, none⟩,
 ⟨.callf 139 [(.tm 0)], .tm, none⟩])
 (.skip)))) <|
 .seq (.reg [
 ⟨.mov (.c (.bool true)), .fr 2, none⟩]) <|
 .ret, [.t 2]⟩
def f138 : AFunc := ⟨[0, 1, 2, 6, 7, 8, 9, 10, 11, 12, 13, 14, 15, 27, 51, 75, 87],
 .seq (.reg [
 ⟨.mov (.c (.int .i64 0)), .fr 3, none⟩]) <|
 .seq (.seq (.dreg [
 (⟨.mov (.fr 0), .tm, none⟩, []),
 (⟨.nilck (.tm 0), .tm, none⟩, []),
 (⟨.faddr 6 (.tm 0), .tm, none⟩, []),
 (⟨.load1 (.tm 0), .tm, none⟩, []),
 (⟨.mov (.fr 1), .tm, none⟩, []),
 (⟨.nilck (.tm 0), .tm, none⟩, []),
 (⟨.faddr 1 (.tm 0), .tm, none⟩, []),
 (⟨.load1 (.tm 0), .tm, none⟩, []),
 (⟨.mov (.fr 2), .tm, none⟩, []),
 (⟨.callf 204 [(.tm 5), (.tm 1), (.tm 0)], .tm, none⟩, []),
 (⟨.mov (.tm 0), .fr 4, none⟩, [])]) <|
 .seq (.reg [
 ⟨.mov (.fr 4), .tm, none⟩,
 ⟨.bin .neq (.tm 0) (.c (.int .i64 0)), .fr 13, none⟩]) <|
 .cond (.fr 13)
 (.seq (.reg [
 ⟨.mov (.fr 4), .tm, none⟩,
 ⟨.mov (.tm 0), .fr 3, none⟩]) <|
 .ret)
 (.skip)) <|
 .seq (.reg [
 ⟨.mov (.fr 1), .tm, none⟩,
 ⟨.callf 52 [(.tm 0)], .tm, none⟩,
 ⟨.mov (.tm 0), .tm, none⟩,
 ⟨.extract (.tm 0) 0, .tm, none⟩,
 ⟨.extract (.tm 1) 1, .tm, none⟩,
 ⟨.new 53 70 Z70X, .fr 5, none⟩,
 ⟨.storen 70 (.fr 5) (.tm 1), .no, none⟩,
 ⟨.mov (.tm 0), .fr 6, none⟩]) <|
 .seq (.seq (.reg [
 ⟨.mov (.fr 0), .tm, none⟩,
 ⟨.nilck (.tm 0), .tm, none⟩,
 ⟨.faddr 6 (.tm 0), .tm, none⟩,
 ⟨.load1 (.tm 0), .tm, none⟩,
 ⟨.callf 50 [(.tm 0)], .tm, none⟩,
 ⟨.mov (.tm 0), .tm, none⟩,
 ⟨.extract (.tm 0) 0, .tm, none⟩,
 ⟨.extract (.tm 1) 1, .tm, none⟩,
 ⟨.new 53 70 Z70X, .fr 7, none⟩,
 ⟨.storen 70 (.fr 7) (.tm 1), .no, none⟩,
 ⟨.mov (.tm 0), .fr 8, none⟩]) <|
 .seq (.reg [
 ⟨.mov (.fr 8), .tm, none⟩,
 ⟨.mov (.tm 0), .tm, none⟩,
 ⟨.mov (.fr 6), .tm, some ((.tm 0), true)⟩,
 ⟨.un .not (.tm 0), .tm, some ((.tm 1), true)⟩,
 ⟨.mov (.tm 0), .tm, some ((.tm 2), true)⟩,
 ⟨.loadn 70 (.fr 7), .tm, some ((.tm 0), false)⟩,
 ⟨.loadn 70 (.fr 5), .tm, some ((.tm 1), false)⟩,
 ⟨.callf 131 [(.tm 1), (.tm 0)], .tm, some ((.tm 2), false)⟩,
 ⟨.pick (.tm 3) (.c (.bool true)) (.tm 0), .tm, some ((.tm 6), true)⟩,
 ⟨.pick (.tm 7) (.tm 0) (.c (.bool false)), .fr 14, none⟩]) <|
 .cond (.fr 14)
 (.seq (.reg [
 ⟨.mov (.fr 1), .tm, none⟩,
 ⟨.nilck (.tm 0), .tm, none⟩,
 ⟨.faddr 0 (.tm 0), .tm, none⟩,
 ⟨.load1 (.tm 0), .tm, none⟩,
 ⟨.nilck (.tm 0), .tm, none⟩,
 ⟨.faddr 0 (.tm 0), .tm, none⟩,
 ⟨.load1 (.tm 0), .tm, none⟩,
 ⟨.callf 139 [(.tm 0)], .tm, none⟩]) <|
 .seq (.dreg [
 (⟨.mov (.fr 1), .tm, none⟩, []),
 (⟨.nilck (.tm 0), .tm, none⟩, []),
 (⟨.faddr 0 (.tm 0), .tm, none⟩, []),
 (⟨.load1 (.tm 0), .tm, none⟩, []),
 (⟨.nilck (.tm 0), .tm, none⟩, []),
 (⟨.faddr 0 (.tm 0), .tm, none⟩, []),
 (⟨.load1 (.tm 0), .tm, none⟩, []),
 (⟨.faddr 2 (.fr 7), .tm, none⟩, []),
 (⟨.loadn 68 (.tm 0), .tm, none⟩, []),
 (⟨.faddr 0 (.fr 7), .tm, none⟩, []),
 (⟨.load1 (.tm 0), .tm, none⟩, []),
 (⟨.faddr 1 (.fr 7), .tm, none⟩, []),
 (⟨.load1 (.tm 0), .tm, none⟩, []),
 (⟨.callf 132 [(.tm 6), (.tm 4), (.tm 2), (.tm 0)], .tm, none⟩, []),
 (⟨.mov (.tm 0), .fr 9, none⟩, [])]) <|
 .seq (.reg [
 ⟨.mov (.fr 9), .tm, none⟩,
 ⟨.bin .neq (.tm 0) (.c (.int .i64 0)), .fr 15, none⟩]) <|
 .cond (.fr 15)
 (.seq (.reg [
 ⟨.mov (.fr 9), .tm, none⟩,
 ⟨.mov (.tm 0), .fr 3, none⟩]) <|
 .ret)
 (.skip))
 (.skip)) <|
 .seq (.seq (.reg [
 ⟨.mov (.fr 1), .tm, none⟩,
 ⟨.nilck (.tm 0), .tm, none⟩,
 ⟨.faddr 0 (.tm 0), .tm, none⟩,
 ⟨.load1 (.tm 0), .tm, none⟩,
 ⟨.nilck (.tm 0), .tm, none⟩,
 ⟨.faddr 0 (.tm 0), .tm, none⟩,
 ⟨.load1 (.tm 0), .tm, none⟩,
 ⟨.mov (.fr 2), .tm, none⟩,
 ⟨.callf 205 [(.tm 1), (.tm 0)], .tm, none⟩,
 ⟨.mov (.tm 0), .fr 10, none⟩]) <|
 .seq (.reg [
 ⟨.mov (.fr 10), .tm, none⟩,
 ⟨.bin .neq (.tm 0) (.c (.int .i64 0)), .fr 16, none⟩]) <|
 .cond (.fr 16)
 (.seq (.reg [
 ⟨.mov (.fr 10), .tm, none⟩,
 ⟨.mov (.tm 0), .fr 3, none⟩]) <|
 .ret)
 (.skip)) <|
 .seq (.reg [
 ⟨.mov (.fr 1), .tm, none⟩,
 ⟨.callf 52 [(.tm 0)], .tm, none⟩,
 ⟨.mov (.tm 0), .tm, none⟩,
 ⟨.extract (.tm 0) 0, .tm, none⟩,
 ⟨.extract (.tm 1) 1, .tm, none⟩,
 ⟨.storen 70 (.fr 5) (.tm 1), .no, none⟩]) <|
 .seq (.reg [
 ⟨.faddr 1 (.fr 5), .tm, none⟩,
 ⟨.load1 (.tm 0), .tm, none⟩,
 ⟨.bin .add (.tm 0) (.c (.int .i64 1)), .tm, none⟩,
 ⟨.callf 74 [(.c (.int .i64 4)), (.c (.int .i64 8)), (.tm 0)], .tm, none⟩,
 ⟨.mov (.tm 0), .tm, none⟩,
 ⟨.extract (.tm 0) 0, .tm, none⟩,
 ⟨.extract (.tm 1) 1, .tm, none⟩,
 ⟨.mov (.tm 1), .fr 11, none⟩,
 ⟨.mov (.tm 0), .fr 12, none⟩]) <|
 .seq (.dreg [
 (⟨.mov (.fr 1), .tm, none⟩, []),
 (⟨.nilck (.tm 0), .tm, none⟩, []),
 (⟨.faddr 0 (.tm 0), .tm, none⟩, []),
 (⟨.load1 (.tm 0), .tm, none⟩, []),
 (⟨.mov (.fr 1), .tm, none⟩, []),
 (⟨.nilck (.tm 0), .tm, none⟩, []),
 (⟨.faddr 0 (.tm 0), .tm, none⟩, []),
 (⟨.load1 (.tm 0), .tm, none⟩, []),
 (⟨.mov (.fr 1), .tm, none⟩, []),
 (⟨.nilck (.tm 0), .tm, none⟩, []),
 (⟨.faddr 0 (.tm 0), .tm, none⟩, []),
 (⟨.load1 (.tm 0), .tm, none⟩, []),
 (⟨.mov (.fr 11), .tm, none⟩, []),
 (⟨.nilck (.tm 9), .tm, none⟩, []),
 (⟨.faddr 2 (.tm 0), .tm, none⟩, []),
 (⟨.store1 (.tm 0) (.tm 2), .no, none⟩, []),
 (⟨.nilck (.tm 7), .tm, none⟩, []),
 (⟨.faddr 7 (.tm 0), .tm, none⟩, []),
 (⟨.store1 (.tm 0) (.c (.slice none 0 0)), .no, none⟩, []),
 (⟨.nilck (.tm 5), .tm, none⟩, []),
 (⟨.faddr 11 (.tm 0), .tm, none⟩, []),
 (⟨.store1 (.tm 0) (.c (.pointer none)), .no, none⟩, [])]) <|
 .seq (.reg [
 ⟨.mov (.fr 12), .tm, none⟩,
 ⟨.mov (.tm 0), .fr 3, none⟩]) <|
 .ret, [.t 3]⟩
def f140 : AFunc := ⟨[0, 1, 2, 3, 6, 7, 8, 9, 10, 11, 12, 13, 14, 18, 25, 57, 58, 59, 77],
 .seq (.reg [
 ⟨.box 40 4 (.fr 2), .fr 4, none⟩,
 ⟨.box 40 4 (.fr 3), .fr 5, none⟩,
 ⟨.new 269 12 [(.int .i64 0), (.int .i64 0), (.int .u64 0), (.int .u32 0), (.int .u32 0), (.slice none 0 0), (.int .i64 0), (.int .i64 0), (.int .u64 0), (.int .u32 0), (.int .u32 0), (.slice none 0 0)], .fr 6, none⟩,
 ⟨.mov (.c (.int .i64 0)), .fr 7, none⟩]) <|
 .seq (.reg [
 ⟨.new 269 12 [(.int .i64 0), (.int .i64 0), (.int .u64 0), (.int .u32 0), (.int .u32 0), (.slice none 0 0), (.int .i64 0), (.int .i64 0), (.int .u64 0), (.int .u32 0), (.int .u32 0), (.slice none 0 0)], .fr 8, none⟩]) <|
 .seq (.block 0 (.seq (.reg [
 ⟨.mov (.fr 0), .tm, none⟩,
 ⟨.eqv 1 false (.tm 0) (.c (.pointer none)), .tm, none⟩,
 ⟨.mov (.tm 0), .fr 12, none⟩]) <|
 .cond (.fr 12)
 (.seq (.reg [
 ⟨.loadn 12 (.fr 8), .tm, none⟩,
 ⟨.storen 12 (.fr 6) (.tm 0), .no, none⟩,
 ⟨.mov (.c (.int .i64 1)), .fr 7, none⟩]) <|
 .ret)
 (.seq (.reg [
 ⟨.mov (.fr 0), .tm, none⟩,
 ⟨.nilck (.tm 0), .tm, none⟩,
 ⟨.faddr 6 (.tm 0), .tm, none⟩,
 ⟨.load1 (.tm 0), .tm, none⟩,
 ⟨.callf 108 [(.tm 0)], .tm, none⟩,
 ⟨.mov (.tm 0), .fr 13, none⟩]) <|
 .cond (.fr 13)
 (.seq (.reg [
 ⟨.loadn 12 (.fr 8), .tm, none⟩,
 ⟨.storen 12 (.fr 6) (.tm 0), .no, none⟩,
 ⟨.mov (.c (.int .i64 220)), .fr 7, none⟩]) <|
 .ret)
 (.seq (.dreg [
 (⟨.mov (.fr 1), .tm, none⟩, []),
 (⟨.mov (.fr 0), .tm, none⟩, []),
 (⟨.nilck (.tm 0), .tm, none⟩, []),
 (⟨.faddr 10 (.tm 0), .tm, none⟩, []),
 (⟨.load1 (.tm 0), .tm, none⟩, []),
 (⟨.bin .leq (.tm 4) (.tm 0), .tm, none⟩, []),
 (⟨.mov (.tm 0), .tm, none⟩, []),
 (⟨.mov (.fr 1), .tm, some ((.tm 0), false)⟩, []),
 (⟨.bin .gtr (.tm 0) (.c (.int .i64 1099511627776)), .tm, some ((.tm 1), false)⟩, []),
 (⟨.pick (.tm 2) (.c (.bool true)) (.tm 0), .tm, none⟩, []),
 (⟨.mov (.tm 0), .tm, none⟩, []),
 (⟨.mov (.fr 0), .tm, some ((.tm 0), false)⟩, []),
 (⟨.nilck (.tm 0), .tm, some ((.tm 1), false)⟩, []),
 (⟨.faddr 0 (.tm 0), .tm, some ((.tm 2), false)⟩, []),
 (⟨.loadn 4 (.tm 0), .tm, some ((.tm 3), false)⟩, []),
 (⟨.loadn 4 (.fr 4), .tm, some ((.tm 4), false)⟩, []),
 (⟨.callf 206 [(.tm 1), (.tm 0)], .tm, some ((.tm 5), false)⟩, []),
 (⟨.un .not (.tm 0), .tm, some ((.tm 6), false)⟩, []),
 (⟨.pick (.tm 7) (.c (.bool true)) (.tm 0), .tm, none⟩, []),
 (⟨.mov (.tm 0), .tm, none⟩, []),
 (⟨.mov (.fr 0), .tm, some ((.tm 0), false)⟩, []),
 (⟨.nilck (.tm 0), .tm, some ((.tm 1), false)⟩, []),
 (⟨.faddr 0 (.tm 0), .tm, some ((.tm 2), false)⟩, []),
 (⟨.loadn 4 (.tm 0), .tm, some ((.tm 3), false)⟩, []),
 (⟨.loadn 4 (.fr 5), .tm, some ((.tm 4), false)⟩, []),
 (⟨.callf 206 [(.tm 1), (.tm 0)], .tm, some ((.tm 5), false)⟩, []),
 (⟨.un .not (.tm 0), .tm, some ((.tm 6), false)⟩, []),
 (⟨.pick (.tm 7) (.c (.bool true)) (.tm 0), .tm, none⟩, []),
 (⟨.mov (.tm 0), .fr 14, none⟩, [])]) <|
 .cond (.fr 14)
 (.seq (.reg [
 ⟨.loadn 12 (.fr 8), .tm, none⟩,
 ⟨.storen 12 (.fr 6) (.tm 0), .no, none⟩,
 ⟨.mov (.c (.int .i64 2)), .fr 7, none⟩]) <|
 .ret)
 (.skip))))) <|
 .seq (.seq (.reg [
 ⟨.loadn 4 (.fr 4), .tm, none⟩,
 ⟨.loadn 4 (.fr 5), .tm, none⟩,
 ⟨.build [(.int .u64 0), (.int .u32 0), (.int .u32 0), (.slice none 0 0), (.int .u64 0), (.int .u32 0), (.int .u32 0), (.slice none 0 0)] [(0, 4, (.tm 1)), (4, 4, (.tm 0))], .fr 15, none⟩,
 ⟨.mov (.c (.int .i64 0)), .fr 16, none⟩]) <|
 .block 1 (.loop (.seq (.reg [
 ⟨.bin .lss (.fr 16) (.c (.int .i64 2)), .fr 17, none⟩]) <|
 .seq (.cond (.fr 17)
 (.skip)
 (.exit 1)) <|
 .seq (.block 2 (.seq (.reg [
 ⟨.mov (.fr 16), .tm, none⟩,
 ⟨.idxa true 4 2 (.fr 15) (.fr 16), .tm, none⟩,
 ⟨.new 40 4 [(.int .u64 0), (.int .u32 0), (.int .u32 0), (.slice none 0 0)], .fr 10, none⟩,
 ⟨.mov (.tm 1), .fr 9, none⟩,
 ⟨.storen 4 (.fr 10) (.tm 0), .no, none⟩]) <|
 .seq (.reg [
 ⟨.mov (.c (.int .i64 0)), .fr 11, none⟩]) <|
 .seq (.dreg [
 (⟨.mov (.fr 9), .tm, none⟩, []),
 (⟨.mov (.fr 0), .tm, none⟩, []),
 (⟨.mov (.fr 9), .tm, none⟩, []),
 (⟨.nilck (.tm 1), .tm, none⟩, []),
 (⟨.faddr 4 (.tm 0), .tm, none⟩, []),
 (⟨.iaddrp 1 2 (.tm 0) (.tm 2), .tm, none⟩, []),
 (⟨.load1 (.tm 0), .tm, none⟩, []),
 (⟨.mov (.fr 1), .tm, none⟩, []),
 (⟨.loadn 4 (.fr 10), .tm, none⟩, []),
 (⟨.callf 207 [(.tm 2), (.tm 1), (.tm 0)], .tm, none⟩, []),
 (⟨.mov (.tm 0), .tm, none⟩, []),
 (⟨.extract (.tm 0) 0, .tm, none⟩, []),
 (⟨.extract (.tm 1) 1, .tm, none⟩, []),
 (⟨.iaddrp 6 2 (.fr 8) (.tm 12), .tm, none⟩, []),
 (⟨.storen 6 (.tm 0) (.tm 2), .no, none⟩, []),
 (⟨.mov (.tm 1), .fr 11, none⟩, [])]) <|
 .seq (.reg [
 ⟨.mov (.fr 11), .tm, none⟩,
 ⟨.bin .neq (.tm 0) (.c (.int .i64 0)), .fr 18, none⟩]) <|
 .cond (.fr 18)
 (.seq (.reg [
 ⟨.build [(.int .i64 0), (.int .i64 0), (.int .u64 0), (.int .u32 0), (.int .u32 0), (.slice none 0 0), (.int .i64 0), (.int .i64 0), (.int .u64 0), (.int .u32 0), (.int .u32 0), (.slice none 0 0)] [], .tm, none⟩,
 ⟨.mov (.fr 11), .tm, none⟩,
 ⟨.storen 12 (.fr 6) (.tm 1), .no, none⟩,
 ⟨.mov (.tm 0), .fr 7, none⟩]) <|
 .ret)
 (.skip))) <|
 .reg [
 ⟨.bin .add (.fr 16) (.c (.int .i64 1)), .tm, none⟩,
 ⟨.mov (.tm 0), .fr 16, none⟩]))) <|
 .seq (.reg [
 ⟨.mov (.fr 0), .tm, none⟩,
 ⟨.mov (.fr 0), .tm, none⟩,
 ⟨.mov (.fr 1), .tm, none⟩,
 ⟨.nilck (.tm 2), .tm, none⟩,
 ⟨.faddr 10 (.tm 0), .tm, none⟩,
 ⟨.store1 (.tm 0) (.tm 2), .no, none⟩,
 ⟨.nilck (.tm 3), .tm, none⟩,
 ⟨.faddr 11 (.tm 0), .tm, none⟩,
 ⟨.store1 (.tm 0) (.c (.bool true)), .no, none⟩]) <|
 .seq (.reg [
 ⟨.loadn 12 (.fr 8), .tm, none⟩,
 ⟨.storen 12 (.fr 6) (.tm 0), .no, none⟩,
 ⟨.mov (.c (.int .i64 0)), .fr 7, none⟩]) <|
 .ret, [.cn 12 6, .t 7]⟩
def f147 : AFunc := ⟨[0, 1, 3, 4, 5, 8, 56],
 .seq (.reg [
 ⟨.box 53 70 (.fr 1), .fr 2, none⟩,
 ⟨.mov (.c (.int .i64 0)), .fr 3, none⟩]) <|
 .seq (.block 0 (.seq (.reg [
 ⟨.mov (.fr 0), .tm, none⟩,
 ⟨.eqv 1 false (.tm 0) (.c (.pointer none)), .tm, none⟩,
 ⟨.mov (.tm 0), .fr 4, none⟩]) <|
 .cond (.fr 4)
 (.seq (.reg [
 ⟨.mov (.c (.int .i64 1)), .fr 3, none⟩]) <|
 .ret)
 (.seq (.dreg [
 (⟨.faddr 0 (.fr 2), .tm, none⟩, []),
 (⟨.load1 (.tm 0), .tm, none⟩, []),
 (⟨.faddr 1 (.fr 2), .tm, none⟩, []),
 (⟨.load1 (.tm 0), .tm, none⟩, []),
 (⟨.bslice 2 1 2 [(.int .i64 0), (.int .i64 0)] [(0, 1, (.tm 2)), (1, 1, (.tm 0))], .tm, none⟩, []),
 (⟨.callf 120 [(.tm 0)], .tm, none⟩, []),
 (⟨.un .not (.tm 0), .tm, none⟩, []),
 (⟨.mov (.tm 0), .tm, none⟩, []),
 (⟨.mov (.fr 0), .tm, some ((.tm 0), false)⟩, []),
 (⟨.nilck (.tm 0), .tm, some ((.tm 1), false)⟩, []),
 (⟨.faddr 0 (.tm 0), .tm, some ((.tm 2), false)⟩, []),
 (⟨.load1 (.tm 0), .tm, some ((.tm 3), false)⟩, []),
 (⟨.len false (.tm 0), .tm, some ((.tm 4), false)⟩, []),
 (⟨.bin .gtr (.tm 0) (.c (.int .i64 0)), .tm, some ((.tm 5), false)⟩, []),
 (⟨.mov (.tm 0), .tm, some ((.tm 6), false)⟩, []),
 (⟨.loadn 70 (.fr 2), .tm, some ((.tm 0), true)⟩, []),
 (⟨.mov (.fr 0), .tm, some ((.tm 1), true)⟩, []),
 (⟨.nilck (.tm 0), .tm, some ((.tm 2), true)⟩, []),
 (⟨.faddr 0 (.tm 0), .tm, some ((.tm 3), true)⟩, []),
 (⟨.load1 (.tm 0), .tm, some ((.tm 4), true)⟩, []),
 (⟨.mov (.fr 0), .tm, some ((.tm 5), true)⟩, []),
 (⟨.nilck (.tm 0), .tm, some ((.tm 6), true)⟩, []),
 (⟨.faddr 0 (.tm 0), .tm, some ((.tm 7), true)⟩, []),
 (⟨.load1 (.tm 0), .tm, some ((.tm 8), true)⟩, []),
 (⟨.len false (.tm 0), .tm, some ((.tm 9), true)⟩, []),
 (⟨.bin .sub (.tm 0) (.c (.int .i64 1)), .tm, some ((.tm 10), true)⟩, []),
 (⟨.iaddr 70 (.tm 6) (.tm 0), .tm, some ((.tm 11), true)⟩, []),
 (⟨.loadn 70 (.tm 0), .tm, some ((.tm 12), true)⟩, []),
 (⟨.callf 194 [(.tm 12), (.tm 0)], .tm, some ((.tm 13), true)⟩, []),
 (⟨.bin .leq (.tm 0) (.c (.int .i64 0)), .tm, some ((.tm 14), true)⟩, []),
 (⟨.pick (.tm 15) (.tm 0) (.c (.bool false)), .tm, some ((.tm 22), false)⟩, []),
 (⟨.pick (.tm 23) (.c (.bool true)) (.tm 0), .tm, none⟩, []),
 (⟨.mov (.tm 0), .fr 5, none⟩, [])]) <|
 .cond (.fr 5)
 (.seq (.reg [
 ⟨.mov (.c (.int .i64 2)), .fr 3, none⟩]) <|
 .ret)
 (.skip)))) <|
 .seq (.dreg [
 (⟨.mov (.fr 0), .tm, none⟩, []),
 (⟨.mov (.fr 0), .tm, none⟩, []),
 (⟨.nilck (.tm 0), .tm, none⟩, []),
 (⟨.faddr 0 (.tm 0), .tm, none⟩, []),
 (⟨.load1 (.tm 0), .tm, none⟩, []),
 (⟨.loadn 70 (.fr 2), .tm, none⟩, []),
 (⟨.bslice 53 70 1 Z70X [(0, 70, (.tm 0))], .tm, none⟩, []),
 (⟨.app 53 70 112 (.tm 2) (.tm 0), .tm, none⟩, []),
 (⟨.nilck (.tm 7), .tm, none⟩, []),
 (⟨.faddr 0 (.tm 0), .tm, none⟩, []),
 (⟨.store1 (.tm 0) (.tm 2), .no, none⟩, [])]) <|
 .seq (.seq (.reg [
 ⟨.mov (.fr 0), .tm, none⟩,
 ⟨.nilck (.tm 0), .tm, none⟩,
 ⟨.faddr 0 (.tm 0), .tm, none⟩,
 ⟨.load1 (.tm 0), .tm, none⟩,
 ⟨.len false (.tm 0), .tm, none⟩,
 ⟨.bin .gtr (.tm 0) (.c (.int .i64 8)), .fr 6, none⟩]) <|
 .cond (.fr 6)
 (.dreg [
 (⟨.mov (.fr 0), .tm, none⟩, []),
 (⟨.mov (.fr 0), .tm, none⟩, []),
 (⟨.mov (.fr 0), .tm, none⟩, []),
 (⟨.nilck (.tm 0), .tm, none⟩, []),
 (⟨.faddr 0 (.tm 0), .tm, none⟩, []),
 (⟨.load1 (.tm 0), .tm, none⟩, []),
 (⟨.slsl 70 (.tm 0) (some (.c (.int .i64 1))) none none, .tm, none⟩, []),
 (⟨.mov (.fr 0), .tm, none⟩, []),
 (⟨.nilck (.tm 0), .tm, none⟩, []),
 (⟨.faddr 1 (.tm 0), .tm, none⟩, []),
 (⟨.load1 (.tm 0), .tm, none⟩, []),
 (⟨.bin .sub (.tm 0) (.c (.int .i64 1)), .tm, none⟩, []),
 (⟨.mm true (.c (.int .i64 0)) (.tm 0), .tm, none⟩, []),
 (⟨.nilck (.tm 12), .tm, none⟩, []),
 (⟨.faddr 0 (.tm 0), .tm, none⟩, []),
 (⟨.store1 (.tm 0) (.tm 8), .no, none⟩, []),
 (⟨.nilck (.tm 13), .tm, none⟩, []),
 (⟨.faddr 1 (.tm 0), .tm, none⟩, []),
 (⟨.store1 (.tm 0) (.tm 4), .no, none⟩, [])])
 (.skip)) <|
 .seq (.reg [
 ⟨.mov (.c (.int .i64 0)), .fr 3, none⟩]) <|
 .ret, [.t 3]⟩
def f159 : AFunc := ⟨[0, 1, 2, 3, 4, 5, 6, 7, 8, 9, 10, 11, 12, 13, 14, 15, 16, 42, 47, 48, 49, 50, 68, 69, 70, 71, 98, 99, 100, 101, 128, 129, 130, 131],
 .seq (.reg [
 ⟨.box 33 4 (.fr 0), .fr 1, none⟩,
 ⟨.mov (.c (.bool false)), .fr 2, none⟩]) <|
 .seq (.dreg [
 (⟨.faddr 0 (.fr 1), .tm, none⟩, []),
 (⟨.load1 (.tm 0), .tm, none⟩, []),
 (⟨.len false (.tm 0), .tm, none⟩, []),
 (⟨.faddr 1 (.fr 1), .tm, none⟩, []),
 (⟨.load1 (.tm 0), .tm, none⟩, []),
 (⟨.len false (.tm 0), .tm, none⟩, []),
 (⟨.faddr 2 (.fr 1), .tm, none⟩, []),
 (⟨.load1 (.tm 0), .tm, none⟩, []),
 (⟨.len false (.tm 0), .tm, none⟩, []),
 (⟨.faddr 3 (.fr 1), .tm, none⟩, []),
 (⟨.load1 (.tm 0), .tm, none⟩, []),
 (⟨.len false (.tm 0), .tm, none⟩, []),
 (⟨.mov (.tm 9), .fr 3, none⟩, []),
 (⟨.mov (.tm 6), .fr 4, none⟩, []),
 (⟨.mov (.tm 3), .fr 5, none⟩, []),
 (⟨.mov (.tm 0), .fr 6, none⟩, [])]) <|
 .seq (.seq (.reg [
 ⟨.mov (.fr 3), .tm, none⟩,
 ⟨.bin .gtr (.tm 0) (.c (.int .i64 64)), .tm, none⟩,
 ⟨.mov (.tm 0), .tm, none⟩,
 ⟨.mov (.fr 4), .tm, some ((.tm 0), false)⟩,
 ⟨.bin .gtr (.tm 0) (.c (.int .i64 32)), .tm, some ((.tm 1), false)⟩,
 ⟨.pick (.tm 2) (.c (.bool true)) (.tm 0), .tm, none⟩,
 ⟨.mov (.tm 0), .tm, none⟩,
 ⟨.mov (.fr 5), .tm, some ((.tm 0), false)⟩,
 ⟨.bin .gtr (.tm 0) (.c (.int .i64 32)), .tm, some ((.tm 1), false)⟩,
 ⟨.pick (.tm 2) (.c (.bool true)) (.tm 0), .tm, none⟩,
 ⟨.mov (.tm 0), .tm, none⟩,
 ⟨.mov (.fr 6), .tm, some ((.tm 0), false)⟩,
 ⟨.bin .gtr (.tm 0) (.c (.int .i64 64)), .tm, some ((.tm 1), false)⟩,
 ⟨.pick (.tm 2) (.c (.bool true)) (.tm 0), .fr 17, none⟩]) <|
 .cond (.fr 17)
 (.seq (.reg [
 ⟨.mov (.c (.bool false)), .fr 2, none⟩]) <|
 .ret)
 (.skip)) <|
 .seq (.reg [
 ⟨.mkmap, .tm, none⟩,
 ⟨.build [(.slice none 0 0), (.slice none 0 0), (.slice none 0 0), (.slice none 0 0), (.map none)] [(4, 1, (.tm 0))], .tm, none⟩,
 ⟨.box 370 5 (.tm 0), .tm, none⟩,
 ⟨.mov (.tm 0), .fr 7, none⟩]) <|
 .seq (.reg [
 ⟨.mov (.c (.bool true)), .fr 8, none⟩]) <|
 .seq (.seq (.reg [
 ⟨.faddr 0 (.fr 1), .tm, none⟩,
 ⟨.load1 (.tm 0), .fr 18, none⟩,
 ⟨.len false (.fr 18), .fr 19, none⟩,
 ⟨.mov (.c (.int .i64 0)), .fr 20, none⟩]) <|
 .block 0 (.loop (.seq (.reg [
 ⟨.bin .lss (.fr 20) (.fr 19), .fr 21, none⟩]) <|
 .seq (.cond (.fr 21)
 (.skip)
 (.exit 0)) <|
 .seq (.block 1 (.seq (.reg [
 ⟨.mov (.fr 20), .tm, none⟩,
 ⟨.iaddr 1 (.fr 18) (.fr 20), .tm, none⟩,
 ⟨.load1 (.tm 0), .tm, none⟩,
 ⟨.mov (.tm 2), .fr 9, none⟩,
 ⟨.mov (.tm 0), .fr 10, none⟩]) <|
 .reg [
 ⟨.mov (.fr 8), .tm, none⟩,
 ⟨.mov (.tm 0), .tm, none⟩,
 ⟨.mov (.fr 10), .tm, some ((.tm 0), true)⟩,
 ⟨.callf 225 [(.tm 0)], .tm, some ((.tm 1), true)⟩,
 ⟨.pick (.tm 2) (.tm 0) (.c (.bool false)), .tm, none⟩,
 ⟨.mov (.tm 0), .tm, none⟩,
 ⟨.mov (.fr 7), .tm, some ((.tm 0), true)⟩,
 ⟨.mov (.fr 10), .tm, some ((.tm 1), true)⟩,
 ⟨.mov (.fr 9), .tm, some ((.tm 2), true)⟩,
 ⟨.iface 373 (.tm 0), .tm, some ((.tm 3), true)⟩,
 ⟨.callf 226 [(.tm 3), (.tm 2), (.tm 0)], .tm, some ((.tm 4), true)⟩,
 ⟨.pick (.tm 5) (.tm 0) (.c (.bool false)), .tm, none⟩,
 ⟨.mov (.tm 0), .fr 8, none⟩])) <|
 .reg [
 ⟨.bin .add (.fr 20) (.c (.int .i64 1)), .tm, none⟩,
 ⟨.mov (.tm 0), .fr 20, none⟩]))) <|
 .seq (.seq (.reg [
 ⟨.faddr 1 (.fr 1), .tm, none⟩,
 ⟨.load1 (.tm 0), .fr 22, none⟩,
 ⟨.len false (.fr 22), .fr 23, none⟩,
 ⟨.mov (.c (.int .i64 0)), .fr 24, none⟩]) <|
 .block 2 (.loop (.seq (.reg [
 ⟨.bin .lss (.fr 24) (.fr 23), .fr 25, none⟩]) <|
 .seq (.cond (.fr 25)
 (.skip)
 (.exit 2)) <|
 .seq (.block 3 (.seq (.reg [
 ⟨.mov (.fr 24), .tm, none⟩,
 ⟨.iaddr 2 (.fr 22) (.fr 24), .tm, none⟩,
 ⟨.loadn 2 (.tm 0), .tm, none⟩,
 ⟨.new 27 2 [(.string ByteArray.empty), (.int .i64 0)], .fr 12, none⟩,
 ⟨.mov (.tm 2), .fr 11, none⟩,
 ⟨.storen 2 (.fr 12) (.tm 0), .no, none⟩]) <|
 .reg [
 ⟨.mov (.fr 8), .tm, none⟩,
 ⟨.mov (.tm 0), .tm, none⟩,
 ⟨.faddr 0 (.fr 12), .tm, some ((.tm 0), true)⟩,
 ⟨.load1 (.tm 0), .tm, some ((.tm 1), true)⟩,
 ⟨.callf 225 [(.tm 0)], .tm, some ((.tm 2), true)⟩,
 ⟨.pick (.tm 3) (.tm 0) (.c (.bool false)), .tm, none⟩,
 ⟨.mov (.tm 0), .tm, none⟩,
 ⟨.mov (.fr 7), .tm, some ((.tm 0), true)⟩,
 ⟨.faddr 0 (.fr 12), .tm, some ((.tm 1), true)⟩,
 ⟨.load1 (.tm 0), .tm, some ((.tm 2), true)⟩,
 ⟨.mov (.fr 11), .tm, some ((.tm 3), true)⟩,
 ⟨.iface 374 (.tm 0), .tm, some ((.tm 4), true)⟩,
 ⟨.callf 226 [(.tm 4), (.tm 2), (.tm 0)], .tm, some ((.tm 5), true)⟩,
 ⟨.pick (.tm 6) (.tm 0) (.c (.bool false)), .tm, none⟩,
 ⟨.mov (.tm 0), .tm, none⟩,
 ⟨.mov (.fr 3), .tm, some ((.tm 0), true)⟩,
 ⟨.faddr 1 (.fr 12), .tm, some ((.tm 1), true)⟩,
 ⟨.load1 (.tm 0), .tm, some ((.tm 2), true)⟩,
 ⟨.bslice 3 1 1 [(.int .i64 0)] [(0, 1, (.tm 0))], .tm, some ((.tm 3), true)⟩,
 ⟨.callf 227 [(.tm 3), (.tm 0)], .tm, some ((.tm 4), true)⟩,
 ⟨.pick (.tm 5) (.tm 0) (.c (.bool false)), .tm, none⟩,
 ⟨.mov (.tm 0), .fr 8, none⟩])) <|
 .reg [
 ⟨.bin .add (.fr 24) (.c (.int .i64 1)), .tm, none⟩,
 ⟨.mov (.tm 0), .fr 24, none⟩]))) <|
 .seq (.seq (.reg [
 ⟨.faddr 2 (.fr 1), .tm, none⟩,
 ⟨.load1 (.tm 0), .fr 26, none⟩,
 ⟨.len false (.fr 26), .fr 27, none⟩,
 ⟨.mov (.c (.int .i64 0)), .fr 28, none⟩]) <|
 .block 4 (.loop (.seq (.reg [
 ⟨.bin .lss (.fr 28) (.fr 27), .fr 29, none⟩]) <|
 .seq (.cond (.fr 29)
 (.skip)
 (.exit 4)) <|
 .seq (.block 5 (.seq (.reg [
 ⟨.mov (.fr 28), .tm, none⟩,
 ⟨.iaddr 2 (.fr 26) (.fr 28), .tm, none⟩,
 ⟨.loadn 2 (.tm 0), .tm, none⟩,
 ⟨.new 88 2 [(.string ByteArray.empty), (.int .i64 0)], .fr 14, none⟩,
 ⟨.mov (.tm 2), .fr 13, none⟩,
 ⟨.storen 2 (.fr 14) (.tm 0), .no, none⟩]) <|
 .reg [
 ⟨.mov (.fr 8), .tm, none⟩,
 ⟨.mov (.tm 0), .tm, none⟩,
 ⟨.faddr 0 (.fr 14), .tm, some ((.tm 0), true)⟩,
 ⟨.load1 (.tm 0), .tm, some ((.tm 1), true)⟩,
 ⟨.callf 225 [(.tm 0)], .tm, some ((.tm 2), true)⟩,
 ⟨.pick (.tm 3) (.tm 0) (.c (.bool false)), .tm, none⟩,
 ⟨.mov (.tm 0), .tm, none⟩,
 ⟨.mov (.fr 7), .tm, some ((.tm 0), true)⟩,
 ⟨.faddr 0 (.fr 14), .tm, some ((.tm 1), true)⟩,
 ⟨.load1 (.tm 0), .tm, some ((.tm 2), true)⟩,
 ⟨.mov (.fr 13), .tm, some ((.tm 3), true)⟩,
 ⟨.iface 376 (.tm 0), .tm, some ((.tm 4), true)⟩,
 ⟨.callf 226 [(.tm 4), (.tm 2), (.tm 0)], .tm, some ((.tm 5), true)⟩,
 ⟨.pick (.tm 6) (.tm 0) (.c (.bool false)), .tm, none⟩,
 ⟨.mov (.tm 0), .tm, none⟩,
 ⟨.mov (.fr 3), .tm, some ((.tm 0), true)⟩,
 ⟨.faddr 1 (.fr 14), .tm, some ((.tm 1), true)⟩,
 ⟨.load1 (.tm 0), .tm, some ((.tm 2), true)⟩,
 ⟨.bslice 3 1 1 [(.int .i64 0)] [(0, 1, (.tm 0))], .tm, some ((.tm 3), true)⟩,
 ⟨.callf 227 [(.tm 3), (.tm 0)], .tm, some ((.tm 4), true)⟩,
 ⟨.pick (.tm 5) (.tm 0) (.c (.bool false)), .tm, none⟩,
 ⟨.mov (.tm 0), .fr 8, none⟩])) <|
 .reg [
 ⟨.bin .add (.fr 28) (.c (.int .i64 1)), .tm, none⟩,
 ⟨.mov (.tm 0), .fr 28, none⟩]))) <|
 .seq (.seq (.reg [
 ⟨.faddr 3 (.fr 1), .tm, none⟩,
 ⟨.load1 (.tm 0), .fr 30, none⟩,
 ⟨.len false (.fr 30), .fr 31, none⟩,
 ⟨.mov (.c (.int .i64 0)), .fr 32, none⟩]) <|
 .block 6 (.loop (.seq (.reg [
 ⟨.bin .lss (.fr 32) (.fr 31), .fr 33, none⟩]) <|
 .seq (.cond (.fr 33)
 (.skip)
 (.exit 6)) <|
 .seq (.block 7 (.seq (.reg [
 ⟨.mov (.fr 32), .tm, none⟩,
 ⟨.iaddr 6 (.fr 30) (.fr 32), .tm, none⟩,
 ⟨.loadn 6 (.tm 0), .tm, none⟩,
 ⟨.new 93 6 [(.string ByteArray.empty), (.int .i64 0), (.slice none 0 0), (.slice none 0 0), (.slice none 0 0), (.slice none 0 0)], .fr 16, none⟩,
 ⟨.mov (.tm 2), .fr 15, none⟩,
 ⟨.storen 6 (.fr 16) (.tm 0), .no, none⟩]) <|
 .seq (.reg [
 ⟨.mov (.fr 8), .tm, none⟩,
 ⟨.mov (.tm 0), .tm, none⟩,
 ⟨.faddr 0 (.fr 16), .tm, some ((.tm 0), true)⟩,
 ⟨.load1 (.tm 0), .tm, some ((.tm 1), true)⟩,
 ⟨.callf 225 [(.tm 0)], .tm, some ((.tm 2), true)⟩,
 ⟨.pick (.tm 3) (.tm 0) (.c (.bool false)), .tm, none⟩,
 ⟨.mov (.tm 0), .tm, none⟩,
 ⟨.mov (.fr 7), .tm, some ((.tm 0), true)⟩,
 ⟨.faddr 0 (.fr 16), .tm, some ((.tm 1), true)⟩,
 ⟨.load1 (.tm 0), .tm, some ((.tm 2), true)⟩,
 ⟨.mov (.fr 15), .tm, some ((.tm 3), true)⟩,
 ⟨.iface 377 (.tm 0), .tm, some ((.tm 4), true)⟩,
 ⟨.callf 226 [(.tm 4), (.tm 2), (.tm 0)], .tm, some ((.tm 5), true)⟩,
 ⟨.pick (.tm 6) (.tm 0) (.c (.bool false)), .tm, none⟩,
 ⟨.mov (.tm 0), .tm, none⟩,
 ⟨.mov (.fr 5), .tm, some ((.tm 0), true)⟩,
 ⟨.faddr 1 (.fr 16), .tm, some ((.tm 1), true)⟩,
 ⟨.load1 (.tm 0), .tm, some ((.tm 2), true)⟩,
 ⟨.bslice 3 1 1 [(.int .i64 0)] [(0, 1, (.tm 0))], .tm, some ((.tm 3), true)⟩,
 ⟨.callf 227 [(.tm 3), (.tm 0)], .tm, some ((.tm 4), true)⟩,
 ⟨.pick (.tm 5) (.tm 0) (.c (.bool false)), .tm, none⟩,
 ⟨.mov (.tm 0), .fr 8, none⟩]) <|
 .seq (.reg [
 ⟨.mov (.fr 8), .tm, none⟩,
 ⟨.mov (.tm 0), .tm, none⟩,
 ⟨.faddr 2 (.fr 16), .tm, some ((.tm 0), true)⟩,
 ⟨.load1 (.tm 0), .tm, some ((.tm 1), true)⟩,
 ⟨.len false (.tm 0), .tm, some ((.tm 2), true)⟩,
 ⟨.bin .leq (.tm 0) (.c (.int .i64 16)), .tm, some ((.tm 3), true)⟩,
 ⟨.pick (.tm 4) (.tm 0) (.c (.bool false)), .tm, none⟩,
 ⟨.mov (.tm 0), .tm, none⟩,
 ⟨.faddr 4 (.fr 16), .tm, some ((.tm 0), true)⟩,
 ⟨.load1 (.tm 0), .tm, some ((.tm 1), true)⟩,
 ⟨.len false (.tm 0), .tm, some ((.tm 2), true)⟩,
 ⟨.bin .leq (.tm 0) (.c (.int .i64 16)), .tm, some ((.tm 3), true)⟩,
 ⟨.pick (.tm 4) (.tm 0) (.c (.bool false)), .tm, none⟩,
 ⟨.mov (.tm 0), .tm, none⟩,
 ⟨.mov (.fr 3), .tm, some ((.tm 0), true)⟩,
 ⟨.faddr 2 (.fr 16), .tm, some ((.tm 1), true)⟩,
 ⟨.load1 (.tm 0), .tm, some ((.tm 2), true)⟩,
 ⟨.callf 227 [(.tm 2), (.tm 0)], .tm, some ((.tm 3), true)⟩,
 ⟨.pick (.tm 4) (.tm 0) (.c (.bool false)), .tm, none⟩,
 ⟨.mov (.tm 0), .tm, none⟩,
 ⟨.mov (.fr 3), .tm, some ((.tm 0), true)⟩,
 ⟨.faddr 4 (.fr 16), .tm, some ((.tm 1), true)⟩,
 ⟨.load1 (.tm 0), .tm, some ((.tm 2), true)⟩,
 ⟨.callf 227 [(.tm 2), (.tm 0)], .tm, some ((.tm 3), true)⟩,
 ⟨.pick (.tm 4) (.tm 0) (.c (.bool false)), .tm, none⟩,
 ⟨.mov (.tm 0), .fr 8, none⟩]) <|
 .reg [
 ⟨.mov (.fr 8), .tm, none⟩,
 ⟨.mov (.tm 0), .tm, none⟩,
 ⟨.faddr 3 (.fr 16), .tm, some ((.tm 0), true)⟩,
 ⟨.load1 (.tm 0), .tm, some ((.tm 1), true)⟩,
 ⟨.mov (.fr 4), .tm, some ((.tm 2), true)⟩,
 ⟨.callf 228 [(.tm 1), (.tm 0)], .tm, some ((.tm 3), true)⟩,
 ⟨.pick (.tm 4) (.tm 0) (.c (.bool false)), .tm, none⟩,
 ⟨.mov (.tm 0), .tm, none⟩,
 ⟨.faddr 5 (.fr 16), .tm, some ((.tm 0), true)⟩,
 ⟨.load1 (.tm 0), .tm, some ((.tm 1), true)⟩,
 ⟨.mov (.fr 4), .tm, some ((.tm 2), true)⟩,
 ⟨.callf 228 [(.tm 1), (.tm 0)], .tm, some ((.tm 3), true)⟩,
 ⟨.pick (.tm 4) (.tm 0) (.c (.bool false)), .tm, none⟩,
 ⟨.mov (.tm 0), .fr 8, none⟩])) <|
 .reg [
 ⟨.bin .add (.fr 32) (.c (.int .i64 1)), .tm, none⟩,
 ⟨.mov (.tm 0), .fr 32, none⟩]))) <|
 .seq (.reg [
 ⟨.mov (.fr 8), .tm, none⟩,
 ⟨.mov (.tm 0), .fr 2, none⟩]) <|
 .ret, [.t 2]⟩
def f254 : AFunc := ⟨[0, 1, 2, 3, 4, 5, 6, 7, 8, 9, 11, 13, 20, 38, 39, 40, 41, 67, 68, 69, 70, 74, 98, 99, 100, 101],
 .seq (.reg [
 ⟨.box 33 4 (.fr 0), .fr 1, none⟩,
 ⟨.new 411 5 [(.slice none 0 0), (.slice none 0 0), (.int .u64 0), (.int .u32 0), (.int .u64 0)], .fr 2, none⟩,
 ⟨.mov (.c (.int .i64 0)), .fr 3, none⟩]) <|
 .seq (.reg [
 ⟨.loadn 4 (.fr 1), .tm, none⟩,
 ⟨.callf 305 [(.tm 0)], .tm, none⟩,
 ⟨.mov (.tm 0), .tm, none⟩,
 ⟨.extract (.tm 0) 0, .tm, none⟩,
 ⟨.extract (.tm 1) 1, .tm, none⟩,
 ⟨.mov (.tm 1), .fr 4, none⟩,
 ⟨.mov (.tm 0), .fr 5, none⟩]) <|
 .seq (.seq (.reg [
 ⟨.mov (.fr 5), .tm, none⟩,
 ⟨.bin .neq (.tm 0) (.c (.int .i64 0)), .fr 12, none⟩]) <|
 .cond (.fr 12)
 (.seq (.reg [
 ⟨.build [(.slice none 0 0), (.slice none 0 0), (.int .u64 0), (.int .u32 0), (.int .u64 0)] [], .tm, none⟩,
 ⟨.mov (.fr 5), .tm, none⟩,
 ⟨.storen 5 (.fr 2) (.tm 1), .no, none⟩,
 ⟨.mov (.tm 0), .fr 3, none⟩]) <|
 .ret)
 (.skip)) <|
 .seq (.dreg [
 (⟨.faddr 3 (.fr 1), .tm, none⟩, []),
 (⟨.load1 (.tm 0), .tm, none⟩, []),
 (⟨.len false (.tm 0), .tm, none⟩, []),
 (⟨.callf 306 [(.tm 0)], .tm, none⟩, []),
 (⟨.faddr 1 (.fr 1), .tm, none⟩, []),
 (⟨.load1 (.tm 0), .tm, none⟩, [3]),
 (⟨.len false (.tm 0), .tm, none⟩, []),
 (⟨.callf 306 [(.tm 0)], .tm, none⟩, []),
 (⟨.i2i .u32 (.tm 0), .tm, none⟩, []),
 (⟨.faddr 0 (.fr 1), .tm, none⟩, []),
 (⟨.load1 (.tm 0), .tm, none⟩, [3, 7]),
 (⟨.len false (.tm 0), .tm, none⟩, []),
 (⟨.callf 306 [(.tm 0)], .tm, none⟩, []),
 (⟨.build [(.slice none 0 0), (.slice none 0 0), (.int .u64 0), (.int .u32 0), (.int .u64 0)] [(2, 1, (.tm 9)), (3, 1, (.tm 4)), (4, 1, (.tm 0))], .tm, none⟩, []),
 (⟨.new 411 5 [(.slice none 0 0), (.slice none 0 0), (.int .u64 0), (.int .u32 0), (.int .u64 0)], .fr 6, none⟩, []),
 (⟨.storen 5 (.fr 6) (.tm 0), .no, none⟩, [])]) <|
 .seq (.seq (.reg [
 ⟨.faddr 3 (.fr 1), .tm, none⟩,
 ⟨.load1 (.tm 0), .fr 13, none⟩,
 ⟨.len false (.fr 13), .fr 14, none⟩,
 ⟨.mov (.c (.int .i64 0)), .fr 15, none⟩]) <|
 .block 0 (.loop (.seq (.reg [
 ⟨.bin .lss (.fr 15) (.fr 14), .fr 16, none⟩]) <|
 .seq (.cond (.fr 16)
 (.skip)
 (.exit 0)) <|
 .seq (.block 1 (.seq (.reg [
 ⟨.mov (.fr 15), .tm, none⟩,
 ⟨.iaddr 6 (.fr 13) (.fr 15), .tm, none⟩,
 ⟨.loadn 6 (.tm 0), .tm, none⟩,
 ⟨.new 93 6 [(.string ByteArray.empty), (.int .i64 0), (.slice none 0 0), (.slice none 0 0), (.slice none 0 0), (.slice none 0 0)], .fr 8, none⟩,
 ⟨.mov (.tm 2), .fr 7, none⟩,
 ⟨.storen 6 (.fr 8) (.tm 0), .no, none⟩]) <|
 .seq (.dreg [
 (⟨.loadn 6 (.fr 8), .tm, none⟩, []),
 (⟨.callf 110 [(.tm 0)], .tm, none⟩, []),
 (⟨.callf 307 [(.tm 0)], .tm, none⟩, []),
 (⟨.faddr 2 (.fr 8), .tm, none⟩, []),
 (⟨.load1 (.tm 0), .tm, none⟩, [1, 2]),
 (⟨.iaddr 1 (.tm 0) (.c (.int .i64 0)), .tm, none⟩, []),
 (⟨.load1 (.tm 0), .tm, none⟩, [1, 2]),
 (⟨.callf 308 [(.c (.int .u64 0)), (.tm 0)], .tm, none⟩, []),
 (⟨.faddr 2 (.fr 1), .tm, none⟩, []),
 (⟨.load1 (.tm 0), .tm, none⟩, [1, 2, 7]),
 (⟨.faddr 1 (.fr 8), .tm, none⟩, []),
 (⟨.load1 (.tm 0), .tm, none⟩, [1, 2, 7]),
 (⟨.iaddr 2 (.tm 2) (.tm 0), .tm, none⟩, []),
 (⟨.faddr 1 (.tm 0), .tm, none⟩, []),
 (⟨.load1 (.tm 0), .tm, none⟩, [1, 2, 7]),
 (⟨.callf 308 [(.c (.int .u64 0)), (.tm 0)], .tm, none⟩, []),
 (⟨.mov (.fr 4), .tm, none⟩, []),
 (⟨.mov (.fr 7), .tm, none⟩, []),
 (⟨.iaddr 1 (.tm 1) (.tm 0), .tm, none⟩, []),
 (⟨.load1 (.tm 0), .tm, none⟩, [1, 2, 7, 15]),
 (⟨.build [(.int .u64 0), (.int .u64 0), (.int .u64 0), (.int .u32 0), (.int .u32 0), (.int .u64 0)] [(0, 1, (.tm 17)), (1, 1, (.tm 12)), (2, 1, (.tm 4)), (5, 1, (.tm 0))], .tm, none⟩, []),
 (⟨.new 472 6 [(.int .u64 0), (.int .u64 0), (.int .u64 0), (.int .u32 0), (.int .u32 0), (.int .u64 0)], .fr 9, none⟩, []),
 (⟨.storen 6 (.fr 9) (.tm 0), .no, none⟩, [])]) <|
 .seq (.seq (.reg [
 ⟨.loadn 6 (.fr 8), .tm, none⟩,
 ⟨.callf 111 [(.tm 0)], .fr 17, none⟩,
 ⟨.len false (.fr 17), .fr 18, none⟩,
 ⟨.mov (.c (.int .i64 0)), .fr 19, none⟩]) <|
 .block 2 (.loop (.seq (.reg [
 ⟨.bin .lss (.fr 19) (.fr 18), .fr 20, none⟩]) <|
 .seq (.cond (.fr 20)
 (.skip)
 (.exit 2)) <|
 .seq (.block 3 (.seq (.reg [
 ⟨.iaddr 2 (.fr 17) (.fr 19), .tm, none⟩,
 ⟨.loadn 2 (.tm 0), .tm, none⟩,
 ⟨.new 90 2 [(.int .i64 0), (.bool false)], .fr 10, none⟩,
 ⟨.storen 2 (.fr 10) (.tm 0), .no, none⟩]) <|
 .seq (.reg [
 ⟨.faddr 1 (.fr 10), .tm, none⟩,
 ⟨.load1 (.tm 0), .fr 21, none⟩]) <|
 .cond (.fr 21)
 (.dreg [
 (⟨.faddr 4 (.fr 9), .tm, none⟩, []),
 (⟨.load1 (.tm 0), .tm, none⟩, []),
 (⟨.faddr 0 (.fr 10), .tm, none⟩, []),
 (⟨.load1 (.tm 0), .tm, none⟩, []),
 (⟨.bin .shl (.c (.int .u32 1)) (.tm 0), .tm, none⟩, []),
 (⟨.bin .or (.tm 3) (.tm 0), .tm, none⟩, []),
 (⟨.faddr 4 (.fr 9), .tm, none⟩, []),
 (⟨.store1 (.tm 0) (.tm 1), .no, none⟩, [])])
 (.dreg [
 (⟨.faddr 3 (.fr 9), .tm, none⟩, []),
 (⟨.load1 (.tm 0), .tm, none⟩, []),
 (⟨.faddr 0 (.fr 10), .tm, none⟩, []),
 (⟨.load1 (.tm 0), .tm, none⟩, []),
 (⟨.bin .shl (.c (.int .u32 1)) (.tm 0), .tm, none⟩, []),
 (⟨.bin .or (.tm 3) (.tm 0), .tm, none⟩, []),
 (⟨.faddr 3 (.fr 9), .tm, none⟩, []),
 (⟨.store1 (.tm 0) (.tm 1), .no, none⟩, [])]))) <|
 .reg [
 ⟨.bin .add (.fr 19) (.c (.int .i64 1)), .tm, none⟩,
 ⟨.mov (.tm 0), .fr 19, none⟩]))) <|
 .reg [
 ⟨.faddr 0 (.fr 6), .tm, none⟩,
 ⟨.load1 (.tm 0), .tm, none⟩,
 ⟨.loadn 6 (.fr 9), .tm, none⟩,
 ⟨.bslice 472 6 1 [(.int .u64 0), (.int .u64 0), (.int .u64 0), (.int .u32 0), (.int .u32 0), (.int .u64 0)] [(0, 6, (.tm 0))], .tm, none⟩,
 ⟨.app 472 6 40 (.tm 2) (.tm 0), .tm, none⟩,
 ⟨.faddr 0 (.fr 6), .tm, none⟩,
 ⟨.store1 (.tm 0) (.tm 1), .no, none⟩])) <|
 .reg [
 ⟨.bin .add (.fr 15) (.c (.int .i64 1)), .tm, none⟩,
 ⟨.mov (.tm 0), .fr 15, none⟩]))) <|
 .seq (.seq (.reg [
 ⟨.faddr 1 (.fr 1), .tm, none⟩,
 ⟨.load1 (.tm 0), .fr 22, none⟩,
 ⟨.len false (.fr 22), .fr 23, none⟩,
 ⟨.mov (.c (.int .i64 0)), .fr 24, none⟩]) <|
 .block 4 (.loop (.seq (.reg [
 ⟨.bin .lss (.fr 24) (.fr 23), .fr 25, none⟩]) <|
 .seq (.cond (.fr 25)
 (.skip)
 (.exit 4)) <|
 .seq (.block 5 (.seq (.reg [
 ⟨.iaddr 2 (.fr 22) (.fr 24), .tm, none⟩,
 ⟨.loadn 2 (.tm 0), .tm, none⟩,
 ⟨.new 27 2 [(.string ByteArray.empty), (.int .i64 0)], .fr 11, none⟩,
 ⟨.storen 2 (.fr 11) (.tm 0), .no, none⟩]) <|
 .dreg [
 (⟨.faddr 1 (.fr 6), .tm, none⟩, []),
 (⟨.load1 (.tm 0), .tm, none⟩, []),
 (⟨.faddr 1 (.fr 11), .tm, none⟩, []),
 (⟨.load1 (.tm 0), .tm, none⟩, []),
 (⟨.callf 308 [(.c (.int .u64 0)), (.tm 0)], .tm, none⟩, [1]),
 (⟨.bslice 36 1 1 [(.int .u64 0)] [(0, 1, (.tm 0))], .tm, none⟩, []),
 (⟨.app 36 1 8 (.tm 4) (.tm 0), .tm, none⟩, []),
 (⟨.faddr 1 (.fr 6), .tm, none⟩, []),
 (⟨.store1 (.tm 0) (.tm 1), .no, none⟩, [])])) <|
 .reg [
 ⟨.bin .add (.fr 24) (.c (.int .i64 1)), .tm, none⟩,
 ⟨.mov (.tm 0), .fr 24, none⟩]))) <|
 .seq (.reg [
 ⟨.loadn 5 (.fr 6), .tm, none⟩,
 ⟨.storen 5 (.fr 2) (.tm 0), .no, none⟩,
 ⟨.mov (.c (.int .i64 0)), .fr 3, none⟩]) <|
 .ret, [.cn 5 2, .t 3]⟩
def f367 : AFunc := ⟨[0, 1, 4, 6, 8, 34, 36, 37, 38, 39, 69, 83, 84, 85, 86, 90],
 .seq (.reg [
 ⟨.mov (.fr 0), .tm, none⟩,
 ⟨.nilck (.tm 0), .tm, none⟩,
 ⟨.faddr 0 (.tm 0), .tm, none⟩,
 ⟨.load1 (.tm 0), .tm, none⟩,
 ⟨.nilck (.tm 0), .tm, none⟩,
 ⟨.faddr 0 (.tm 0), .tm, none⟩,
 ⟨.load1 (.tm 0), .tm, none⟩,
 ⟨.mov (.fr 1), .tm, none⟩,
 ⟨.iaddr 5 (.tm 1) (.tm 0), .tm, none⟩,
 ⟨.loadn 5 (.tm 0), .tm, none⟩,
 ⟨.new 205 5 [(.int .i64 0), (.int .i64 0), (.slice none 0 0), (.slice none 0 0), (.slice none 0 0)], .fr 2, none⟩,
 ⟨.storen 5 (.fr 2) (.tm 0), .no, none⟩]) <|
 .seq (.seq (.reg [
 ⟨.mov (.fr 0), .tm, none⟩,
 ⟨.mov (.fr 1), .tm, none⟩,
 ⟨.callf 364 [(.tm 1), (.tm 0)], .tm, none⟩,
 ⟨.mov (.tm 0), .tm, none⟩,
 ⟨.mov (.fr 0), .tm, some ((.tm 0), false)⟩,
 ⟨.mov (.fr 1), .tm, some ((.tm 1), false)⟩,
 ⟨.callf 370 [(.tm 1), (.tm 0)], .tm, some ((.tm 2), false)⟩,
 ⟨.un .not (.tm 0), .tm, some ((.tm 3), false)⟩,
 ⟨.pick (.tm 4) (.c (.bool true)) (.tm 0), .tm, none⟩,
 ⟨.mov (.tm 0), .tm, none⟩,
 ⟨.faddr 4 (.fr 2), .tm, some ((.tm 0), false)⟩,
 ⟨.load1 (.tm 0), .tm, some ((.tm 1), false)⟩,
 ⟨.mov (.fr 0), .tm, some ((.tm 2), false)⟩,
 ⟨.mkfn (.func 364) [(.tm 0)] [], .tm, some ((.tm 3), false)⟩,
 ⟨.callf 176 [(.tm 2), (.tm 0)], .tm, some ((.tm 4), false)⟩,
 ⟨.pick (.tm 5) (.c (.bool true)) (.tm 0), .fr 5, none⟩]) <|
 .cond (.fr 5)
 (.ret)
 (.skip)) <|
 .seq (.seq (.reg [
 ⟨.faddr 3 (.fr 2), .tm, none⟩,
 ⟨.load1 (.tm 0), .fr 6, none⟩,
 ⟨.len false (.fr 6), .fr 7, none⟩,
 ⟨.mov (.c (.int .i64 0)), .fr 8, none⟩]) <|
 .block 0 (.loop (.seq (.reg [
 ⟨.bin .lss (.fr 8) (.fr 7), .fr 9, none⟩]) <|
 .seq (.cond (.fr 9)
 (.skip)
 (.exit 0)) <|
 .seq (.block 1 (.seq (.reg [
 ⟨.iaddr 2 (.fr 6) (.fr 8), .tm, none⟩,
 ⟨.loadn 2 (.tm 0), .tm, none⟩,
 ⟨.new 90 2 [(.int .i64 0), (.bool false)], .fr 3, none⟩,
 ⟨.storen 2 (.fr 3) (.tm 0), .no, none⟩]) <|
 .seq (.dreg [
 (⟨.mov (.fr 0), .tm, none⟩, []),
 (⟨.nilck (.tm 0), .tm, none⟩, []),
 (⟨.faddr 1 (.tm 0), .tm, none⟩, []),
 (⟨.faddr 67 (.tm 0), .tm, none⟩, []),
 (⟨.load1 (.tm 0), .tm, none⟩, []),
 (⟨.i2i .u64 (.tm 0), .tm, none⟩, []),
 (⟨.faddr 0 (.fr 3), .tm, none⟩, []),
 (⟨.load1 (.tm 0), .tm, none⟩, []),
 (⟨.callf 175 [(.tm 2), (.tm 0)], .tm, none⟩, []),
 (⟨.faddr 1 (.fr 3), .tm, none⟩, []),
 (⟨.load1 (.tm 0), .tm, none⟩, [8]),
 (⟨.eqv 0 true (.tm 2) (.tm 0), .tm, none⟩, []),
 (⟨.mov (.tm 0), .tm, none⟩, []),
 (⟨.mov (.fr 0), .tm, some ((.tm 0), true)⟩, []),
 (⟨.mov (.fr 0), .tm, some ((.tm 1), true)⟩, []),
 (⟨.nilck (.tm 0), .tm, some ((.tm 2), true)⟩, []),
 (⟨.faddr 0 (.tm 0), .tm, some ((.tm 3), true)⟩, []),
 (⟨.load1 (.tm 0), .tm, some ((.tm 4), true)⟩, []),
 (⟨.nilck (.tm 0), .tm, some ((.tm 5), true)⟩, []),
 (⟨.faddr 1 (.tm 0), .tm, some ((.tm 6), true)⟩, []),
 (⟨.load1 (.tm 0), .tm, some ((.tm 7), true)⟩, []),
 (⟨.faddr 0 (.fr 3), .tm, some ((.tm 8), true)⟩, []),
 (⟨.load1 (.tm 0), .tm, some ((.tm 9), true)⟩, []),
 (⟨.iaddr 1 (.tm 2) (.tm 0), .tm, some ((.tm 10), true)⟩, []),
 (⟨.load1 (.tm 0), .tm, some ((.tm 11), true)⟩, []),
 (⟨.callf 371 [(.tm 11), (.tm 0)], .tm, some ((.tm 12), true)⟩, []),
 (⟨.un .not (.tm 0), .tm, some ((.tm 13), true)⟩, []),
 (⟨.pick (.tm 14) (.tm 0) (.c (.bool false)), .fr 10, none⟩, [])]) <|
 .cond (.fr 10)
 (.ret)
 (.skip))) <|
 .reg [
 ⟨.bin .add (.fr 8) (.c (.int .i64 1)), .tm, none⟩,
 ⟨.mov (.tm 0), .fr 8, none⟩]))) <|
 .seq (.dreg [
 (⟨.mov (.fr 0), .tm, none⟩, []),
 (⟨.nilck (.tm 0), .tm, none⟩, []),
 (⟨.faddr 1 (.tm 0), .tm, none⟩, []),
 (⟨.faddr 0 (.tm 0), .tm, none⟩, []),
 (⟨.load1 (.tm 0), .tm, none⟩, []),
 (⟨.mov (.fr 1), .tm, none⟩, []),
 (⟨.bin .shl (.c (.int .u64 1)) (.tm 0), .tm, none⟩, []),
 (⟨.bin .or (.tm 2) (.tm 0), .tm, none⟩, []),
 (⟨.nilck (.tm 7), .tm, none⟩, []),
 (⟨.faddr 1 (.tm 0), .tm, none⟩, []),
 (⟨.faddr 0 (.tm 0), .tm, none⟩, []),
 (⟨.store1 (.tm 0) (.tm 3), .no, none⟩, [])]) <|
 .seq (.reg [
 ⟨.faddr 3 (.fr 2), .tm, none⟩,
 ⟨.load1 (.tm 0), .fr 11, none⟩,
 ⟨.len false (.fr 11), .fr 12, none⟩,
 ⟨.mov (.c (.int .i64 0)), .fr 13, none⟩]) <|
 .block 2 (.loop (.seq (.reg [
 ⟨.bin .lss (.fr 13) (.fr 12), .fr 14, none⟩]) <|
 .seq (.cond (.fr 14)
 (.skip)
 (.exit 2)) <|
 .seq (.block 3 (.seq (.reg [
 ⟨.iaddr 2 (.fr 11) (.fr 13), .tm, none⟩,
 ⟨.loadn 2 (.tm 0), .tm, none⟩,
 ⟨.new 90 2 [(.int .i64 0), (.bool false)], .fr 4, none⟩,
 ⟨.storen 2 (.fr 4) (.tm 0), .no, none⟩]) <|
 .seq (.reg [
 ⟨.faddr 1 (.fr 4), .tm, none⟩,
 ⟨.load1 (.tm 0), .fr 15, none⟩]) <|
 .cond (.fr 15)
 (.dreg [
 (⟨.mov (.fr 0), .tm, none⟩, []),
 (⟨.nilck (.tm 0), .tm, none⟩, []),
 (⟨.faddr 1 (.tm 0), .tm, none⟩, []),
 (⟨.faddr 67 (.tm 0), .tm, none⟩, []),
 (⟨.load1 (.tm 0), .tm, none⟩, []),
 (⟨.faddr 0 (.fr 4), .tm, none⟩, []),
 (⟨.load1 (.tm 0), .tm, none⟩, []),
 (⟨.bin .shl (.c (.int .u32 1)) (.tm 0), .tm, none⟩, []),
 (⟨.bin .or (.tm 3) (.tm 0), .tm, none⟩, []),
 (⟨.nilck (.tm 8), .tm, none⟩, []),
 (⟨.faddr 1 (.tm 0), .tm, none⟩, []),
 (⟨.faddr 67 (.tm 0), .tm, none⟩, []),
 (⟨.store1 (.tm 0) (.tm 3), .no, none⟩, [])])
 (.dreg [
 (⟨.mov (.fr 0), .tm, none⟩, []),
 (⟨.nilck (.tm 0), .tm, none⟩, []),
 (⟨.faddr 1 (.tm 0), .tm, none⟩, []),
 (⟨.faddr 67 (.tm 0), .tm, none⟩, []),
 (⟨.load1 (.tm 0), .tm, none⟩, []),
 (⟨.faddr 0 (.fr 4), .tm, none⟩, []),
 (⟨.load1 (.tm 0), .tm, none⟩, []),
 (⟨.bin .shl (.c (.int .u32 1)) (.tm 0), .tm, none⟩, []),
 (⟨.bin .andNot (.tm 3) (.tm 0), .tm, none⟩, []),
 (⟨.nilck (.tm 8), .tm, none⟩, []),
 (⟨.faddr 1 (.tm 0), .tm, none⟩, []),
 (⟨.faddr 67 (.tm 0), .tm, none⟩, []),
 (⟨.store1 (.tm 0) (.tm 3), .no, none⟩, [])]))) <|
 .reg [
 ⟨.bin .add (.fr 13) (.c (.int .i64 1)), .tm, none⟩,
 ⟨.mov (.tm 0), .fr 13, none⟩])), []⟩
def f377 : AFunc := ⟨[0, 1, 2, 4, 5, 6, 7, 8, 9, 10, 11, 12, 13, 14, 15, 17, 19, 20, 21, 22, 24, 33, 34, 35, 36, 41, 81, 82, 83, 84, 96, 97, 98, 99],
 .seq (.reg [
 ⟨.box 45 68 (.fr 1), .fr 3, none⟩,
 ⟨.box 40 4 (.fr 2), .fr 4, none⟩,
 ⟨.new 45 68 Z68X, .fr 5, none⟩,
 ⟨.new 49 2 [(.int .u64 0), (.int .u32 0)], .fr 6, none⟩]) <|
 .seq (.seq (.reg [
 ⟨.mov (.fr 0), .tm, none⟩,
 ⟨.eqv 1 false (.tm 0) (.c (.pointer none)), .fr 20, none⟩]) <|
 .cond (.fr 20)
 (.seq (.reg [
 ⟨.build Z68X [], .tm, none⟩,
 ⟨.build [(.int .u64 0), (.int .u32 0)] [], .tm, none⟩,
 ⟨.storen 68 (.fr 5) (.tm 1), .no, none⟩,
 ⟨.storen 2 (.fr 6) (.tm 0), .no, none⟩]) <|
 .ret)
 (.skip)) <|
 .seq (.reg [
 ⟨.mov (.fr 0), .tm, none⟩,
 ⟨.loadn 68 (.fr 3), .tm, none⟩,
 ⟨.callf 379 [(.tm 1), (.tm 0)], .tm, none⟩,
 ⟨.storen 68 (.fr 3) (.tm 0), .no, none⟩]) <|
 .seq (.reg [
 ⟨.faddr 1 (.fr 3), .tm, none⟩,
 ⟨.load1 (.tm 0), .tm, none⟩,
 ⟨.mov (.tm 0), .fr 7, none⟩]) <|
 .seq (.seq (.reg [
 ⟨.faddr 3 (.fr 4), .tm, none⟩,
 ⟨.load1 (.tm 0), .fr 21, none⟩,
 ⟨.len false (.fr 21), .fr 22, none⟩,
 ⟨.mov (.c (.int .i64 0)), .fr 23, none⟩]) <|
 .block 0 (.loop (.seq (.reg [
 ⟨.bin .lss (.fr 23) (.fr 22), .fr 24, none⟩]) <|
 .seq (.cond (.fr 24)
 (.skip)
 (.exit 0)) <|
 .seq (.block 1 (.seq (.reg [
 ⟨.mov (.fr 23), .tm, none⟩,
 ⟨.iaddr 2 (.fr 21) (.fr 23), .tm, none⟩,
 ⟨.loadn 2 (.tm 0), .tm, none⟩,
 ⟨.new 121 2 [(.int .u8 0), (.int .i64 0)], .fr 9, none⟩,
 ⟨.mov (.tm 2), .fr 8, none⟩,
 ⟨.storen 2 (.fr 9) (.tm 0), .no, none⟩]) <|
 .seq (.reg [
 ⟨.mov (.fr 8), .tm, none⟩,
 ⟨.bin .lss (.tm 0) (.c (.int .i64 8)), .fr 25, none⟩]) <|
 .cond (.fr 25)
 (.reg [
 ⟨.mov (.fr 0), .tm, none⟩,
 ⟨.faddr 0 (.fr 4), .tm, none⟩,
 ⟨.load1 (.tm 0), .tm, none⟩,
 ⟨.loadn 2 (.fr 9), .tm, none⟩,
 ⟨.callf 382 [(.tm 3), (.fr 3), (.tm 1), (.tm 0)], .tm, none⟩])
 (.skip))) <|
 .reg [
 ⟨.bin .add (.fr 23) (.c (.int .i64 1)), .tm, none⟩,
 ⟨.mov (.tm 0), .fr 23, none⟩]))) <|
 .seq (.reg [
 ⟨.mov (.fr 0), .tm, none⟩,
 ⟨.nilck (.tm 0), .tm, none⟩,
 ⟨.faddr 0 (.tm 0), .tm, none⟩,
 ⟨.faddr 0 (.tm 0), .tm, none⟩,
 ⟨.load1 (.tm 0), .tm, none⟩,
 ⟨.mkfn (.func 384) [] [(.fr 4)], .tm, none⟩,
 ⟨.callf 383 [(.tm 1), (.tm 0)], .tm, none⟩,
 ⟨.mov (.tm 0), .fr 10, none⟩]) <|
 .seq (.reg [
 ⟨.mov (.fr 0), .tm, none⟩,
 ⟨.nilck (.tm 0), .tm, none⟩,
 ⟨.faddr 0 (.tm 0), .tm, none⟩,
 ⟨.faddr 0 (.tm 0), .tm, none⟩,
 ⟨.load1 (.tm 0), .tm, none⟩,
 ⟨.mkfn (.func 385) [] [(.fr 4)], .tm, none⟩,
 ⟨.callf 383 [(.tm 1), (.tm 0)], .tm, none⟩,
 ⟨.mov (.tm 0), .fr 11, none⟩]) <|
 .seq (.reg [
 ⟨.faddr 2 (.fr 3), .tm, none⟩,
 ⟨.load1 (.tm 0), .tm, none⟩,
 ⟨.mov (.fr 7), .tm, none⟩,
 ⟨.bin .andNot (.tm 1) (.tm 0), .tm, none⟩,
 ⟨.mov (.fr 11), .tm, none⟩,
 ⟨.bin .andNot (.tm 1) (.tm 0), .tm, none⟩,
 ⟨.mov (.tm 0), .fr 12, none⟩]) <|
 .seq (.reg [
 ⟨.faddr 3 (.fr 3), .tm, none⟩,
 ⟨.slarr 1 64 (.tm 0) none none none, .tm, none⟩,
 ⟨.callf 386 [(.tm 0), (.fn 387)], .tm, none⟩,
 ⟨.mov (.tm 0), .fr 13, none⟩]) <|
 .seq (.reg [
 ⟨.mov (.fr 10), .tm, none⟩,
 ⟨.mov (.fr 7), .tm, none⟩,
 ⟨.mov (.fr 12), .tm, none⟩,
 ⟨.mov (.fr 13), .tm, none⟩,
 ⟨.bin .and (.tm 1) (.tm 0), .tm, none⟩,
 ⟨.bin .or (.tm 3) (.tm 0), .tm, none⟩,
 ⟨.bin .and (.tm 5) (.tm 0), .tm, none⟩,
 ⟨.mov (.tm 0), .fr 14, none⟩]) <|
 .seq (.seq (.reg [
 ⟨.mov (.fr 12), .tm, none⟩,
 ⟨.mov (.fr 13), .tm, none⟩,
 ⟨.bin .andNot (.tm 1) (.tm 0), .tm, none⟩,
 ⟨.callf 388 [(.tm 0)], .fr 26, none⟩,
 ⟨.len false (.fr 26), .fr 27, none⟩,
 ⟨.mov (.c (.int .i64 0)), .fr 28, none⟩]) <|
 .block 2 (.loop (.seq (.reg [
 ⟨.bin .lss (.fr 28) (.fr 27), .fr 29, none⟩]) <|
 .seq (.cond (.fr 29)
 (.skip)
 (.exit 2)) <|
 .seq (.block 3 (.seq (.reg [
 ⟨.iaddr 1 (.fr 26) (.fr 28), .tm, none⟩,
 ⟨.load1 (.tm 0), .tm, none⟩,
 ⟨.mov (.tm 0), .fr 15, none⟩]) <|
 .reg [
 ⟨.mov (.fr 15), .tm, none⟩,
 ⟨.faddr 3 (.fr 3), .tm, none⟩,
 ⟨.iaddrp 1 64 (.tm 0) (.tm 1), .tm, none⟩,
 ⟨.load1 (.tm 0), .tm, none⟩,
 ⟨.bin .sub (.tm 0) (.c (.int .u8 1)), .tm, none⟩,
 ⟨.faddr 3 (.fr 3), .tm, none⟩,
 ⟨.iaddrp 1 64 (.tm 0) (.tm 5), .tm, none⟩,
 ⟨.store1 (.tm 0) (.tm 2), .no, none⟩])) <|
 .reg [
 ⟨.bin .add (.fr 28) (.c (.int .i64 1)), .tm, none⟩,
 ⟨.mov (.tm 0), .fr 28, none⟩]))) <|
 .seq (.seq (.reg [
 ⟨.mov (.fr 14), .tm, none⟩,
 ⟨.callf 388 [(.tm 0)], .fr 30, none⟩,
 ⟨.len false (.fr 30), .fr 31, none⟩,
 ⟨.mov (.c (.int .i64 0)), .fr 32, none⟩]) <|
 .block 4 (.loop (.seq (.reg [
 ⟨.bin .lss (.fr 32) (.fr 31), .fr 33, none⟩]) <|
 .seq (.cond (.fr 33)
 (.skip)
 (.exit 4)) <|
 .seq (.block 5 (.seq (.reg [
 ⟨.iaddr 1 (.fr 30) (.fr 32), .tm, none⟩,
 ⟨.load1 (.tm 0), .tm, none⟩,
 ⟨.mov (.tm 0), .fr 16, none⟩]) <|
 .reg [
 ⟨.mov (.fr 16), .tm, none⟩,
 ⟨.faddr 3 (.fr 3), .tm, none⟩,
 ⟨.iaddrp 1 64 (.tm 0) (.tm 1), .tm, none⟩,
 ⟨.store1 (.tm 0) (.c (.int .u8 0)), .no, none⟩])) <|
 .reg [
 ⟨.bin .add (.fr 32) (.c (.int .i64 1)), .tm, none⟩,
 ⟨.mov (.tm 0), .fr 32, none⟩]))) <|
 .seq (.reg [
 ⟨.faddr 0 (.fr 3), .tm, none⟩,
 ⟨.load1 (.tm 0), .tm, none⟩,
 ⟨.mov (.fr 14), .tm, none⟩,
 ⟨.bin .andNot (.tm 1) (.tm 0), .tm, none⟩,
 ⟨.faddr 0 (.fr 3), .tm, none⟩,
 ⟨.store1 (.tm 0) (.tm 1), .no, none⟩]) <|
 .seq (.reg [
 ⟨.faddr 0 (.fr 3), .tm, none⟩,
 ⟨.load1 (.tm 0), .tm, none⟩,
 ⟨.mov (.fr 7), .tm, none⟩,
 ⟨.mov (.fr 11), .tm, none⟩,
 ⟨.bin .or (.tm 1) (.tm 0), .tm, none⟩,
 ⟨.bin .and (.tm 3) (.tm 0), .tm, none⟩,
 ⟨.faddr 1 (.fr 3), .tm, none⟩,
 ⟨.store1 (.tm 0) (.tm 1), .no, none⟩]) <|
 .seq (.reg [
 ⟨.faddr 2 (.fr 3), .tm, none⟩,
 ⟨.load1 (.tm 0), .tm, none⟩,
 ⟨.mov (.fr 14), .tm, none⟩,
 ⟨.bin .andNot (.tm 1) (.tm 0), .tm, none⟩,
 ⟨.faddr 2 (.fr 3), .tm, none⟩,
 ⟨.store1 (.tm 0) (.tm 1), .no, none⟩]) <|
 .seq (.reg [
 ⟨.loadn 4 (.fr 4), .tm, none⟩,
 ⟨.callf 372 [(.tm 0)], .tm, none⟩,
 ⟨.mov (.tm 0), .tm, none⟩,
 ⟨.extract (.tm 0) 0, .tm, none⟩,
 ⟨.extract (.tm 1) 1, .tm, none⟩,
 ⟨.new 37 1 [(.int .u32 0)], .fr 17, none⟩,
 ⟨.new 37 1 [(.int .u32 0)], .fr 18, none⟩,
 ⟨.store1 (.fr 17) (.tm 1), .no, none⟩,
 ⟨.store1 (.fr 18) (.tm 0), .no, none⟩]) <|
 .seq (.reg [
 ⟨.mov (.fr 0), .tm, none⟩,
 ⟨.nilck (.tm 0), .tm, none⟩,
 ⟨.faddr 0 (.tm 0), .tm, none⟩,
 ⟨.faddr 0 (.tm 0), .tm, none⟩,
 ⟨.load1 (.tm 0), .tm, none⟩,
 ⟨.mkfn (.func 389) [] [(.fr 17), (.fr 18)], .tm, none⟩,
 ⟨.callf 383 [(.tm 1), (.tm 0)], .tm, none⟩,
 ⟨.mov (.tm 0), .fr 19, none⟩]) <|
 .seq (.dreg [
 (⟨.loadn 68 (.fr 3), .tm, none⟩, []),
 (⟨.faddr 0 (.fr 3), .tm, none⟩, []),
 (⟨.load1 (.tm 0), .tm, none⟩, []),
 (⟨.mov (.fr 10), .tm, none⟩, []),
 (⟨.bin .and (.tm 1) (.tm 0), .tm, none⟩, []),
 (⟨.mov (.fr 19), .tm, none⟩, []),
 (⟨.bin .and (.tm 1) (.tm 0), .tm, none⟩, []),
 (⟨.faddr 1 (.fr 3), .tm, none⟩, []),
 (⟨.load1 (.tm 0), .tm, none⟩, []),
 (⟨.bin .andNot (.tm 2) (.tm 0), .tm, none⟩, []),
 (⟨.faddr 2 (.fr 3), .tm, none⟩, []),
 (⟨.load1 (.tm 0), .tm, none⟩, []),
 (⟨.bin .andNot (.tm 2) (.tm 0), .tm, none⟩, []),
 (⟨.faddr 67 (.fr 3), .tm, none⟩, []),
 (⟨.load1 (.tm 0), .tm, none⟩, []),
 (⟨.build [(.int .u64 0), (.int .u32 0)] [(0, 1, (.tm 2)), (1, 1, (.tm 0))], .tm, none⟩, []),
 (⟨.storen 68 (.fr 5) (.tm 15), .no, none⟩, [2, 8, 11, 14]),
 (⟨.storen 2 (.fr 6) (.tm 0), .no, none⟩, [])]) <|
 .ret, [.cn 68 5, .cn 2 6]⟩
def f382 : AFunc := ⟨[0, 1, 2, 3, 7, 8, 9, 10, 11, 12, 13, 18, 19, 29, 79, 117, 136, 143, 183],
 .seq (.reg [
 ⟨.box 121 2 (.fr 3), .fr 4, none⟩]) <|
 .seq (.reg [
 ⟨.faddr 1 (.fr 4), .tm, none⟩,
 ⟨.load1 (.tm 0), .tm, none⟩,
 ⟨.callf 308 [(.c (.int .u64 0)), (.tm 0)], .tm, none⟩,
 ⟨.mov (.tm 0), .fr 5, none⟩]) <|
 .seq (.reg [
 ⟨.faddr 0 (.fr 4), .tm, none⟩,
 ⟨.load1 (.tm 0), .fr 11, none⟩]) <|
 .block 0 (.seq (.seq (.reg [
 ⟨.bin .eql (.fr 11) (.c (.int .u8 1)), .tm, none⟩,
 ⟨.mov (.tm 0), .fr 12, none⟩]) <|
 .cond (.fr 12)
 (.skip)
 (.reg [
 ⟨.bin .eql (.fr 11) (.c (.int .u8 2)), .tm, none⟩,
 ⟨.mov (.tm 0), .fr 12, none⟩])) <|
 .cond (.fr 12)
 (.seq (.seq (.reg [
 ⟨.mov (.fr 5), .tm, none⟩,
 ⟨.mov (.fr 0), .tm, none⟩,
 ⟨.nilck (.tm 0), .tm, none⟩,
 ⟨.faddr 0 (.tm 0), .tm, none⟩,
 ⟨.faddr 2 (.tm 0), .tm, none⟩,
 ⟨.load1 (.tm 0), .tm, none⟩,
 ⟨.bin .and (.tm 5) (.tm 0), .tm, none⟩,
 ⟨.bin .eql (.tm 0) (.c (.int .u64 0)), .fr 13, none⟩]) <|
 .cond (.fr 13)
 (.ret)
 (.skip)) <|
 .seq (.dreg [
 (⟨.mov (.fr 0), .tm, none⟩, []),
 (⟨.nilck (.tm 0), .tm, none⟩, []),
 (⟨.faddr 0 (.tm 0), .tm, none⟩, []),
 (⟨.faddr 0 (.tm 0), .tm, none⟩, []),
 (⟨.load1 (.tm 0), .tm, none⟩, []),
 (⟨.faddr 1 (.fr 4), .tm, none⟩, []),
 (⟨.load1 (.tm 0), .tm, none⟩, []),
 (⟨.iaddr 6 (.tm 2) (.tm 0), .tm, none⟩, []),
 (⟨.loadn 6 (.tm 0), .tm, none⟩, []),
 (⟨.new 472 6 [(.int .u64 0), (.int .u64 0), (.int .u64 0), (.int .u32 0), (.int .u32 0), (.int .u64 0)], .fr 6, none⟩, []),
 (⟨.storen 6 (.fr 6) (.tm 0), .no, none⟩, [])]) <|
 .seq (.dreg [
 (⟨.faddr 3 (.fr 6), .tm, none⟩, []),
 (⟨.load1 (.tm 0), .tm, none⟩, []),
 (⟨.mov (.fr 1), .tm, none⟩, []),
 (⟨.nilck (.tm 0), .tm, none⟩, []),
 (⟨.faddr 67 (.tm 0), .tm, none⟩, []),
 (⟨.load1 (.tm 0), .tm, none⟩, []),
 (⟨.bin .and (.tm 4) (.tm 0), .tm, none⟩, []),
 (⟨.faddr 4 (.fr 6), .tm, none⟩, []),
 (⟨.load1 (.tm 0), .tm, none⟩, []),
 (⟨.mov (.fr 1), .tm, none⟩, []),
 (⟨.nilck (.tm 0), .tm, none⟩, []),
 (⟨.faddr 67 (.tm 0), .tm, none⟩, []),
 (⟨.load1 (.tm 0), .tm, none⟩, []),
 (⟨.bin .andNot (.tm 4) (.tm 0), .tm, none⟩, []),
 (⟨.bin .or (.tm 7) (.tm 0), .tm, none⟩, []),
 (⟨.mov (.tm 0), .fr 7, none⟩, [])]) <|
 .seq (.seq (.dreg [
 (⟨.faddr 0 (.fr 4), .tm, none⟩, []),
 (⟨.load1 (.tm 0), .tm, none⟩, []),
 (⟨.bin .eql (.tm 0) (.c (.int .u8 1)), .tm, none⟩, []),
 (⟨.mov (.tm 0), .tm, none⟩, []),
 (⟨.mov (.fr 1), .tm, some ((.tm 0), true)⟩, []),
 (⟨.nilck (.tm 0), .tm, some ((.tm 1), true)⟩, []),
 (⟨.faddr 0 (.tm 0), .tm, some ((.tm 2), true)⟩, []),
 (⟨.load1 (.tm 0), .tm, some ((.tm 3), true)⟩, []),
 (⟨.mov (.fr 5), .tm, some ((.tm 4), true)⟩, []),
 (⟨.faddr 5 (.fr 6), .tm, some ((.tm 5), true)⟩, []),
 (⟨.load1 (.tm 0), .tm, some ((.tm 6), true)⟩, []),
 (⟨.bin .or (.tm 2) (.tm 0), .tm, some ((.tm 7), true)⟩, []),
 (⟨.bin .and (.tm 4) (.tm 0), .tm, some ((.tm 8), true)⟩, []),
 (⟨.bin .eql (.tm 0) (.c (.int .u64 0)), .tm, some ((.tm 9), true)⟩, []),
 (⟨.pick (.tm 10) (.tm 0) (.c (.bool false)), .tm, none⟩, []),
 (⟨.mov (.tm 0), .tm, none⟩, []),
 (⟨.mov (.fr 2), .tm, some ((.tm 0), true)⟩, []),
 (⟨.faddr 0 (.fr 6), .tm, some ((.tm 1), true)⟩, []),
 (⟨.load1 (.tm 0), .tm, some ((.tm 2), true)⟩, []),
 (⟨.mov (.fr 0), .tm, some ((.tm 3), true)⟩, []),
 (⟨.mov (.fr 7), .tm, some ((.tm 4), true)⟩, []),
 (⟨.callf 378 [(.tm 1), (.tm 0)], .tm, some ((.tm 5), true)⟩, [18]),
 (⟨.bin .or (.tm 3) (.tm 0), .tm, some ((.tm 6), true)⟩, []),
 (⟨.bin .and (.tm 6) (.tm 0), .tm, some ((.tm 7), true)⟩, []),
 (⟨.bin .eql (.tm 0) (.c (.int .u64 0)), .tm, some ((.tm 8), true)⟩, []),
 (⟨.pick (.tm 9) (.tm 0) (.c (.bool false)), .fr 14, none⟩, [])]) <|
 .cond (.fr 14)
 (.seq (.reg [
 ⟨.mov (.fr 1), .tm, none⟩,
 ⟨.nilck (.tm 0), .tm, none⟩,
 ⟨.faddr 0 (.tm 0), .tm, none⟩,
 ⟨.load1 (.tm 0), .tm, none⟩,
 ⟨.mov (.fr 5), .tm, none⟩,
 ⟨.bin .or (.tm 1) (.tm 0), .tm, none⟩,
 ⟨.nilck (.tm 5), .tm, none⟩,
 ⟨.faddr 0 (.tm 0), .tm, none⟩,
 ⟨.store1 (.tm 0) (.tm 2), .no, none⟩]) <|
 .reg [
 ⟨.mov (.fr 1), .tm, none⟩,
 ⟨.nilck (.tm 0), .tm, none⟩,
 ⟨.faddr 67 (.tm 0), .tm, none⟩,
 ⟨.load1 (.tm 0), .tm, none⟩,
 ⟨.mov (.fr 7), .tm, none⟩,
 ⟨.bin .xor (.tm 1) (.tm 0), .tm, none⟩,
 ⟨.nilck (.tm 5), .tm, none⟩,
 ⟨.faddr 67 (.tm 0), .tm, none⟩,
 ⟨.store1 (.tm 0) (.tm 2), .no, none⟩])
 (.skip)) <|
 .seq (.dreg [
 (⟨.faddr 0 (.fr 4), .tm, none⟩, []),
 (⟨.load1 (.tm 0), .tm, none⟩, []),
 (⟨.bin .eql (.tm 0) (.c (.int .u8 2)), .tm, none⟩, []),
 (⟨.mov (.tm 0), .tm, none⟩, []),
 (⟨.mov (.fr 5), .tm, some ((.tm 0), true)⟩, []),
 (⟨.mov (.fr 1), .tm, some ((.tm 1), true)⟩, []),
 (⟨.nilck (.tm 0), .tm, some ((.tm 2), true)⟩, []),
 (⟨.faddr 0 (.tm 0), .tm, some ((.tm 3), true)⟩, []),
 (⟨.load1 (.tm 0), .tm, some ((.tm 4), true)⟩, []),
 (⟨.bin .and (.tm 4) (.tm 0), .tm, some ((.tm 5), true)⟩, []),
 (⟨.mov (.fr 1), .tm, some ((.tm 6), true)⟩, []),
 (⟨.nilck (.tm 0), .tm, some ((.tm 7), true)⟩, []),
 (⟨.faddr 1 (.tm 0), .tm, some ((.tm 8), true)⟩, []),
 (⟨.load1 (.tm 0), .tm, some ((.tm 9), true)⟩, []),
 (⟨.bin .andNot (.tm 4) (.tm 0), .tm, some ((.tm 10), true)⟩, []),
 (⟨.mov (.fr 1), .tm, some ((.tm 11), true)⟩, []),
 (⟨.nilck (.tm 0), .tm, some ((.tm 12), true)⟩, []),
 (⟨.faddr 2 (.tm 0), .tm, some ((.tm 13), true)⟩, []),
 (⟨.load1 (.tm 0), .tm, some ((.tm 14), true)⟩, []),
 (⟨.bin .andNot (.tm 4) (.tm 0), .tm, some ((.tm 15), true)⟩, []),
 (⟨.bin .neq (.tm 0) (.c (.int .u64 0)), .tm, some ((.tm 16), true)⟩, []),
 (⟨.pick (.tm 17) (.tm 0) (.c (.bool false)), .fr 15, none⟩, [])]) <|
 .cond (.fr 15)
 (.seq (.reg [
 ⟨.mov (.fr 1), .tm, none⟩,
 ⟨.nilck (.tm 0), .tm, none⟩,
 ⟨.faddr 2 (.tm 0), .tm, none⟩,
 ⟨.load1 (.tm 0), .tm, none⟩,
 ⟨.mov (.fr 5), .tm, none⟩,
 ⟨.bin .or (.tm 1) (.tm 0), .tm, none⟩,
 ⟨.nilck (.tm 5), .tm, none⟩,
 ⟨.faddr 2 (.tm 0), .tm, none⟩,
 ⟨.store1 (.tm 0) (.tm 2), .no, none⟩]) <|
 .seq (.dreg [
 (⟨.mov (.fr 1), .tm, none⟩, []),
 (⟨.faddr 1 (.fr 4), .tm, none⟩, []),
 (⟨.load1 (.tm 0), .tm, none⟩, []),
 (⟨.nilck (.tm 2), .tm, none⟩, []),
 (⟨.faddr 3 (.tm 0), .tm, none⟩, []),
 (⟨.iaddrp 1 64 (.tm 0) (.tm 2), .tm, none⟩, []),
 (⟨.store1 (.tm 0) (.c (.int .u8 0)), .no, none⟩, [])]) <|
 .seq (.reg [
 ⟨.faddr 2 (.fr 6), .tm, none⟩,
 ⟨.load1 (.tm 0), .tm, none⟩,
 ⟨.mov (.fr 2), .tm, none⟩,
 ⟨.bin .and (.tm 1) (.tm 0), .tm, none⟩,
 ⟨.bin .neq (.tm 0) (.c (.int .u64 0)), .fr 16, none⟩]) <|
 .cond (.fr 16)
 (.dreg [
 (⟨.mov (.fr 1), .tm, none⟩, []),
 (⟨.faddr 1 (.fr 4), .tm, none⟩, []),
 (⟨.load1 (.tm 0), .tm, none⟩, []),
 (⟨.nilck (.tm 2), .tm, none⟩, []),
 (⟨.faddr 3 (.tm 0), .tm, none⟩, []),
 (⟨.iaddrp 1 64 (.tm 0) (.tm 2), .tm, none⟩, []),
 (⟨.store1 (.tm 0) (.c (.int .u8 20)), .no, none⟩, [])])
 (.skip))
 (.skip))
 (.seq (.reg [
 ⟨.bin .eql (.fr 11) (.c (.int .u8 3)), .tm, none⟩,
 ⟨.mov (.tm 0), .fr 17, none⟩]) <|
 .cond (.fr 17)
 (.seq (.dreg [
 (⟨.mov (.fr 0), .tm, none⟩, []),
 (⟨.nilck (.tm 0), .tm, none⟩, []),
 (⟨.faddr 0 (.tm 0), .tm, none⟩, []),
 (⟨.loadn 5 (.tm 0), .tm, none⟩, []),
 (⟨.mov (.fr 1), .tm, none⟩, []),
 (⟨.nilck (.tm 0), .tm, none⟩, []),
 (⟨.faddr 0 (.tm 0), .tm, none⟩, []),
 (⟨.load1 (.tm 0), .tm, none⟩, []),
 (⟨.callf 380 [(.tm 4), (.tm 0)], .tm, none⟩, []),
 (⟨.mov (.tm 0), .tm, none⟩, []),
 (⟨.extract (.tm 0) 0, .tm, none⟩, []),
 (⟨.extract (.tm 1) 1, .tm, none⟩, []),
 (⟨.mov (.tm 1), .fr 8, none⟩, []),
 (⟨.mov (.tm 0), .fr 9, none⟩, [])]) <|
 .seq (.reg [
 ⟨.mov (.fr 5), .tm, none⟩,
 ⟨.i2i .u32 (.tm 0), .tm, none⟩,
 ⟨.mov (.fr 0), .tm, none⟩,
 ⟨.nilck (.tm 0), .tm, none⟩,
 ⟨.faddr 0 (.tm 0), .tm, none⟩,
 ⟨.faddr 3 (.tm 0), .tm, none⟩,
 ⟨.load1 (.tm 0), .tm, none⟩,
 ⟨.bin .and (.tm 5) (.tm 0), .tm, none⟩,
 ⟨.mov (.tm 0), .fr 10, none⟩]) <|
 .seq (.reg [
 ⟨.mov (.fr 5), .tm, none⟩,
 ⟨.bin .shr (.tm 0) (.c (.int .u64 32)), .tm, none⟩,
 ⟨.bin .eql (.tm 0) (.c (.int .u64 0)), .tm, none⟩,
 ⟨.mov (.tm 0), .tm, none⟩,
 ⟨.mov (.fr 10), .tm, some ((.tm 0), true)⟩,
 ⟨.mov (.fr 8), .tm, some ((.tm 1), true)⟩,
 ⟨.mov (.fr 9), .tm, some ((.tm 2), true)⟩,
 ⟨.bin .or (.tm 1) (.tm 0), .tm, some ((.tm 3), true)⟩,
 ⟨.bin .andNot (.tm 3) (.tm 0), .tm, some ((.tm 4), true)⟩,
 ⟨.bin .neq (.tm 0) (.c (.int .u32 0)), .tm, some ((.tm 5), true)⟩,
 ⟨.pick (.tm 6) (.tm 0) (.c (.bool false)), .tm, none⟩,
 ⟨.mov (.tm 0), .tm, none⟩,
 ⟨.mov (.fr 0), .tm, some ((.tm 0), true)⟩,
 ⟨.mov (.fr 10), .tm, some ((.tm 1), true)⟩,
 ⟨.callf 378 [(.tm 1), (.tm 0)], .tm, some ((.tm 2), true)⟩,
 ⟨.mov (.fr 2), .tm, some ((.tm 3), true)⟩,
 ⟨.bin .and (.tm 1) (.tm 0), .tm, some ((.tm 4), true)⟩,
 ⟨.bin .eql (.tm 0) (.c (.int .u64 0)), .tm, some ((.tm 5), true)⟩,
 ⟨.pick (.tm 6) (.tm 0) (.c (.bool false)), .fr 18, none⟩]) <|
 .cond (.fr 18)
 (.reg [
 ⟨.mov (.fr 1), .tm, none⟩,
 ⟨.nilck (.tm 0), .tm, none⟩,
 ⟨.faddr 67 (.tm 0), .tm, none⟩,
 ⟨.load1 (.tm 0), .tm, none⟩,
 ⟨.mov (.fr 10), .tm, none⟩,
 ⟨.bin .xor (.tm 1) (.tm 0), .tm, none⟩,
 ⟨.nilck (.tm 5), .tm, none⟩,
 ⟨.faddr 67 (.tm 0), .tm, none⟩,
 ⟨.store1 (.tm 0) (.tm 2), .no, none⟩])
 (.skip))
 (.skip))), []⟩
theorem f23_ok : compF Go.Proofs.Tryz.prog 0 [0, 1, 2, 3, 4, 5, 6, 9] 23 = some f23 := by kernel_rfl
theorem f23_n : argsOK Go.Proofs.Tryz.prog 23 0 = true := by kernel_rfl
theorem f26_ok : compF Go.Proofs.Tryz.prog 0 [0, 1, 2, 3, 4, 23, 24, 25] 26 = some f26 := by kernel_rfl
theorem f26_n : argsOK Go.Proofs.Tryz.prog 26 1 = true := by kernel_rfl
theorem f43_ok : compF Go.Proofs.Tryz.prog 0 [0, 1, 2, 5, 6, 7, 8, 18, 35, 36, 38, 40, 55, 97] 43 = some f43 := by kernel_rfl
theorem f43_n : argsOK Go.Proofs.Tryz.prog 43 3 = true := by kernel_rfl
theorem f61_ok : compF Go.Proofs.Tryz.prog 0 [0, 1, 2, 3, 4, 6, 7, 8, 9, 10, 17, 25, 26, 27, 28, 62, 63, 64, 65] 61 = some f61 := by kernel_rfl
theorem f61_n : argsOK Go.Proofs.Tryz.prog 61 1 = true := by kernel_rfl
theorem f85_ok : compF Go.Proofs.Tryz.prog 0 [0, 1, 2, 6, 7, 8, 12, 22, 64, 77, 99] 85 = some f85 := by kernel_rfl
theorem f85_n : argsOK Go.Proofs.Tryz.prog 85 3 = true := by kernel_rfl
theorem f86_ok : compF Go.Proofs.Tryz.prog 0 [0, 1, 4, 5, 6, 7, 38, 39, 40, 50] 86 = some f86 := by kernel_rfl
theorem f86_n : argsOK Go.Proofs.Tryz.prog 86 2 = true := by kernel_rfl
theorem f89_ok : compF Go.Proofs.Tryz.prog 0 [0, 1, 4, 5, 6, 7, 9, 33, 45, 76, 77, 116] 89 = some f89 := by kernel_rfl
theorem f89_n : argsOK Go.Proofs.Tryz.prog 89 2 = true := by kernel_rfl
theorem f138_ok : compF Go.Proofs.Tryz.prog 0 [0, 1, 2, 6, 7, 8, 9, 10, 11, 12, 13, 14, 15, 27, 51, 75, 87] 138 = some f138 := by kernel_rfl
theorem f138_n : argsOK Go.Proofs.Tryz.prog 138 3 = true := by kernel_rfl
theorem f140_ok : compF Go.Proofs.Tryz.prog 0 [0, 1, 2, 3, 6, 7, 8, 9, 10, 11, 12, 13, 14, 18, 25, 57, 58, 59, 77] 140 = some f140 := by kernel_rfl
theorem f140_n : argsOK Go.Proofs.Tryz.prog 140 4 = true := by kernel_rfl
theorem f147_ok : compF Go.Proofs.Tryz.prog 0 [0, 1, 3, 4, 5, 8, 56] 147 = some f147 := by kernel_rfl
theorem f147_n : argsOK Go.Proofs.Tryz.prog 147 2 = true := by kernel_rfl
theorem f159_ok : compF Go.Proofs.Tryz.prog 0 [0, 1, 2, 3, 4, 5, 6, 7, 8, 9, 10, 11, 12, 13, 14, 15, 16, 42, 47, 48, 49, 50, 68, 69, 70, 71, 98, 99, 100, 101, 128, 129, 130, 131] 159 = some f159 := by kernel_rfl
theorem f159_n : argsOK Go.Proofs.Tryz.prog 159 1 = true := by kernel_rfl
theorem f254_ok : compF Go.Proofs.Tryz.prog 0 [0, 1, 2, 3, 4, 5, 6, 7, 8, 9, 11, 13, 20, 38, 39, 40, 41, 67, 68, 69, 70, 74, 98, 99, 100, 101] 254 = some f254 := by kernel_rfl
theorem f254_n : argsOK Go.Proofs.Tryz.prog 254 1 = true := by kernel_rfl
theorem f367_ok : compF Go.Proofs.Tryz.prog 0 [0, 1, 4, 6, 8, 34, 36, 37, 38, 39, 69, 83, 84, 85, 86, 90] 367 = some f367 := by kernel_rfl
theorem f367_n : argsOK Go.Proofs.Tryz.prog 367 2 = true := by kernel_rfl
theorem f377_ok : compF Go.Proofs.Tryz.prog 0 [0, 1, 2, 4, 5, 6, 7, 8, 9, 10, 11, 12, 13, 14, 15, 17, 19, 20, 21, 22, 24, 33, 34, 35, 36, 41, 81, 82, 83, 84, 96, 97, 98, 99] 377 = some f377 := by kernel_rfl
theorem f377_n : argsOK Go.Proofs.Tryz.prog 377 3 = true := by kernel_rfl
theorem f382_ok : compF Go.Proofs.Tryz.prog 0 [0, 1, 2, 3, 7, 8, 9, 10, 11, 12, 13, 18, 19, 29, 79, 117, 136, 143, 183] 382 = some f382 := by kernel_rfl
theorem f382_n : argsOK Go.Proofs.Tryz.prog 382 4 = true := by kernel_rfl
end Go.AM.F

set_option maxRecDepth 100000
set_option maxHeartbeats 0
namespace Go.AM.F
def Z256Y : List Value := List.replicate 256 (.int .u8 0)
def Z257Y : List Value := [(.int .i64 0)] ++ List.replicate 256 (.int .u8 0)
def zclY : TypeId → List Value
 | 168 => Z256Y
 | 170 => Z257Y
 | 36 => [(.int .u64 0)]
 | _ => []
def zvlY : TypeId → Value
 | _ => undef
def zklY : TypeId → List Nat
 | _ => []
def zrlY : Nat → TypeId → List Value
 | 1, 3 => [(.int .i64 0)]
 | _, _ => []
noncomputable def f239 : AFunc := by
 refine (fun (_ : Cz zclY zvlY zklY zrlY Go.Proofs.Tryz.prog 0 [0, 1, 3, 4, 5, 6, 7, 9, 14, 27, 28, 29, 33] 239 ?a) => ?a) ?h
 case h =>
 intro zc zv zk zr hc hv hk hr
 have e0A := (rfl : rfA Go.Proofs.Tryz.prog 239 0 = rfA Go.Proofs.Tryz.prog 239 0); conv at e0A => rhs; cbv
 have e0B := (rfl : rfB Go.Proofs.Tryz.prog 239 0 = rfB Go.Proofs.Tryz.prog 239 0); conv at e0B => rhs; cbv
 conv => lhs; cbv; try simp only [hc, hv, hk, hr, zclY, zvlY, zklY, zrlY]; simp only [← e0A, ← e0B]
theorem f239_ok : compF Go.Proofs.Tryz.prog 0 [0, 1, 3, 4, 5, 6, 7, 9, 14, 27, 28, 29, 33] 239 = some f239 := by kernel_rfl
theorem f239_n : argsOK Go.Proofs.Tryz.prog 239 2 = true := by kernel_rfl
noncomputable def f239r0a : ACode := by
 refine (fun (_ : CzC zclY zvlY zklY zrlY Go.Proofs.Tryz.prog 0 37 [0, 1, 3, 4, 5, 6, 7, 9, 14, 27, 28, 29, 33] (rfA Go.Proofs.Tryz.prog 239 0) ?a) => ?a) ?h
 case h => intro zc zv zk zr hc hv hk hr; conv => lhs; cbv; try simp only [hc, hv, hk, hr, zclY, zvlY, zklY, zrlY]
theorem f239r0a_ok : compC Go.Proofs.Tryz.prog 0 37 [0, 1, 3, 4, 5, 6, 7, 9, 14, 27, 28, 29, 33] (rfA Go.Proofs.Tryz.prog 239 0) = some f239r0a := by kernel_rfl
noncomputable def f239r0b : ACode := by
 refine (fun (_ : CzC zclY zvlY zklY zrlY Go.Proofs.Tryz.prog 0 37 [0, 1, 3, 4, 5, 6, 7, 9, 14, 27, 28, 29, 33] (rfB Go.Proofs.Tryz.prog 239 0) ?a) => ?a) ?h
 case h => intro zc zv zk zr hc hv hk hr; conv => lhs; cbv; try simp only [hc, hv, hk, hr, zclY, zvlY, zklY, zrlY]
theorem f239r0b_ok : compC Go.Proofs.Tryz.prog 0 37 [0, 1, 3, 4, 5, 6, 7, 9, 14, 27, 28, 29, 33] (rfB Go.Proofs.Tryz.prog 239 0) = some f239r0b := by kernel_rfl
theorem f239r0_n : (noRF (rfA Go.Proofs.Tryz.prog 239 0) && noRF (rfB Go.Proofs.Tryz.prog 239 0)) = true := by kernel_rfl
noncomputable def f396 : AFunc := by
 refine (fun (_ : Cz zclY zvlY zklY zrlY Go.Proofs.Tryz.prog 0 [0, 1, 2, 4, 5, 6, 12, 13] 396 ?a) => ?a) ?h
 case h =>
 intro zc zv zk zr hc hv hk hr
 have e0A := (rfl : rfA Go.Proofs.Tryz.prog 396 0 = rfA Go.Proofs.Tryz.prog 396 0); conv at e0A => rhs; cbv
 have e0B := (rfl : rfB Go.Proofs.Tryz.prog 396 0 = rfB Go.Proofs.Tryz.prog 396 0); conv at e0B => rhs; cbv
 conv => lhs; cbv; try simp only [hc, hv, hk, hr, zclY, zvlY, zklY, zrlY]; simp only [← e0A, ← e0B]
theorem f396_ok : compF Go.Proofs.Tryz.prog 0 [0, 1, 2, 4, 5, 6, 12, 13] 396 = some f396 := by kernel_rfl
theorem f396_n : argsOK Go.Proofs.Tryz.prog 396 2 = true := by kernel_rfl
noncomputable def f396r0a : ACode := by
 refine (fun (_ : CzC zclY zvlY zklY zrlY Go.Proofs.Tryz.prog 0 21 [0, 1, 2, 4, 5, 6, 12, 13] (rfA Go.Proofs.Tryz.prog 396 0) ?a) => ?a) ?h
 case h => intro zc zv zk zr hc hv hk hr; conv => lhs; cbv; try simp only [hc, hv, hk, hr, zclY, zvlY, zklY, zrlY]
theorem f396r0a_ok : compC Go.Proofs.Tryz.prog 0 21 [0, 1, 2, 4, 5, 6, 12, 13] (rfA Go.Proofs.Tryz.prog 396 0) = some f396r0a := by kernel_rfl
noncomputable def f396r0b : ACode := by
 refine (fun (_ : CzC zclY zvlY zklY zrlY Go.Proofs.Tryz.prog 0 21 [0, 1, 2, 4, 5, 6, 12, 13] (rfB Go.Proofs.Tryz.prog 396 0) ?a) => ?a) ?h
 case h => intro zc zv zk zr hc hv hk hr; conv => lhs; cbv; try simp only [hc, hv, hk, hr, zclY, zvlY, zklY, zrlY]
theorem f396r0b_ok : compC Go.Proofs.Tryz.prog 0 21 [0, 1, 2, 4, 5, 6, 12, 13] (rfB Go.Proofs.Tryz.prog 396 0) = some f396r0b := by kernel_rfl
theorem f396r0_n : (noRF (rfA Go.Proofs.Tryz.prog 396 0) && noRF (rfB Go.Proofs.Tryz.prog 396 0)) = true := by kernel_rfl
noncomputable def f399 : AFunc := by
 refine (fun (_ : Cz zclY zvlY zklY zrlY Go.Proofs.Tryz.prog 0 [0, 1, 2, 4, 5, 6, 7] 399 ?a) => ?a) ?h
 case h =>
 intro zc zv zk zr hc hv hk hr
 have e0A := (rfl : rfA Go.Proofs.Tryz.prog 399 0 = rfA Go.Proofs.Tryz.prog 399 0); conv at e0A => rhs; cbv
 have e0B := (rfl : rfB Go.Proofs.Tryz.prog 399 0 = rfB Go.Proofs.Tryz.prog 399 0); conv at e0B => rhs; cbv
 conv => lhs; cbv; try simp only [hc, hv, hk, hr, zclY, zvlY, zklY, zrlY]; simp only [← e0A, ← e0B]
theorem f399_ok : compF Go.Proofs.Tryz.prog 0 [0, 1, 2, 4, 5, 6, 7] 399 = some f399 := by kernel_rfl
theorem f399_n : argsOK Go.Proofs.Tryz.prog 399 2 = true := by kernel_rfl
noncomputable def f399r0a : ACode := by
 refine (fun (_ : CzC zclY zvlY zklY zrlY Go.Proofs.Tryz.prog 0 13 [0, 1, 2, 4, 5, 6, 7] (rfA Go.Proofs.Tryz.prog 399 0) ?a) => ?a) ?h
 case h => intro zc zv zk zr hc hv hk hr; conv => lhs; cbv; try simp only [hc, hv, hk, hr, zclY, zvlY, zklY, zrlY]
theorem f399r0a_ok : compC Go.Proofs.Tryz.prog 0 13 [0, 1, 2, 4, 5, 6, 7] (rfA Go.Proofs.Tryz.prog 399 0) = some f399r0a := by kernel_rfl
noncomputable def f399r0b : ACode := by
 refine (fun (_ : CzC zclY zvlY zklY zrlY Go.Proofs.Tryz.prog 0 13 [0, 1, 2, 4, 5, 6, 7] (rfB Go.Proofs.Tryz.prog 399 0) ?a) => ?a) ?h
 case h => intro zc zv zk zr hc hv hk hr; conv => lhs; cbv; try simp only [hc, hv, hk, hr, zclY, zvlY, zklY, zrlY]
theorem f399r0b_ok : compC Go.Proofs.Tryz.prog 0 13 [0, 1, 2, 4, 5, 6, 7] (rfB Go.Proofs.Tryz.prog 399 0) = some f399r0b := by kernel_rfl
theorem f399r0_n : (noRF (rfA Go.Proofs.Tryz.prog 399 0) && noRF (rfB Go.Proofs.Tryz.prog 399 0)) = true := by kernel_rfl
end Go.AM.F
