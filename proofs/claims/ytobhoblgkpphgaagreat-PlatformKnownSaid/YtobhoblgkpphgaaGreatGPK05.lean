/- Part of the proof. -/
import Derived.Test.YtobhoblgkpphgaaGreatGPK04
set_option linter.unusedSimpArgs false
set_option linter.unusedVariables false
set_option maxRecDepth 100000
set_option maxHeartbeats 0
namespace Go.AM.F
def O68K : List Nat := List.replicate 68 1
def Z70K : List Value := [(.int .i64 0), (.int .i64 0), (.int .u64 0), (.int .u64 0), (.int .u64 0)] ++ List.replicate 64 (.int .u8 0) ++ [(.int .u32 0)]
def Z68K : List Value := [(.int .u64 0), (.int .u64 0), (.int .u64 0)] ++ List.replicate 64 (.int .u8 0) ++ [(.int .u32 0)]
def Z257K : List Value := [(.int .i64 0)] ++ List.replicate 256 (.int .u8 0)
def Z78K : List Value := [(.int .u8 0), (.int .i64 0), (.int .i64 0), (.int .i64 0), (.int .i64 0), (.int .u64 0), (.int .u64 0), (.int .u64 0)] ++ List.replicate 64 (.int .u8 0) ++ [(.int .u32 0), (.int .u64 0), (.int .u64 0), (.int .u64 0), (.int .u32 0), (.slice none 0 0)]
def Z77K : List Value := [(.int .u8 0), (.int .i64 0), (.int .i64 0), (.int .u64 0), (.int .u32 0), (.int .u32 0), (.slice none 0 0), (.slice none 0 0), (.slice none 0 0), (.int .u64 0), (.int .u64 0), (.int .u64 0)] ++ List.replicate 64 (.int .u8 0) ++ [(.int .u32 0)]
def Z385K : List Value := [(.int .u8 0), (.int .i64 0), (.int .i64 0), (.int .u64 0), (.int .u32 0), (.int .u32 0), (.slice none 0 0), (.slice none 0 0), (.slice none 0 0), (.int .u64 0), (.int .u64 0), (.int .u64 0)] ++ List.replicate 64 (.int .u8 0) ++ [(.int .u32 0), (.int .u8 0), (.int .i64 0), (.int .i64 0), (.int .u64 0), (.int .u32 0), (.int .u32 0), (.slice none 0 0), (.slice none 0 0), (.slice none 0 0), (.int .u64 0), (.int .u64 0), (.int .u64 0)] ++ List.replicate 64 (.int .u8 0) ++ [(.int .u32 0), (.int .u8 0), (.int .i64 0), (.int .i64 0), (.int .u64 0), (.int .u32 0), (.int .u32 0), (.slice none 0 0), (.slice none 0 0), (.slice none 0 0), (.int .u64 0), (.int .u64 0), (.int .u64 0)] ++ List.replicate 64 (.int .u8 0) ++ [(.int .u32 0), (.int .u8 0), (.int .i64 0), (.int .i64 0), (.int .u64 0), (.int .u32 0), (.int .u32 0), (.slice none 0 0), (.slice none 0 0), (.slice none 0 0), (.int .u64 0), (.int .u64 0), (.int .u64 0)] ++ List.replicate 64 (.int .u8 0) ++ [(.int .u32 0), (.int .u8 0), (.int .i64 0), (.int .i64 0), (.int .u64 0), (.int .u32 0), (.int .u32 0), (.slice none 0 0), (.slice none 0 0), (.slice none 0 0), (.int .u64 0), (.int .u64 0), (.int .u64 0)] ++ List.replicate 64 (.int .u8 0) ++ [(.int .u32 0)]
def zclK : TypeId → List Value
 | 71 => [(.int .i64 0), (.int .i64 0), (.int .i64 0)]
 | 232 => [(.int .i64 0), (.int .i64 0)]
 | 185 => [(.slice none 0 0)]
 | 210 => [(.pointer none)]
 | 212 => [(.pointer none), .nilIface, (.int .i64 0)]
 | 53 => Z70K
 | 391 => [(.int .i64 0), (.int .i64 0)]
 | 397 => [(.int .i64 0), (.slice none 0 0)]
 | 77 => [(.slice none 0 0), (.slice none 0 0), (.slice none 0 0), (.slice none 0 0), (.pointer none), (.pointer none), (.pointer none), (.int .i64 0), (.int .i64 0), (.int .i64 0), (.int .i64 0), (.int .i64 0), (.slice none 0 0)]
 | 86 => [(.pointer none), (.int .i64 0), (.pointer none), (.slice none 0 0), (.int .u64 0), (.int .u32 0), (.int .u32 0), (.slice none 0 0), (.int .u64 0), (.int .u32 0), (.int .u32 0), (.slice none 0 0), (.int .i64 0), (.bool false), (.int .i64 0)]
 | 45 => Z68K
 | 135 => [(.slice none 0 0), (.slice none 0 0), (.slice none 0 0), (.slice none 0 0), (.pointer none), (.pointer none), (.pointer none), (.pointer none), (.pointer none), (.int .i64 0), (.int .i64 0), (.bool false)]
 | 9 => [(.string ByteArray.empty)]
 | 27 => [(.string ByteArray.empty), (.int .i64 0)]
 | 93 => [(.string ByteArray.empty), (.int .i64 0), (.slice none 0 0), (.slice none 0 0), (.slice none 0 0), (.slice none 0 0)]
 | 33 => [(.slice none 0 0), (.slice none 0 0), (.slice none 0 0), (.slice none 0 0)]
 | 118 => [(.pointer none), (.pointer none), (.pointer none), (.pointer none), (.slice none 0 0), (.int .i64 0), (.pointer none), (.slice none 0 0), (.int .i64 0), (.int .i64 0), (.int .i64 0), (.pointer none)]
 | 170 => Z257K
 | 255 => Z78K
 | 121 => [(.int .u8 0), (.int .i64 0)]
 | 40 => [(.int .u64 0), (.int .u32 0), (.int .u32 0), (.slice none 0 0)]
 | 47 => Z77K
 | 49 => [(.int .u64 0), (.int .u32 0)]
 | _ => []
def zvlK : TypeId → Value
 | 53 => (.agg Z70K.toArray)
 | _ => undef
def zklK : TypeId → List Nat
 | 45 => O68K
 | _ => []
def zrlK : Nat → TypeId → List Value
 | 1, 2 => [(.int .i64 0)]
 | 1, 121 => [(.int .u8 0), (.int .i64 0)]
 | 1, 3 => [(.int .i64 0)]
 | 3, 3 => [(.int .i64 0), (.int .i64 0), (.int .i64 0)]
 | 2, 5 => [(.int .u8 0), (.int .u8 0)]
 | 5, 47 => Z385K
 | _, _ => []
noncomputable def f329 : AFunc := by
 refine (fun (_ : Cz zclK zvlK zklK zrlK Go.Proofs.Tryz.prog 0 [0, 2, 3, 5, 6, 8, 9, 10, 11, 12, 20, 25, 26, 27, 28] 329 ?a) => ?a) ?h
 case h =>
 intro zc zv zk zr hc hv hk hr
 conv => lhs; cbv; try simp only [hc, hv, hk, hr, zclK, zvlK, zklK, zrlK]
theorem f329_ok : compF Go.Proofs.Tryz.prog 0 [0, 2, 3, 5, 6, 8, 9, 10, 11, 12, 20, 25, 26, 27, 28] 329 = some f329 := by kernel_rfl
theorem f329_n : argsOK Go.Proofs.Tryz.prog 329 1 = true := by kernel_rfl
noncomputable def f167 : AFunc := by
 refine (fun (_ : Cz zclK zvlK zklK zrlK Go.Proofs.Tryz.prog 0 [0, 1, 4, 5, 26] 167 ?a) => ?a) ?h
 case h =>
 intro zc zv zk zr hc hv hk hr
 conv => lhs; cbv; try simp only [hc, hv, hk, hr, zclK, zvlK, zklK, zrlK]
theorem f167_ok : compF Go.Proofs.Tryz.prog 0 [0, 1, 4, 5, 26] 167 = some f167 := by kernel_rfl
theorem f167_n : argsOK Go.Proofs.Tryz.prog 167 2 = true := by kernel_rfl
noncomputable def f134 : AFunc := by
 refine (fun (_ : Cz zclK zvlK zklK zrlK Go.Proofs.Tryz.prog 0 [0, 1, 2, 3, 6, 7, 8, 9, 28, 31, 43] 134 ?a) => ?a) ?h
 case h =>
 intro zc zv zk zr hc hv hk hr
 conv => lhs; cbv; try simp only [hc, hv, hk, hr, zclK, zvlK, zklK, zrlK]
theorem f134_ok : compF Go.Proofs.Tryz.prog 0 [0, 1, 2, 3, 6, 7, 8, 9, 28, 31, 43] 134 = some f134 := by kernel_rfl
theorem f134_n : argsOK Go.Proofs.Tryz.prog 134 3 = true := by kernel_rfl
noncomputable def f376 : AFunc := by
 refine (fun (_ : Cz zclK zvlK zklK zrlK Go.Proofs.Tryz.prog 0 [0, 1, 3, 4, 5, 6, 15] 376 ?a) => ?a) ?h
 case h =>
 intro zc zv zk zr hc hv hk hr
 conv => lhs; cbv; try simp only [hc, hv, hk, hr, zclK, zvlK, zklK, zrlK]
theorem f376_ok : compF Go.Proofs.Tryz.prog 0 [0, 1, 3, 4, 5, 6, 15] 376 = some f376 := by kernel_rfl
theorem f376_n : argsOK Go.Proofs.Tryz.prog 376 2 = true := by kernel_rfl
noncomputable def f44 : AFunc := by
 refine (fun (_ : Cz zclK zvlK zklK zrlK Go.Proofs.Tryz.prog 0 [0, 1, 2, 6, 7, 27, 42, 46, 54] 44 ?a) => ?a) ?h
 case h =>
 intro zc zv zk zr hc hv hk hr
 conv => lhs; cbv; try simp only [hc, hv, hk, hr, zclK, zvlK, zklK, zrlK]
theorem f44_ok : compF Go.Proofs.Tryz.prog 0 [0, 1, 2, 6, 7, 27, 42, 46, 54] 44 = some f44 := by kernel_rfl
theorem f44_n : argsOK Go.Proofs.Tryz.prog 44 3 = true := by kernel_rfl
noncomputable def f62 : AFunc := by
 refine (fun (_ : Cz zclK zvlK zklK zrlK Go.Proofs.Tryz.prog 0 [0, 2, 3, 4, 5, 6, 7, 9, 10, 11, 18, 30, 37] 62 ?a) => ?a) ?h
 case h =>
 intro zc zv zk zr hc hv hk hr
 conv => lhs; cbv; try simp only [hc, hv, hk, hr, zclK, zvlK, zklK, zrlK]
theorem f62_ok : compF Go.Proofs.Tryz.prog 0 [0, 2, 3, 4, 5, 6, 7, 9, 10, 11, 18, 30, 37] 62 = some f62 := by kernel_rfl
theorem f62_n : argsOK Go.Proofs.Tryz.prog 62 1 = true := by kernel_rfl
noncomputable def f241 : AFunc := by
 refine (fun (_ : Cz zclK zvlK zklK zrlK Go.Proofs.Tryz.prog 0 [0, 2, 3, 4, 5, 6, 7, 11, 12, 30, 33, 49, 61] 241 ?a) => ?a) ?h
 case h =>
 intro zc zv zk zr hc hv hk hr
 conv => lhs; cbv; try simp only [hc, hv, hk, hr, zclK, zvlK, zklK, zrlK]
theorem f241_ok : compF Go.Proofs.Tryz.prog 0 [0, 2, 3, 4, 5, 6, 7, 11, 12, 30, 33, 49, 61] 241 = some f241 := by kernel_rfl
theorem f241_n : argsOK Go.Proofs.Tryz.prog 241 1 = true := by kernel_rfl
noncomputable def f4 : AFunc := by
 refine (fun (_ : Cz zclK zvlK zklK zrlK Go.Proofs.Tryz.prog 0 [0, 1, 2, 4, 5, 7, 8, 9, 17, 24, 37, 38] 4 ?a) => ?a) ?h
 case h =>
 intro zc zv zk zr hc hv hk hr
 conv => lhs; cbv; try simp only [hc, hv, hk, hr, zclK, zvlK, zklK, zrlK]
theorem f4_ok : compF Go.Proofs.Tryz.prog 0 [0, 1, 2, 4, 5, 7, 8, 9, 17, 24, 37, 38] 4 = some f4 := by kernel_rfl
theorem f4_n : argsOK Go.Proofs.Tryz.prog 4 2 = true := by kernel_rfl
noncomputable def f172 : AFunc := by
 refine (fun (_ : Cz zclK zvlK zklK zrlK Go.Proofs.Tryz.prog 0 [0, 2, 3] 172 ?a) => ?a) ?h
 case h =>
 intro zc zv zk zr hc hv hk hr
 conv => lhs; cbv; try simp only [hc, hv, hk, hr, zclK, zvlK, zklK, zrlK]
theorem f172_ok : compF Go.Proofs.Tryz.prog 0 [0, 2, 3] 172 = some f172 := by kernel_rfl
theorem f172_n : argsOK Go.Proofs.Tryz.prog 172 1 = true := by kernel_rfl
noncomputable def f24 : AFunc := by
 refine (fun (_ : Cz zclK zvlK zklK zrlK Go.Proofs.Tryz.prog 0 [0, 1, 2, 4, 5, 6, 7, 8, 9, 10, 17, 25, 34, 51, 52, 66] 24 ?a) => ?a) ?h
 case h =>
 intro zc zv zk zr hc hv hk hr
 conv => lhs; cbv; try simp only [hc, hv, hk, hr, zclK, zvlK, zklK, zrlK]
theorem f24_ok : compF Go.Proofs.Tryz.prog 0 [0, 1, 2, 4, 5, 6, 7, 8, 9, 10, 17, 25, 34, 51, 52, 66] 24 = some f24 := by kernel_rfl
theorem f24_n : argsOK Go.Proofs.Tryz.prog 24 2 = true := by kernel_rfl
noncomputable def f50 : AFunc := by
 refine (fun (_ : Cz zclK zvlK zklK zrlK Go.Proofs.Tryz.prog 0 [0, 2, 3, 4, 5, 7] 50 ?a) => ?a) ?h
 case h =>
 intro zc zv zk zr hc hv hk hr
 conv => lhs; cbv; try simp only [hc, hv, hk, hr, zclK, zvlK, zklK, zrlK]
theorem f50_ok : compF Go.Proofs.Tryz.prog 0 [0, 2, 3, 4, 5, 7] 50 = some f50 := by kernel_rfl
theorem f50_n : argsOK Go.Proofs.Tryz.prog 50 1 = true := by kernel_rfl
noncomputable def f29 : AFunc := by
 refine (fun (_ : Cz zclK zvlK zklK zrlK Go.Proofs.Tryz.prog 0 [0, 1, 4, 5, 6, 7, 8, 29, 87] 29 ?a) => ?a) ?h
 case h =>
 intro zc zv zk zr hc hv hk hr
 conv => lhs; cbv; try simp only [hc, hv, hk, hr, zclK, zvlK, zklK, zrlK]
theorem f29_ok : compF Go.Proofs.Tryz.prog 0 [0, 1, 4, 5, 6, 7, 8, 29, 87] 29 = some f29 := by kernel_rfl
theorem f29_n : argsOK Go.Proofs.Tryz.prog 29 2 = true := by kernel_rfl
noncomputable def f38 : AFunc := by
 refine (fun (_ : Cz zclK zvlK zklK zrlK Go.Proofs.Tryz.prog 0 [0, 1, 4, 5, 6, 8, 16, 23, 24, 25, 26, 33, 40] 38 ?a) => ?a) ?h
 case h =>
 intro zc zv zk zr hc hv hk hr
 conv => lhs; cbv; try simp only [hc, hv, hk, hr, zclK, zvlK, zklK, zrlK]
theorem f38_ok : compF Go.Proofs.Tryz.prog 0 [0, 1, 4, 5, 6, 8, 16, 23, 24, 25, 26, 33, 40] 38 = some f38 := by kernel_rfl
theorem f38_n : argsOK Go.Proofs.Tryz.prog 38 2 = true := by kernel_rfl
noncomputable def f157 : AFunc := by
 refine (fun (_ : Cz zclK zvlK zklK zrlK Go.Proofs.Tryz.prog 0 [0, 2, 3, 4, 5, 6, 20, 39] 157 ?a) => ?a) ?h
 case h =>
 intro zc zv zk zr hc hv hk hr
 conv => lhs; cbv; try simp only [hc, hv, hk, hr, zclK, zvlK, zklK, zrlK]
theorem f157_ok : compF Go.Proofs.Tryz.prog 0 [0, 2, 3, 4, 5, 6, 20, 39] 157 = some f157 := by kernel_rfl
theorem f157_n : argsOK Go.Proofs.Tryz.prog 157 1 = true := by kernel_rfl
noncomputable def f21 : AFunc := by
 refine (fun (_ : Cz zclK zvlK zklK zrlK Go.Proofs.Tryz.prog 0 [0, 1, 2, 3, 4, 5, 6, 7, 8, 9, 10, 11, 12, 15, 25, 32, 64, 86] 21 ?a) => ?a) ?h
 case h =>
 intro zc zv zk zr hc hv hk hr
 conv => lhs; cbv; try simp only [hc, hv, hk, hr, zclK, zvlK, zklK, zrlK]
theorem f21_ok : compF Go.Proofs.Tryz.prog 0 [0, 1, 2, 3, 4, 5, 6, 7, 8, 9, 10, 11, 12, 15, 25, 32, 64, 86] 21 = some f21 := by kernel_rfl
theorem f21_n : argsOK Go.Proofs.Tryz.prog 21 0 = true := by kernel_rfl
end Go.AM.F

set_option maxRecDepth 100000
namespace Go.AM.F
def f7 : AFunc := ⟨[0, 2, 3, 5],
 .seq (.reg [
 ⟨.new 49 2 [(.int .u64 0), (.int .u32 0)], .fr 1, none⟩,
 ⟨.mov (.c (.bool false)), .fr 2, none⟩]) <|
 .seq (.seq (.reg [
 ⟨.mov (.fr 0), .tm, none⟩,
 ⟨.eqv 1 false (.tm 0) (.c (.pointer none)), .fr 3, none⟩]) <|
 .cond (.fr 3)
 (.seq (.reg [
 ⟨.build [(.int .u64 0), (.int .u32 0)] [], .tm, none⟩,
 ⟨.storen 2 (.fr 1) (.tm 0), .no, none⟩,
 ⟨.mov (.c (.bool true)), .fr 2, none⟩]) <|
 .ret)
 (.skip)) <|
 .seq (.reg [
 ⟨.mov (.fr 0), .tm, none⟩,
 ⟨.nilck (.tm 0), .tm, none⟩,
 ⟨.faddr 6 (.tm 0), .tm, none⟩,
 ⟨.load1 (.tm 0), .tm, none⟩,
 ⟨.callf 49 [(.tm 0)], .tm, none⟩,
 ⟨.extract (.tm 0) 0, .tm, none⟩,
 ⟨.extract (.tm 1) 1, .tm, none⟩,
 ⟨.storen 2 (.fr 1) (.tm 1), .no, none⟩,
 ⟨.mov (.tm 0), .fr 2, none⟩]) <|
 .ret, [.cn 2 1, .t 2]⟩
def f10 : AFunc := ⟨[0, 2, 4],
 .seq (.reg [
 ⟨.mov (.c (.int .i64 0)), .fr 1, none⟩]) <|
 .seq (.seq (.reg [
 ⟨.mov (.fr 0), .tm, none⟩,
 ⟨.eqv 1 false (.tm 0) (.c (.pointer none)), .fr 2, none⟩]) <|
 .cond (.fr 2)
 (.seq (.reg [
 ⟨.mov (.c (.int .i64 0)), .fr 1, none⟩]) <|
 .ret)
 (.skip)) <|
 .seq (.reg [
 ⟨.mov (.fr 0), .tm, none⟩,
 ⟨.nilck (.tm 0), .tm, none⟩,
 ⟨.faddr 11 (.tm 0), .tm, none⟩,
 ⟨.load1 (.tm 0), .tm, none⟩,
 ⟨.mov (.tm 0), .fr 1, none⟩]) <|
 .ret, [.t 1]⟩
def f12 : AFunc := ⟨[0, 2, 4],
 .seq (.reg [
 ⟨.mov (.c (.int .i64 0)), .fr 1, none⟩]) <|
 .seq (.seq (.reg [
 ⟨.mov (.fr 0), .tm, none⟩,
 ⟨.eqv 1 false (.tm 0) (.c (.pointer none)), .fr 2, none⟩]) <|
 .cond (.fr 2)
 (.seq (.reg [
 ⟨.mov (.c (.int .i64 0)), .fr 1, none⟩]) <|
 .ret)
 (.skip)) <|
 .seq (.reg [
 ⟨.mov (.fr 0), .tm, none⟩,
 ⟨.nilck (.tm 0), .tm, none⟩,
 ⟨.faddr 6 (.tm 0), .tm, none⟩,
 ⟨.load1 (.tm 0), .tm, none⟩,
 ⟨.callf 54 [(.tm 0)], .tm, none⟩,
 ⟨.mov (.tm 0), .fr 1, none⟩]) <|
 .ret, [.t 1]⟩
def f13 : AFunc := ⟨[0, 2, 4],
 .seq (.reg [
 ⟨.mov (.c (.int .i64 0)), .fr 1, none⟩]) <|
 .seq (.seq (.reg [
 ⟨.mov (.fr 0), .tm, none⟩,
 ⟨.eqv 1 false (.tm 0) (.c (.pointer none)), .fr 2, none⟩]) <|
 .cond (.fr 2)
 (.seq (.reg [
 ⟨.mov (.c (.int .i64 0)), .fr 1, none⟩]) <|
 .ret)
 (.skip)) <|
 .seq (.reg [
 ⟨.mov (.fr 0), .tm, none⟩,
 ⟨.nilck (.tm 0), .tm, none⟩,
 ⟨.faddr 10 (.tm 0), .tm, none⟩,
 ⟨.load1 (.tm 0), .tm, none⟩,
 ⟨.mov (.tm 0), .fr 1, none⟩]) <|
 .ret, [.t 1]⟩
def f14 : AFunc := ⟨[0, 1, 4],
 .seq (.reg [
 ⟨.mov (.c (.bool false)), .fr 2, none⟩]) <|
 .seq (.reg [
 ⟨.mov (.fr 0), .tm, none⟩,
 ⟨.mov (.fr 1), .tm, none⟩,
 ⟨.callf 51 [(.tm 1), (.tm 0), (.c (.bool true))], .tm, none⟩,
 ⟨.eqv 1 true (.tm 0) (.c (.pointer none)), .tm, none⟩,
 ⟨.mov (.tm 0), .fr 2, none⟩]) <|
 .ret, [.t 2]⟩
def f15 : AFunc := ⟨[0, 1, 4, 5],
 .seq (.reg [
 ⟨.mov (.c (.bool false)), .fr 2, none⟩]) <|
 .seq (.reg [
 ⟨.mov (.fr 0), .tm, none⟩,
 ⟨.mov (.fr 1), .tm, none⟩,
 ⟨.callf 51 [(.tm 1), (.tm 0), (.c (.bool true))], .tm, none⟩,
 ⟨.mov (.tm 0), .fr 3, none⟩]) <|
 .seq (.reg [
 ⟨.mov (.fr 3), .tm, none⟩,
 ⟨.eqv 1 true (.tm 0) (.c (.pointer none)), .tm, none⟩,
 ⟨.mov (.tm 0), .tm, none⟩,
 ⟨.mov (.fr 3), .tm, some ((.tm 0), true)⟩,
 ⟨.callf 55 [(.tm 0)], .tm, some ((.tm 1), true)⟩,
 ⟨.pick (.tm 2) (.tm 0) (.c (.bool false)), .tm, none⟩,
 ⟨.mov (.tm 0), .fr 2, none⟩]) <|
 .ret, [.t 2]⟩
def f16 : AFunc := ⟨[0, 1, 4, 5],
 .seq (.reg [
 ⟨.mov (.c (.bool false)), .fr 2, none⟩]) <|
 .seq (.reg [
 ⟨.mov (.fr 0), .tm, none⟩,
 ⟨.mov (.fr 1), .tm, none⟩,
 ⟨.callf 51 [(.tm 1), (.tm 0), (.c (.bool true))], .tm, none⟩,
 ⟨.mov (.tm 0), .fr 3, none⟩]) <|
 .seq (.reg [
 ⟨.mov (.fr 3), .tm, none⟩,
 ⟨.eqv 1 true (.tm 0) (.c (.pointer none)), .tm, none⟩,
 ⟨.mov (.tm 0), .tm, none⟩,
 ⟨.mov (.fr 3), .tm, some ((.tm 0), true)⟩,
 ⟨.nilck (.tm 0), .tm, some ((.tm 1), true)⟩,
 ⟨.faddr 0 (.tm 0), .tm, some ((.tm 2), true)⟩,
 ⟨.load1 (.tm 0), .tm, some ((.tm 3), true)⟩,
 ⟨.nilck (.tm 0), .tm, some ((.tm 4), true)⟩,
 ⟨.faddr 0 (.tm 0), .tm, some ((.tm 5), true)⟩,
 ⟨.load1 (.tm 0), .tm, some ((.tm 6), true)⟩,
 ⟨.callf 56 [(.tm 0)], .tm, some ((.tm 7), true)⟩,
 ⟨.pick (.tm 8) (.tm 0) (.c (.bool false)), .tm, none⟩,
 ⟨.mov (.tm 0), .fr 2, none⟩]) <|
 .ret, [.t 2]⟩
def f17 : AFunc := ⟨[0, 1, 4, 5, 10],
 .seq (.reg [
 ⟨.mov (.c (.int .i64 0)), .fr 2, none⟩]) <|
 .seq (.reg [
 ⟨.mov (.fr 0), .tm, none⟩,
 ⟨.mov (.fr 1), .tm, none⟩,
 ⟨.callf 51 [(.tm 1), (.tm 0), (.c (.bool true))], .tm, none⟩,
 ⟨.mov (.tm 0), .fr 3, none⟩]) <|
 .seq (.seq (.reg [
 ⟨.mov (.fr 3), .tm, none⟩,
 ⟨.eqv 1 false (.tm 0) (.c (.pointer none)), .fr 4, none⟩]) <|
 .cond (.fr 4)
 (.seq (.reg [
 ⟨.mov (.c (.int .i64 0)), .fr 2, none⟩]) <|
 .ret)
 (.skip)) <|
 .seq (.reg [
 ⟨.mov (.fr 3), .tm, none⟩,
 ⟨.nilck (.tm 0), .tm, none⟩,
 ⟨.faddr 0 (.tm 0), .tm, none⟩,
 ⟨.load1 (.tm 0), .tm, none⟩,
 ⟨.nilck (.tm 0), .tm, none⟩,
 ⟨.faddr 2 (.tm 0), .tm, none⟩,
 ⟨.load1 (.tm 0), .tm, none⟩,
 ⟨.callf 57 [(.tm 0)], .tm, none⟩,
 ⟨.mov (.tm 0), .fr 2, none⟩]) <|
 .ret, [.t 2]⟩
def f18 : AFunc := ⟨[0, 1, 4, 5, 10],
 .seq (.reg [
 ⟨.mov (.c (.int .i64 0)), .fr 2, none⟩]) <|
 .seq (.reg [
 ⟨.mov (.fr 0), .tm, none⟩,
 ⟨.mov (.fr 1), .tm, none⟩,
 ⟨.callf 51 [(.tm 1), (.tm 0), (.c (.bool true))], .tm, none⟩,
 ⟨.mov (.tm 0), .fr 3, none⟩]) <|
 .seq (.seq (.reg [
 ⟨.mov (.fr 3), .tm, none⟩,
 ⟨.eqv 1 false (.tm 0) (.c (.pointer none)), .fr 4, none⟩]) <|
 .cond (.fr 4)
 (.seq (.reg [
 ⟨.mov (.c (.int .i64 0)), .fr 2, none⟩]) <|
 .ret)
 (.skip)) <|
 .seq (.reg [
 ⟨.mov (.fr 3), .tm, none⟩,
 ⟨.nilck (.tm 0), .tm, none⟩,
 ⟨.faddr 0 (.tm 0), .tm, none⟩,
 ⟨.load1 (.tm 0), .tm, none⟩,
 ⟨.nilck (.tm 0), .tm, none⟩,
 ⟨.faddr 7 (.tm 0), .tm, none⟩,
 ⟨.load1 (.tm 0), .tm, none⟩,
 ⟨.len false (.tm 0), .tm, none⟩,
 ⟨.mov (.tm 0), .fr 2, none⟩]) <|
 .ret, [.t 2]⟩
def f19 : AFunc := ⟨[0, 1, 4, 5, 10],
 .seq (.reg [
 ⟨.mov (.c (.int .i64 0)), .fr 2, none⟩]) <|
 .seq (.reg [
 ⟨.mov (.fr 0), .tm, none⟩,
 ⟨.mov (.fr 1), .tm, none⟩,
 ⟨.callf 51 [(.tm 1), (.tm 0), (.c (.bool false))], .tm, none⟩,
 ⟨.mov (.tm 0), .fr 3, none⟩]) <|
 .seq (.seq (.reg [
 ⟨.mov (.fr 3), .tm, none⟩,
 ⟨.eqv 1 false (.tm 0) (.c (.pointer none)), .fr 4, none⟩]) <|
 .cond (.fr 4)
 (.seq (.reg [
 ⟨.mov (.c (.int .i64 0)), .fr 2, none⟩]) <|
 .ret)
 (.skip)) <|
 .seq (.reg [
 ⟨.mov (.fr 3), .tm, none⟩,
 ⟨.nilck (.tm 0), .tm, none⟩,
 ⟨.faddr 3 (.tm 0), .tm, none⟩,
 ⟨.callf 58 [(.tm 0)], .tm, none⟩,
 ⟨.mov (.tm 0), .fr 2, none⟩]) <|
 .ret, [.t 2]⟩
def f27 : AFunc := ⟨[0],
 .seq (.reg [
 ⟨.new 71 3 [(.int .i64 0), (.int .i64 0), (.int .i64 0)], .fr 0, none⟩]) <|
 .seq (.reg [
 ⟨.build [(.int .i64 0), (.int .i64 0), (.int .i64 0)] [(1, 1, (.c (.int .i64 (-1))))], .tm, none⟩,
 ⟨.storen 3 (.fr 0) (.tm 0), .no, none⟩]) <|
 .ret, [.cn 3 0]⟩
def f30 : AFunc := ⟨[0, 1, 4],
 .seq (.reg [
 ⟨.mov (.c (.int .i64 0)), .fr 2, none⟩]) <|
 .seq (.reg [
 ⟨.mov (.fr 0), .tm, none⟩,
 ⟨.mov (.fr 1), .tm, none⟩,
 ⟨.bin .rem (.tm 1) (.tm 0), .tm, none⟩,
 ⟨.mov (.fr 1), .tm, none⟩,
 ⟨.bin .add (.tm 1) (.tm 0), .tm, none⟩,
 ⟨.mov (.fr 1), .tm, none⟩,
 ⟨.bin .rem (.tm 1) (.tm 0), .tm, none⟩,
 ⟨.mov (.tm 0), .fr 2, none⟩]) <|
 .ret, [.t 2]⟩
def f31 : AFunc := ⟨[0, 1, 3],
 .seq (.reg [
 ⟨.box 47 77 (.fr 1), .fr 2, none⟩]) <|
 .dreg [
 (⟨.mov (.fr 0), .tm, none⟩, []),
 (⟨.faddr 2 (.fr 2), .tm, none⟩, []),
 (⟨.load1 (.tm 0), .tm, none⟩, []),
 (⟨.callf 30 [(.tm 0), (.c (.int .i64 2))], .tm, none⟩, []),
 (⟨.faddr 3 (.fr 2), .tm, none⟩, []),
 (⟨.loadn 4 (.tm 0), .tm, none⟩, [3]),
 (⟨.callf 32 [(.tm 0)], .tm, none⟩, []),
 (⟨.nilck (.tm 6), .tm, none⟩, []),
 (⟨.faddr 4 (.tm 0), .tm, none⟩, []),
 (⟨.iaddrp 4 2 (.tm 0) (.tm 5), .tm, none⟩, []),
 (⟨.storen 4 (.tm 0) (.tm 3), .no, none⟩, [])], []⟩
def f32 : AFunc := ⟨[0, 1, 2],
 .seq (.reg [
 ⟨.box 40 4 (.fr 0), .fr 1, none⟩,
 ⟨.new 40 4 [(.int .u64 0), (.int .u32 0), (.int .u32 0), (.slice none 0 0)], .fr 2, none⟩]) <|
 .seq (.reg [
 ⟨.faddr 3 (.fr 1), .tm, none⟩,
 ⟨.load1 (.tm 0), .tm, none⟩,
 ⟨.callf 77 [(.tm 0)], .tm, none⟩,
 ⟨.faddr 3 (.fr 1), .tm, none⟩,
 ⟨.store1 (.tm 0) (.tm 1), .no, none⟩]) <|
 .seq (.reg [
 ⟨.loadn 4 (.fr 1), .tm, none⟩,
 ⟨.storen 4 (.fr 2) (.tm 0), .no, none⟩]) <|
 .ret, [.cn 4 2]⟩
def f33 : AFunc := ⟨[0, 1, 2],
 .seq (.reg [
 ⟨.box 47 77 (.fr 2), .tm, none⟩]) <|
 .seq (.reg [
 ⟨.mov (.fr 0), .tm, none⟩,
 ⟨.nilck (.tm 0), .tm, none⟩,
 ⟨.faddr 10 (.tm 0), .tm, none⟩,
 ⟨.load1 (.tm 0), .tm, none⟩,
 ⟨.bin .add (.tm 0) (.c (.int .i64 1)), .tm, none⟩,
 ⟨.nilck (.tm 4), .tm, none⟩,
 ⟨.faddr 10 (.tm 0), .tm, none⟩,
 ⟨.store1 (.tm 0) (.tm 2), .no, none⟩]) <|
 .reg [
 ⟨.mov (.fr 0), .tm, none⟩,
 ⟨.nilck (.tm 0), .tm, none⟩,
 ⟨.faddr 6 (.tm 0), .tm, none⟩,
 ⟨.load1 (.tm 0), .tm, none⟩,
 ⟨.callf 78 [(.tm 0)], .tm, none⟩], []⟩
def f37 : AFunc := ⟨[0, 1, 2, 4, 9],
 .seq (.reg [
 ⟨.box 47 77 (.fr 1), .fr 3, none⟩]) <|
 .seq (.reg [
 ⟨.mov (.fr 0), .tm, none⟩,
 ⟨.nilck (.tm 0), .tm, none⟩,
 ⟨.faddr 0 (.tm 0), .tm, none⟩,
 ⟨.load1 (.tm 0), .tm, none⟩,
 ⟨.eqv 1 false (.tm 0) (.c (.pointer none)), .fr 4, none⟩]) <|
 .cond (.fr 4)
 (.seq (.dreg [
 (⟨.mov (.fr 0), .tm, none⟩, []),
 (⟨.nilck (.tm 0), .tm, none⟩, []),
 (⟨.faddr 2 (.tm 0), .tm, none⟩, []),
 (⟨.load1 (.tm 0), .tm, none⟩, []),
 (⟨.faddr 8 (.fr 3), .tm, none⟩, []),
 (⟨.load1 (.tm 0), .tm, none⟩, []),
 (⟨.callf 38 [(.tm 2), (.tm 0)], .tm, none⟩, [])]) <|
 .reg [
 ⟨.load1 (.fr 2), .tm, none⟩,
 ⟨.mov (.fr 0), .tm, none⟩,
 ⟨.callf 29 [(.tm 1), (.tm 0)], .tm, none⟩])
 (.skip), []⟩
def f45 : AFunc := ⟨[0, 1, 2],
 .seq (.reg [
 ⟨.box 47 77 (.fr 1), .tm, none⟩]) <|
 .reg [
 ⟨.load1 (.fr 2), .tm, none⟩,
 ⟨.mov (.fr 0), .tm, none⟩,
 ⟨.callf 46 [(.tm 1), (.tm 0)], .tm, none⟩], []⟩
def f46 : AFunc := ⟨[0, 1],
 .seq (.reg [
 ⟨.mov (.fr 1), .tm, none⟩,
 ⟨.nilck (.tm 0), .tm, none⟩,
 ⟨.faddr 2 (.tm 0), .tm, none⟩,
 ⟨.load1 (.tm 0), .tm, none⟩,
 ⟨.callf 103 [(.tm 0)], .tm, none⟩]) <|
 .reg [
 ⟨.mov (.fr 1), .tm, none⟩,
 ⟨.nilck (.tm 0), .tm, none⟩,
 ⟨.faddr 0 (.tm 0), .tm, none⟩,
 ⟨.store1 (.tm 0) (.c (.pointer none)), .no, none⟩], []⟩
def f48 : AFunc := ⟨[0, 1, 15],
 .seq (.reg [
 ⟨.mov (.fr 1), .tm, none⟩,
 ⟨.nilck (.tm 0), .tm, none⟩,
 ⟨.faddr 0 (.tm 0), .tm, none⟩,
 ⟨.load1 (.tm 0), .tm, none⟩,
 ⟨.eqv 1 true (.tm 0) (.c (.pointer none)), .tm, none⟩,
 ⟨.mov (.tm 0), .tm, none⟩,
 ⟨.mov (.fr 1), .tm, some ((.tm 0), true)⟩,
 ⟨.nilck (.tm 0), .tm, some ((.tm 1), true)⟩,
 ⟨.faddr 2 (.tm 0), .tm, some ((.tm 2), true)⟩,
 ⟨.load1 (.tm 0), .tm, some ((.tm 3), true)⟩,
 ⟨.callf 105 [(.tm 0)], .tm, some ((.tm 4), true)⟩,
 ⟨.pick (.tm 5) (.tm 0) (.c (.bool false)), .fr 2, none⟩]) <|
 .cond (.fr 2)
 (.reg [
 ⟨.mov (.fr 0), .tm, none⟩,
 ⟨.mov (.fr 1), .tm, none⟩,
 ⟨.callf 46 [(.tm 1), (.tm 0)], .tm, none⟩])
 (.skip), []⟩
def f49 : AFunc := ⟨[0, 2, 3, 5],
 .seq (.reg [
 ⟨.new 49 2 [(.int .u64 0), (.int .u32 0)], .fr 1, none⟩,
 ⟨.mov (.c (.bool false)), .fr 2, none⟩]) <|
 .seq (.seq (.reg [
 ⟨.mov (.fr 0), .tm, none⟩,
 ⟨.eqv 1 false (.tm 0) (.c (.pointer none)), .fr 3, none⟩]) <|
 .cond (.fr 3)
 (.seq (.reg [
 ⟨.build [(.int .u64 0), (.int .u32 0)] [], .tm, none⟩,
 ⟨.storen 2 (.fr 1) (.tm 0), .no, none⟩,
 ⟨.mov (.c (.bool true)), .fr 2, none⟩]) <|
 .ret)
 (.skip)) <|
 .seq (.dreg [
 (⟨.mov (.fr 0), .tm, none⟩, []),
 (⟨.nilck (.tm 0), .tm, none⟩, []),
 (⟨.faddr 6 (.tm 0), .tm, none⟩, []),
 (⟨.loadn 2 (.tm 0), .tm, none⟩, []),
 (⟨.mov (.fr 0), .tm, none⟩, []),
 (⟨.nilck (.tm 0), .tm, none⟩, []),
 (⟨.faddr 5 (.tm 0), .tm, none⟩, []),
 (⟨.load1 (.tm 0), .tm, none⟩, []),
 (⟨.storen 2 (.fr 1) (.tm 4), .no, none⟩, [7]),
 (⟨.mov (.tm 0), .fr 2, none⟩, [])]) <|
 .ret, [.cn 2 1, .t 2]⟩
def f53 : AFunc := ⟨[0, 2, 4],
 .seq (.reg [
 ⟨.mov (.c (.slice none 0 0)), .fr 1, none⟩]) <|
 .seq (.seq (.reg [
 ⟨.mov (.fr 0), .tm, none⟩,
 ⟨.eqv 2 false (.tm 0) (.c (.slice none 0 0)), .fr 2, none⟩]) <|
 .cond (.fr 2)
 (.seq (.reg [
 ⟨.mov (.c (.slice none 0 0)), .fr 1, none⟩]) <|
 .ret)
 (.skip)) <|
 .seq (.reg [
 ⟨.bslice 104 10 0 [] [], .tm, none⟩,
 ⟨.mov (.fr 0), .tm, none⟩,
 ⟨.app 104 10 88 (.tm 1) (.tm 0), .tm, none⟩,
 ⟨.mov (.tm 0), .fr 1, none⟩]) <|
 .ret, [.t 1]⟩
def f54 : AFunc := ⟨[0, 2, 4],
 .seq (.reg [
 ⟨.mov (.c (.int .i64 0)), .fr 1, none⟩]) <|
 .seq (.seq (.reg [
 ⟨.mov (.fr 0), .tm, none⟩,
 ⟨.eqv 1 false (.tm 0) (.c (.pointer none)), .fr 2, none⟩]) <|
 .cond (.fr 2)
 (.seq (.reg [
 ⟨.mov (.c (.int .i64 0)), .fr 1, none⟩]) <|
 .ret)
 (.skip)) <|
 .seq (.reg [
 ⟨.mov (.fr 0), .tm, none⟩,
 ⟨.nilck (.tm 0), .tm, none⟩,
 ⟨.faddr 0 (.tm 0), .tm, none⟩,
 ⟨.faddr 0 (.tm 0), .tm, none⟩,
 ⟨.load1 (.tm 0), .tm, none⟩,
 ⟨.mov (.tm 0), .fr 1, none⟩]) <|
 .ret, [.t 1]⟩
def f55 : AFunc := ⟨[0, 2],
 .seq (.reg [
 ⟨.mov (.c (.bool false)), .fr 1, none⟩]) <|
 .seq (.reg [
 ⟨.mov (.fr 0), .tm, none⟩,
 ⟨.nilck (.tm 0), .tm, none⟩,
 ⟨.faddr 0 (.tm 0), .tm, none⟩,
 ⟨.load1 (.tm 0), .tm, none⟩,
 ⟨.nilck (.tm 0), .tm, none⟩,
 ⟨.faddr 1 (.tm 0), .tm, none⟩,
 ⟨.load1 (.tm 0), .tm, none⟩,
 ⟨.callf 107 [(.tm 0)], .tm, none⟩,
 ⟨.bin .eql (.tm 0) (.c (.int .u8 1)), .tm, none⟩,
 ⟨.mov (.tm 0), .fr 1, none⟩]) <|
 .ret, [.t 1]⟩
def f56 : AFunc := ⟨[0, 2],
 .seq (.reg [
 ⟨.mov (.c (.bool false)), .fr 1, none⟩]) <|
 .seq (.reg [
 ⟨.mov (.fr 0), .tm, none⟩,
 ⟨.eqv 1 false (.tm 0) (.c (.pointer none)), .tm, none⟩,
 ⟨.mov (.tm 0), .tm, none⟩,
 ⟨.mov (.fr 0), .tm, some ((.tm 0), false)⟩,
 ⟨.nilck (.tm 0), .tm, some ((.tm 1), false)⟩,
 ⟨.faddr 6 (.tm 0), .tm, some ((.tm 2), false)⟩,
 ⟨.load1 (.tm 0), .tm, some ((.tm 3), false)⟩,
 ⟨.callf 108 [(.tm 0)], .tm, some ((.tm 4), false)⟩,
 ⟨.pick (.tm 5) (.c (.bool true)) (.tm 0), .tm, none⟩,
 ⟨.mov (.tm 0), .fr 1, none⟩]) <|
 .ret, [.t 1]⟩
def f57 : AFunc := ⟨[0, 2, 4],
 .seq (.reg [
 ⟨.mov (.c (.int .i64 0)), .fr 1, none⟩]) <|
 .seq (.seq (.reg [
 ⟨.mov (.fr 0), .tm, none⟩,
 ⟨.eqv 1 false (.tm 0) (.c (.pointer none)), .fr 2, none⟩]) <|
 .cond (.fr 2)
 (.seq (.reg [
 ⟨.mov (.c (.int .i64 0)), .fr 1, none⟩]) <|
 .ret)
 (.skip)) <|
 .seq (.reg [
 ⟨.mov (.fr 0), .tm, none⟩,
 ⟨.nilck (.tm 0), .tm, none⟩,
 ⟨.faddr 3 (.tm 0), .tm, none⟩,
 ⟨.load1 (.tm 0), .tm, none⟩,
 ⟨.mov (.tm 0), .fr 1, none⟩]) <|
 .ret, [.t 1]⟩
def f63 : AFunc := ⟨[0],
 .seq (.reg [
 ⟨.mov (.c (.pointer none)), .fr 0, none⟩]) <|
 .seq (.reg [
 ⟨.build [(.pointer none), (.pointer none), (.pointer none), (.int .i64 0), (.bool false)] [], .tm, none⟩,
 ⟨.box 220 5 (.tm 0), .tm, none⟩,
 ⟨.mov (.tm 0), .fr 0, none⟩]) <|
 .ret, [.t 0]⟩
def f66 : AFunc := ⟨[0, 3],
 .seq (.reg [
 ⟨.mov (.fr 0), .tm, none⟩,
 ⟨.eqv 1 true (.tm 0) (.c (.pointer none)), .fr 1, none⟩]) <|
 .cond (.fr 1)
 (.reg [
 ⟨.mov (.fr 0), .tm, none⟩,
 ⟨.mov (.fr 0), .tm, none⟩,
 ⟨.nilck (.tm 0), .tm, none⟩,
 ⟨.faddr 3 (.tm 0), .tm, none⟩,
 ⟨.load1 (.tm 0), .tm, none⟩,
 ⟨.build [(.pointer none), (.pointer none), (.pointer none), (.int .i64 0), (.bool false)] [(3, 1, (.tm 0)), (4, 1, (.c (.bool true)))], .tm, none⟩,
 ⟨.nilck (.tm 5), .tm, none⟩,
 ⟨.storen 5 (.tm 0) (.tm 1), .no, none⟩])
 (.skip), []⟩
def f67 : AFunc := ⟨[0, 2, 4],
 .seq (.reg [
 ⟨.mov (.c (.slice none 0 0)), .fr 1, none⟩]) <|
 .seq (.seq (.reg [
 ⟨.mov (.fr 0), .tm, none⟩,
 ⟨.eqv 2 false (.tm 0) (.c (.slice none 0 0)), .fr 2, none⟩]) <|
 .cond (.fr 2)
 (.seq (.reg [
 ⟨.mov (.c (.slice none 0 0)), .fr 1, none⟩]) <|
 .ret)
 (.skip)) <|
 .seq (.reg [
 ⟨.bslice 9 1 0 [] [], .tm, none⟩,
 ⟨.mov (.fr 0), .tm, none⟩,
 ⟨.app 9 1 16 (.tm 1) (.tm 0), .tm, none⟩,
 ⟨.mov (.tm 0), .fr 1, none⟩]) <|
 .ret, [.t 1]⟩
def f68 : AFunc := ⟨[0, 2, 4],
 .seq (.reg [
 ⟨.mov (.c (.slice none 0 0)), .fr 1, none⟩]) <|
 .seq (.seq (.reg [
 ⟨.mov (.fr 0), .tm, none⟩,
 ⟨.eqv 2 false (.tm 0) (.c (.slice none 0 0)), .fr 2, none⟩]) <|
 .cond (.fr 2)
 (.seq (.reg [
 ⟨.mov (.c (.slice none 0 0)), .fr 1, none⟩]) <|
 .ret)
 (.skip)) <|
 .seq (.reg [
 ⟨.bslice 27 2 0 [] [], .tm, none⟩,
 ⟨.mov (.fr 0), .tm, none⟩,
 ⟨.app 27 2 24 (.tm 1) (.tm 0), .tm, none⟩,
 ⟨.mov (.tm 0), .fr 1, none⟩]) <|
 .ret, [.t 1]⟩
def f69 : AFunc := ⟨[0, 2, 4],
 .seq (.reg [
 ⟨.mov (.c (.slice none 0 0)), .fr 1, none⟩]) <|
 .seq (.seq (.reg [
 ⟨.mov (.fr 0), .tm, none⟩,
 ⟨.eqv 2 false (.tm 0) (.c (.slice none 0 0)), .fr 2, none⟩]) <|
 .cond (.fr 2)
 (.seq (.reg [
 ⟨.mov (.c (.slice none 0 0)), .fr 1, none⟩]) <|
 .ret)
 (.skip)) <|
 .seq (.reg [
 ⟨.bslice 88 2 0 [] [], .tm, none⟩,
 ⟨.mov (.fr 0), .tm, none⟩,
 ⟨.app 88 2 24 (.tm 1) (.tm 0), .tm, none⟩,
 ⟨.mov (.tm 0), .fr 1, none⟩]) <|
 .ret, [.t 1]⟩
def f70 : AFunc := ⟨[0, 2, 4],
 .seq (.reg [
 ⟨.mov (.c (.slice none 0 0)), .fr 1, none⟩]) <|
 .seq (.seq (.reg [
 ⟨.mov (.fr 0), .tm, none⟩,
 ⟨.eqv 2 false (.tm 0) (.c (.slice none 0 0)), .fr 2, none⟩]) <|
 .cond (.fr 2)
 (.seq (.reg [
 ⟨.mov (.c (.slice none 0 0)), .fr 1, none⟩]) <|
 .ret)
 (.skip)) <|
 .seq (.reg [
 ⟨.bslice 93 6 0 [] [], .tm, none⟩,
 ⟨.mov (.fr 0), .tm, none⟩,
 ⟨.app 93 6 120 (.tm 1) (.tm 0), .tm, none⟩,
 ⟨.mov (.tm 0), .fr 1, none⟩]) <|
 .ret, [.t 1]⟩
def f71 : AFunc := ⟨[0, 2, 4],
 .seq (.reg [
 ⟨.mov (.c (.slice none 0 0)), .fr 1, none⟩]) <|
 .seq (.seq (.reg [
 ⟨.mov (.fr 0), .tm, none⟩,
 ⟨.eqv 2 false (.tm 0) (.c (.slice none 0 0)), .fr 2, none⟩]) <|
 .cond (.fr 2)
 (.seq (.reg [
 ⟨.mov (.c (.slice none 0 0)), .fr 1, none⟩]) <|
 .ret)
 (.skip)) <|
 .seq (.reg [
 ⟨.bslice 3 1 0 [] [], .tm, none⟩,
 ⟨.mov (.fr 0), .tm, none⟩,
 ⟨.app 3 1 8 (.tm 1) (.tm 0), .tm, none⟩,
 ⟨.mov (.tm 0), .fr 1, none⟩]) <|
 .ret, [.t 1]⟩
def f72 : AFunc := ⟨[0, 2, 4],
 .seq (.reg [
 ⟨.mov (.c (.slice none 0 0)), .fr 1, none⟩]) <|
 .seq (.seq (.reg [
 ⟨.mov (.fr 0), .tm, none⟩,
 ⟨.eqv 2 false (.tm 0) (.c (.slice none 0 0)), .fr 2, none⟩]) <|
 .cond (.fr 2)
 (.seq (.reg [
 ⟨.mov (.c (.slice none 0 0)), .fr 1, none⟩]) <|
 .ret)
 (.skip)) <|
 .seq (.reg [
 ⟨.bslice 90 2 0 [] [], .tm, none⟩,
 ⟨.mov (.fr 0), .tm, none⟩,
 ⟨.app 90 2 16 (.tm 1) (.tm 0), .tm, none⟩,
 ⟨.mov (.tm 0), .fr 1, none⟩]) <|
 .ret, [.t 1]⟩
def f73 : AFunc := ⟨[0, 2, 3, 9],
 .seq (.reg [
 ⟨.mov (.c (.pointer none)), .fr 1, none⟩,
 ⟨.mov (.c (.int .i64 0)), .fr 2, none⟩]) <|
 .seq (.seq (.reg [
 ⟨.mov (.fr 0), .tm, none⟩,
 ⟨.bin .lss (.tm 0) (.c (.int .i64 0)), .tm, none⟩,
 ⟨.mov (.tm 0), .tm, none⟩,
 ⟨.mov (.fr 0), .tm, some ((.tm 0), false)⟩,
 ⟨.bin .gtr (.tm 0) (.c (.int .i64 1)), .tm, some ((.tm 1), false)⟩,
 ⟨.pick (.tm 2) (.c (.bool true)) (.tm 0), .fr 3, none⟩]) <|
 .cond (.fr 3)
 (.seq (.reg [
 ⟨.mov (.c (.pointer none)), .fr 1, none⟩,
 ⟨.mov (.c (.int .i64 2)), .fr 2, none⟩]) <|
 .ret)
 (.skip)) <|
 .seq (.reg [
 ⟨.mov (.fr 0), .tm, none⟩,
 ⟨.build [(.int .i64 0), (.int .i64 0), (.int .i64 0)] [(0, 1, (.tm 0))], .tm, none⟩,
 ⟨.build [(.int .i64 0), (.int .i64 0), (.int .i64 0), (.int .u8 0), (.int .i64 0), (.int .i64 0)] [(0, 3, (.tm 0))], .tm, none⟩,
 ⟨.box 236 6 (.tm 0), .tm, none⟩,
 ⟨.mov (.tm 0), .fr 1, none⟩,
 ⟨.mov (.c (.int .i64 0)), .fr 2, none⟩]) <|
 .ret, [.t 1, .t 2]⟩
def f77 : AFunc := ⟨[0, 2, 4],
 .seq (.reg [
 ⟨.mov (.c (.slice none 0 0)), .fr 1, none⟩]) <|
 .seq (.seq (.reg [
 ⟨.mov (.fr 0), .tm, none⟩,
 ⟨.eqv 2 false (.tm 0) (.c (.slice none 0 0)), .fr 2, none⟩]) <|
 .cond (.fr 2)
 (.seq (.reg [
 ⟨.mov (.c (.slice none 0 0)), .fr 1, none⟩]) <|
 .ret)
 (.skip)) <|
 .seq (.reg [
 ⟨.bslice 121 2 0 [] [], .tm, none⟩,
 ⟨.mov (.fr 0), .tm, none⟩,
 ⟨.app 121 2 16 (.tm 1) (.tm 0), .tm, none⟩,
 ⟨.mov (.tm 0), .fr 1, none⟩]) <|
 .ret, [.t 1]⟩
def f78 : AFunc := ⟨[0, 3, 12],
 .seq (.seq (.reg [
 ⟨.mov (.fr 0), .tm, none⟩,
 ⟨.eqv 1 false (.tm 0) (.c (.pointer none)), .fr 1, none⟩]) <|
 .cond (.fr 1)
 (.ret)
 (.skip)) <|
 .seq (.seq (.dreg [
 (⟨.mov (.fr 0), .tm, none⟩, []),
 (⟨.nilck (.tm 0), .tm, none⟩, []),
 (⟨.faddr 4 (.tm 0), .tm, none⟩, []),
 (⟨.load1 (.tm 0), .tm, none⟩, []),
 (⟨.mov (.fr 0), .tm, none⟩, []),
 (⟨.nilck (.tm 0), .tm, none⟩, []),
 (⟨.faddr 3 (.tm 0), .tm, none⟩, []),
 (⟨.load1 (.tm 0), .tm, none⟩, []),
 (⟨.bin .lss (.tm 4) (.tm 0), .fr 2, none⟩, [])]) <|
 .cond (.fr 2)
 (.seq (.reg [
 ⟨.mov (.fr 0), .tm, none⟩,
 ⟨.nilck (.tm 0), .tm, none⟩,
 ⟨.faddr 4 (.tm 0), .tm, none⟩,
 ⟨.load1 (.tm 0), .tm, none⟩,
 ⟨.bin .add (.tm 0) (.c (.int .i64 1)), .tm, none⟩,
 ⟨.nilck (.tm 4), .tm, none⟩,
 ⟨.faddr 4 (.tm 0), .tm, none⟩,
 ⟨.store1 (.tm 0) (.tm 2), .no, none⟩]) <|
 .ret)
 (.skip)) <|
 .reg [
 ⟨.mov (.fr 0), .tm, none⟩,
 ⟨.callf 121 [(.tm 0)], .tm, none⟩], []⟩
def f84 : AFunc := ⟨[0, 2],
 .seq (.reg [
 ⟨.mov (.c (.bool false)), .fr 1, none⟩]) <|
 .seq (.reg [
 ⟨.mov (.fr 0), .tm, none⟩,
 ⟨.eqv 1 false (.tm 0) (.c (.pointer none)), .tm, none⟩,
 ⟨.mov (.tm 0), .tm, none⟩,
 ⟨.mov (.fr 0), .tm, some ((.tm 0), false)⟩,
 ⟨.nilck (.tm 0), .tm, some ((.tm 1), false)⟩,
 ⟨.faddr 5 (.tm 0), .tm, some ((.tm 2), false)⟩,
 ⟨.load1 (.tm 0), .tm, some ((.tm 3), false)⟩,
 ⟨.pick (.tm 4) (.c (.bool true)) (.tm 0), .tm, none⟩,
 ⟨.mov (.tm 0), .fr 1, none⟩]) <|
 .ret, [.t 1]⟩
def f96 : AFunc := ⟨[0, 1, 4],
 .seq (.reg [
 ⟨.mov (.c (.int .i64 0)), .fr 2, none⟩]) <|
 .seq (.dreg [
 (⟨.mov (.fr 0), .tm, none⟩, []),
 (⟨.nilck (.tm 0), .tm, none⟩, []),
 (⟨.faddr 10 (.tm 0), .tm, none⟩, []),
 (⟨.load1 (.tm 0), .tm, none⟩, []),
 (⟨.mov (.fr 1), .tm, none⟩, []),
 (⟨.nilck (.tm 0), .tm, none⟩, []),
 (⟨.faddr 12 (.tm 0), .tm, none⟩, []),
 (⟨.load1 (.tm 0), .tm, none⟩, []),
 (⟨.bin .sub (.tm 4) (.tm 0), .tm, none⟩, []),
 (⟨.mm true (.c (.int .i64 0)) (.tm 0), .tm, none⟩, []),
 (⟨.mov (.tm 0), .fr 2, none⟩, [])]) <|
 .ret, [.t 2]⟩
def f97 : AFunc := ⟨[0, 1, 5],
 .seq (.reg [
 ⟨.mov (.fr 1), .tm, none⟩,
 ⟨.bin .eql (.tm 0) (.c (.int .u8 3)), .fr 2, none⟩]) <|
 .cond (.fr 2)
 (.reg [
 ⟨.mov (.fr 0), .tm, none⟩,
 ⟨.nilck (.tm 0), .tm, none⟩,
 ⟨.faddr 0 (.tm 0), .tm, none⟩,
 ⟨.load1 (.tm 0), .tm, none⟩,
 ⟨.nilck (.tm 0), .tm, none⟩,
 ⟨.faddr 0 (.tm 0), .tm, none⟩,
 ⟨.load1 (.tm 0), .tm, none⟩,
 ⟨.callf 139 [(.tm 0)], .tm, none⟩])
 (.skip), []⟩
def f99 : AFunc := ⟨[0, 2, 4],
 .seq (.reg [
 ⟨.mov (.c (.int .i64 0)), .fr 1, none⟩]) <|
 .seq (.seq (.reg [
 ⟨.mov (.fr 0), .tm, none⟩,
 ⟨.eqv 1 false (.tm 0) (.c (.pointer none)), .fr 2, none⟩]) <|
 .cond (.fr 2)
 (.seq (.reg [
 ⟨.mov (.c (.int .i64 0)), .fr 1, none⟩]) <|
 .ret)
 (.skip)) <|
 .seq (.reg [
 ⟨.mov (.fr 0), .tm, none⟩,
 ⟨.nilck (.tm 0), .tm, none⟩,
 ⟨.faddr 0 (.tm 0), .tm, none⟩,
 ⟨.faddr 1 (.tm 0), .tm, none⟩,
 ⟨.faddr 0 (.tm 0), .tm, none⟩,
 ⟨.load1 (.tm 0), .tm, none⟩,
 ⟨.mov (.tm 0), .fr 1, none⟩]) <|
 .ret, [.t 1]⟩
def f103 : AFunc := ⟨[0, 3],
 .seq (.reg [
 ⟨.mov (.fr 0), .tm, none⟩,
 ⟨.eqv 1 true (.tm 0) (.c (.pointer none)), .fr 1, none⟩]) <|
 .cond (.fr 1)
 (.reg [
 ⟨.mov (.fr 0), .tm, none⟩,
 ⟨.mov (.fr 0), .tm, none⟩,
 ⟨.nilck (.tm 1), .tm, none⟩,
 ⟨.faddr 3 (.tm 0), .tm, none⟩,
 ⟨.store1 (.tm 0) (.c (.pointer none)), .no, none⟩,
 ⟨.nilck (.tm 2), .tm, none⟩,
 ⟨.faddr 4 (.tm 0), .tm, none⟩,
 ⟨.store1 (.tm 0) (.c (.bool true)), .no, none⟩])
 (.skip), []⟩
def f105 : AFunc := ⟨[0, 2],
 .seq (.reg [
 ⟨.mov (.c (.bool false)), .fr 1, none⟩]) <|
 .seq (.reg [
 ⟨.mov (.fr 0), .tm, none⟩,
 ⟨.eqv 1 false (.tm 0) (.c (.pointer none)), .tm, none⟩,
 ⟨.mov (.tm 0), .tm, none⟩,
 ⟨.mov (.fr 0), .tm, some ((.tm 0), false)⟩,
 ⟨.nilck (.tm 0), .tm, some ((.tm 1), false)⟩,
 ⟨.faddr 4 (.tm 0), .tm, some ((.tm 2), false)⟩,
 ⟨.load1 (.tm 0), .tm, some ((.tm 3), false)⟩,
 ⟨.pick (.tm 4) (.c (.bool true)) (.tm 0), .tm, none⟩,
 ⟨.mov (.tm 0), .fr 1, none⟩]) <|
 .ret, [.t 1]⟩
def f107 : AFunc := ⟨[0, 2, 4],
 .seq (.reg [
 ⟨.mov (.c (.int .u8 0)), .fr 1, none⟩]) <|
 .seq (.seq (.reg [
 ⟨.mov (.fr 0), .tm, none⟩,
 ⟨.eqv 1 false (.tm 0) (.c (.pointer none)), .fr 2, none⟩]) <|
 .cond (.fr 2)
 (.seq (.reg [
 ⟨.mov (.c (.int .u8 0)), .fr 1, none⟩]) <|
 .ret)
 (.skip)) <|
 .seq (.reg [
 ⟨.mov (.fr 0), .tm, none⟩,
 ⟨.nilck (.tm 0), .tm, none⟩,
 ⟨.faddr 3 (.tm 0), .tm, none⟩,
 ⟨.load1 (.tm 0), .tm, none⟩,
 ⟨.mov (.tm 0), .fr 1, none⟩]) <|
 .ret, [.t 1]⟩
def f108 : AFunc := ⟨[0, 2],
 .seq (.reg [
 ⟨.mov (.c (.bool false)), .fr 1, none⟩]) <|
 .seq (.reg [
 ⟨.mov (.fr 0), .tm, none⟩,
 ⟨.eqv 1 false (.tm 0) (.c (.pointer none)), .tm, none⟩,
 ⟨.mov (.tm 0), .tm, none⟩,
 ⟨.mov (.fr 0), .tm, some ((.tm 0), false)⟩,
 ⟨.nilck (.tm 0), .tm, some ((.tm 1), false)⟩,
 ⟨.faddr 4 (.tm 0), .tm, some ((.tm 2), false)⟩,
 ⟨.load1 (.tm 0), .tm, some ((.tm 3), false)⟩,
 ⟨.pick (.tm 4) (.c (.bool true)) (.tm 0), .tm, none⟩,
 ⟨.mov (.tm 0), .fr 1, none⟩]) <|
 .ret, [.t 1]⟩
def f110 : AFunc := ⟨[0, 1, 2],
 .seq (.reg [
 ⟨.box 93 6 (.fr 0), .fr 1, none⟩,
 ⟨.mov (.c (.slice none 0 0)), .fr 2, none⟩]) <|
 .seq (.reg [
 ⟨.faddr 2 (.fr 1), .tm, none⟩,
 ⟨.load1 (.tm 0), .tm, none⟩,
 ⟨.faddr 4 (.fr 1), .tm, none⟩,
 ⟨.load1 (.tm 0), .tm, none⟩,
 ⟨.bslice 41 1 2 [(.slice none 0 0), (.slice none 0 0)] [(0, 1, (.tm 2)), (1, 1, (.tm 0))], .tm, none⟩,
 ⟨.callf 163 [(.tm 0)], .tm, none⟩,
 ⟨.mov (.tm 0), .fr 2, none⟩]) <|
 .ret, [.t 2]⟩
def f111 : AFunc := ⟨[0, 1, 2],
 .seq (.reg [
 ⟨.box 93 6 (.fr 0), .fr 1, none⟩,
 ⟨.mov (.c (.slice none 0 0)), .fr 2, none⟩]) <|
 .seq (.reg [
 ⟨.faddr 3 (.fr 1), .tm, none⟩,
 ⟨.load1 (.tm 0), .tm, none⟩,
 ⟨.faddr 5 (.fr 1), .tm, none⟩,
 ⟨.load1 (.tm 0), .tm, none⟩,
 ⟨.bslice 91 1 2 [(.slice none 0 0), (.slice none 0 0)] [(0, 1, (.tm 2)), (1, 1, (.tm 0))], .tm, none⟩,
 ⟨.callf 164 [(.tm 0)], .tm, none⟩,
 ⟨.mov (.tm 0), .fr 2, none⟩]) <|
 .ret, [.t 2]⟩
def f113 : AFunc := ⟨[0, 2, 3, 4, 5, 12],
 .seq (.reg [
 ⟨.mov (.c (.pointer none)), .fr 1, none⟩,
 ⟨.mov (.c (.int .i64 0)), .fr 2, none⟩]) <|
 .seq (.reg [
 ⟨.mov (.fr 0), .tm, none⟩,
 ⟨.callf 166 [(.tm 0)], .tm, none⟩,
 ⟨.mov (.tm 0), .tm, none⟩,
 ⟨.extract (.tm 0) 0, .tm, none⟩,
 ⟨.extract (.tm 1) 1, .tm, none⟩,
 ⟨.mov (.tm 1), .fr 3, none⟩,
 ⟨.mov (.tm 0), .fr 4, none⟩]) <|
 .seq (.seq (.reg [
 ⟨.mov (.fr 4), .tm, none⟩,
 ⟨.bin .neq (.tm 0) (.c (.int .i64 0)), .fr 5, none⟩]) <|
 .cond (.fr 5)
 (.seq (.reg [
 ⟨.mov (.fr 4), .tm, none⟩,
 ⟨.mov (.c (.pointer none)), .fr 1, none⟩,
 ⟨.mov (.tm 0), .fr 2, none⟩]) <|
 .ret)
 (.skip)) <|
 .seq (.reg [
 ⟨.mov (.fr 3), .tm, none⟩,
 ⟨.build [(.pointer none)] [(0, 1, (.tm 0))], .tm, none⟩,
 ⟨.box 304 1 (.tm 0), .tm, none⟩,
 ⟨.mov (.tm 0), .fr 1, none⟩,
 ⟨.mov (.c (.int .i64 0)), .fr 2, none⟩]) <|
 .ret, [.t 1, .t 2]⟩
def f119 : AFunc := ⟨[0, 2, 8],
 .seq (.reg [
 ⟨.mov (.c (.pointer none)), .fr 1, none⟩]) <|
 .seq (.seq (.reg [
 ⟨.mov (.fr 0), .tm, none⟩,
 ⟨.bin .neq (.tm 0) (.c (.int .i64 0)), .tm, none⟩,
 ⟨.mov (.tm 0), .tm, none⟩,
 ⟨.mov (.fr 0), .tm, some ((.tm 0), true)⟩,
 ⟨.bin .neq (.tm 0) (.c (.int .i64 1)), .tm, some ((.tm 1), true)⟩,
 ⟨.pick (.tm 2) (.tm 0) (.c (.bool false)), .fr 2, none⟩]) <|
 .cond (.fr 2)
 (.seq (.reg [
 ⟨.mov (.c (.pointer none)), .fr 1, none⟩]) <|
 .ret)
 (.skip)) <|
 .seq (.reg [
 ⟨.mov (.fr 0), .tm, none⟩,
 ⟨.build [(.int .i64 0), (.int .i64 0), (.pointer none), (.pointer none), (.pointer none), (.bool false)] [(0, 1, (.tm 0))], .tm, none⟩,
 ⟨.box 323 6 (.tm 0), .tm, none⟩,
 ⟨.mov (.tm 0), .fr 1, none⟩]) <|
 .ret, [.t 1]⟩
def f120 : AFunc := ⟨[0, 2],
 .seq (.reg [
 ⟨.mov (.c (.bool false)), .fr 1, none⟩]) <|
 .seq (.reg [
 ⟨.mov (.fr 0), .tm, none⟩,
 ⟨.callf 181 [(.tm 0)], .tm, none⟩,
 ⟨.bin .geq (.tm 0) (.c (.int .i64 0)), .tm, none⟩,
 ⟨.mov (.tm 0), .tm, none⟩,
 ⟨.mov (.fr 0), .tm, some ((.tm 0), true)⟩,
 ⟨.callf 182 [(.tm 0)], .tm, some ((.tm 1), true)⟩,
 ⟨.bin .leq (.tm 0) (.c (.int .i64 1099511627776)), .tm, some ((.tm 2), true)⟩,
 ⟨.pick (.tm 3) (.tm 0) (.c (.bool false)), .tm, none⟩,
 ⟨.mov (.tm 0), .fr 1, none⟩]) <|
 .ret, [.t 1]⟩
def f121 : AFunc := ⟨[0],
 .seq (.reg [
 ⟨.mov (.fr 0), .tm, none⟩,
 ⟨.nilck (.tm 0), .tm, none⟩,
 ⟨.faddr 5 (.tm 0), .tm, none⟩,
 ⟨.store1 (.tm 0) (.c (.bool true)), .no, none⟩]) <|
 .reg [
 ⟨.mov (.fr 0), .tm, none⟩,
 ⟨.nilck (.tm 0), .tm, none⟩,
 ⟨.faddr 6 (.tm 0), .tm, none⟩,
 ⟨.faddr 0 (.tm 0), .tm, none⟩,
 ⟨.store1 (.tm 0) (.c (.int .u64 0)), .no, none⟩], []⟩
def f139 : AFunc := ⟨[0, 3],
 .seq (.reg [
 ⟨.mov (.fr 0), .tm, none⟩,
 ⟨.eqv 1 true (.tm 0) (.c (.pointer none)), .fr 1, none⟩]) <|
 .cond (.fr 1)
 (.reg [
 ⟨.mov (.fr 0), .tm, none⟩,
 ⟨.nilck (.tm 0), .tm, none⟩,
 ⟨.faddr 6 (.tm 0), .tm, none⟩,
 ⟨.load1 (.tm 0), .tm, none⟩,
 ⟨.callf 66 [(.tm 0)], .tm, none⟩])
 (.skip), []⟩
def f141 : AFunc := ⟨[0, 2, 4],
 .seq (.reg [
 ⟨.mov (.c (.int .i64 0)), .fr 1, none⟩]) <|
 .seq (.seq (.reg [
 ⟨.mov (.fr 0), .tm, none⟩,
 ⟨.eqv 1 false (.tm 0) (.c (.pointer none)), .fr 2, none⟩]) <|
 .cond (.fr 2)
 (.seq (.reg [
 ⟨.mov (.c (.int .i64 0)), .fr 1, none⟩]) <|
 .ret)
 (.skip)) <|
 .seq (.reg [
 ⟨.mov (.fr 0), .tm, none⟩,
 ⟨.nilck (.tm 0), .tm, none⟩,
 ⟨.faddr 2 (.tm 0), .tm, none⟩,
 ⟨.load1 (.tm 0), .tm, none⟩,
 ⟨.mov (.tm 0), .fr 1, none⟩]) <|
 .ret, [.t 1]⟩
def f142 : AFunc := ⟨[0, 2, 3, 5],
 .seq (.reg [
 ⟨.new 40 4 [(.int .u64 0), (.int .u32 0), (.int .u32 0), (.slice none 0 0)], .fr 1, none⟩,
 ⟨.mov (.c (.bool false)), .fr 2, none⟩]) <|
 .seq (.seq (.reg [
 ⟨.mov (.fr 0), .tm, none⟩,
 ⟨.eqv 1 false (.tm 0) (.c (.pointer none)), .fr 3, none⟩]) <|
 .cond (.fr 3)
 (.seq (.reg [
 ⟨.build [(.int .u64 0), (.int .u32 0), (.int .u32 0), (.slice none 0 0)] [], .tm, none⟩,
 ⟨.storen 4 (.fr 1) (.tm 0), .no, none⟩,
 ⟨.mov (.c (.bool false)), .fr 2, none⟩]) <|
 .ret)
 (.skip)) <|
 .seq (.reg [
 ⟨.mov (.fr 0), .tm, none⟩,
 ⟨.nilck (.tm 0), .tm, none⟩,
 ⟨.faddr 4 (.tm 0), .tm, none⟩,
 ⟨.iaddrp 1 2 (.tm 0) (.c (.int .i64 0)), .tm, none⟩,
 ⟨.load1 (.tm 0), .tm, none⟩,
 ⟨.callf 208 [(.tm 0)], .tm, none⟩,
 ⟨.extract (.tm 0) 0, .tm, none⟩,
 ⟨.extract (.tm 1) 1, .tm, none⟩,
 ⟨.storen 4 (.fr 1) (.tm 1), .no, none⟩,
 ⟨.mov (.tm 0), .fr 2, none⟩]) <|
 .ret, [.cn 4 1, .t 2]⟩
def f144 : AFunc := ⟨[0, 2, 3, 5],
 .seq (.reg [
 ⟨.new 275 4 [(.int .i64 0), (.int .i64 0), (.int .u64 0), (.int .u32 0)], .fr 1, none⟩,
 ⟨.mov (.c (.bool false)), .fr 2, none⟩]) <|
 .seq (.seq (.reg [
 ⟨.mov (.fr 0), .tm, none⟩,
 ⟨.eqv 1 false (.tm 0) (.c (.pointer none)), .fr 3, none⟩]) <|
 .cond (.fr 3)
 (.seq (.reg [
 ⟨.build [(.int .i64 0), (.int .i64 0), (.int .u64 0), (.int .u32 0)] [], .tm, none⟩,
 ⟨.storen 4 (.fr 1) (.tm 0), .no, none⟩,
 ⟨.mov (.c (.bool false)), .fr 2, none⟩]) <|
 .ret)
 (.skip)) <|
 .seq (.reg [
 ⟨.mov (.fr 0), .tm, none⟩,
 ⟨.nilck (.tm 0), .tm, none⟩,
 ⟨.faddr 6 (.tm 0), .tm, none⟩,
 ⟨.load1 (.tm 0), .tm, none⟩,
 ⟨.callf 217 [(.tm 0)], .tm, none⟩,
 ⟨.extract (.tm 0) 0, .tm, none⟩,
 ⟨.extract (.tm 1) 1, .tm, none⟩,
 ⟨.storen 4 (.fr 1) (.tm 1), .no, none⟩,
 ⟨.mov (.tm 0), .fr 2, none⟩]) <|
 .ret, [.cn 4 1, .t 2]⟩
def f148 : AFunc := ⟨[0],
 .reg [
 ⟨.mov (.fr 0), .tm, none⟩,
 ⟨.mov (.fr 0), .tm, none⟩,
 ⟨.mov (.fr 0), .tm, none⟩,
 ⟨.nilck (.tm 2), .tm, none⟩,
 ⟨.faddr 3 (.tm 0), .tm, none⟩,
 ⟨.store1 (.tm 0) (.c (.int .i64 0)), .no, none⟩,
 ⟨.nilck (.tm 3), .tm, none⟩,
 ⟨.faddr 4 (.tm 0), .tm, none⟩,
 ⟨.store1 (.tm 0) (.c (.int .i64 0)), .no, none⟩,
 ⟨.nilck (.tm 4), .tm, none⟩,
 ⟨.faddr 5 (.tm 0), .tm, none⟩,
 ⟨.store1 (.tm 0) (.c (.bool false)), .no, none⟩], []⟩
def f150 : AFunc := ⟨[0, 1, 2, 6, 7, 13],
 .seq (.reg [
 ⟨.mov (.c (.int .i64 0)), .fr 3, none⟩]) <|
 .seq (.reg [
 ⟨.mov (.fr 0), .tm, none⟩,
 ⟨.mov (.fr 1), .tm, none⟩,
 ⟨.mov (.fr 2), .tm, none⟩,
 ⟨.callf 204 [(.tm 2), (.tm 1), (.tm 0)], .tm, none⟩,
 ⟨.mov (.tm 0), .fr 4, none⟩]) <|
 .seq (.seq (.reg [
 ⟨.mov (.fr 4), .tm, none⟩,
 ⟨.bin .eql (.tm 0) (.c (.int .i64 0)), .fr 5, none⟩]) <|
 .cond (.fr 5)
 (.reg [
 ⟨.mov (.fr 0), .tm, none⟩,
 ⟨.callf 121 [(.tm 0)], .tm, none⟩])
 (.skip)) <|
 .seq (.reg [
 ⟨.mov (.fr 4), .tm, none⟩,
 ⟨.mov (.tm 0), .fr 3, none⟩]) <|
 .ret, [.t 3]⟩
def f151 : AFunc := ⟨[0, 1, 4, 9],
 .seq (.reg [
 ⟨.mov (.c (.int .u8 0)), .fr 2, none⟩]) <|
 .seq (.seq (.reg [
 ⟨.mov (.fr 0), .tm, none⟩,
 ⟨.nilck (.tm 0), .tm, none⟩,
 ⟨.faddr 5 (.tm 0), .tm, none⟩,
 ⟨.load1 (.tm 0), .tm, none⟩,
 ⟨.bin .lss (.tm 0) (.c (.int .i64 4)), .fr 3, none⟩]) <|
 .cond (.fr 3)
 (.seq (.reg [
 ⟨.mov (.fr 0), .tm, none⟩,
 ⟨.nilck (.tm 0), .tm, none⟩,
 ⟨.faddr 5 (.tm 0), .tm, none⟩,
 ⟨.load1 (.tm 0), .tm, none⟩,
 ⟨.bin .add (.tm 0) (.c (.int .i64 1)), .tm, none⟩,
 ⟨.nilck (.tm 4), .tm, none⟩,
 ⟨.faddr 5 (.tm 0), .tm, none⟩,
 ⟨.store1 (.tm 0) (.tm 2), .no, none⟩]) <|
 .seq (.reg [
 ⟨.mov (.c (.int .u8 0)), .fr 2, none⟩]) <|
 .ret)
 (.skip)) <|
 .seq (.reg [
 ⟨.mov (.fr 0), .tm, none⟩,
 ⟨.nilck (.tm 0), .tm, none⟩,
 ⟨.faddr 5 (.tm 0), .tm, none⟩,
 ⟨.store1 (.tm 0) (.c (.int .i64 0)), .no, none⟩]) <|
 .seq (.reg [
 ⟨.mov (.c (.int .u8 1)), .fr 2, none⟩]) <|
 .ret, [.t 2]⟩
def f153 : AFunc := ⟨[0, 2, 4],
 .seq (.reg [
 ⟨.mov (.c (.int .i64 0)), .fr 1, none⟩]) <|
 .seq (.seq (.reg [
 ⟨.mov (.fr 0), .tm, none⟩,
 ⟨.bin .lss (.tm 0) (.c (.int .i64 0)), .fr 2, none⟩]) <|
 .cond (.fr 2)
 (.seq (.reg [
 ⟨.mov (.c (.int .i64 1099511627776)), .fr 1, none⟩]) <|
 .ret)
 (.skip)) <|
 .seq (.reg [
 ⟨.mov (.fr 0), .tm, none⟩,
 ⟨.mm false (.tm 0) (.c (.int .i64 1099511627776)), .tm, none⟩,
 ⟨.mov (.tm 0), .fr 1, none⟩]) <|
 .ret, [.t 1]⟩
def f161 : AFunc := ⟨[0, 1, 2, 3],
 .seq (.reg [
 ⟨.box 93 6 (.fr 0), .fr 2, none⟩,
 ⟨.mov (.c (.bool false)), .fr 3, none⟩]) <|
 .seq (.reg [
 ⟨.loadn 4 (.fr 1), .tm, none⟩,
 ⟨.loadn 6 (.fr 2), .tm, none⟩,
 ⟨.callf 162 [(.tm 1), (.tm 0)], .tm, none⟩,
 ⟨.un .not (.tm 0), .tm, none⟩,
 ⟨.mov (.tm 0), .fr 3, none⟩]) <|
 .ret, [.t 3]⟩
def f168 : AFunc := ⟨[0, 2, 4],
 .seq (.reg [
 ⟨.mov (.c (.int .i64 0)), .fr 1, none⟩]) <|
 .seq (.seq (.reg [
 ⟨.mov (.fr 0), .tm, none⟩,
 ⟨.eqv 1 false (.tm 0) (.c (.pointer none)), .fr 2, none⟩]) <|
 .cond (.fr 2)
 (.seq (.reg [
 ⟨.mov (.c (.int .i64 0)), .fr 1, none⟩]) <|
 .ret)
 (.skip)) <|
 .seq (.dreg [
 (⟨.mov (.fr 0), .tm, none⟩, []),
 (⟨.nilck (.tm 0), .tm, none⟩, []),
 (⟨.faddr 1 (.tm 0), .tm, none⟩, []),
 (⟨.faddr 1 (.tm 0), .tm, none⟩, []),
 (⟨.load1 (.tm 0), .tm, none⟩, []),
 (⟨.mov (.fr 0), .tm, none⟩, []),
 (⟨.nilck (.tm 0), .tm, none⟩, []),
 (⟨.faddr 3 (.tm 0), .tm, none⟩, []),
 (⟨.load1 (.tm 0), .tm, none⟩, []),
 (⟨.len false (.tm 0), .tm, none⟩, []),
 (⟨.bin .add (.tm 5) (.tm 0), .tm, none⟩, []),
 (⟨.mov (.tm 0), .fr 1, none⟩, [])]) <|
 .ret, [.t 1]⟩
def f175 : AFunc := ⟨[0, 1, 4],
 .seq (.reg [
 ⟨.mov (.c (.bool false)), .fr 2, none⟩]) <|
 .seq (.reg [
 ⟨.mov (.fr 0), .tm, none⟩,
 ⟨.mov (.fr 1), .tm, none⟩,
 ⟨.bin .shr (.tm 1) (.tm 0), .tm, none⟩,
 ⟨.bin .and (.tm 0) (.c (.int .u64 1)), .tm, none⟩,
 ⟨.bin .eql (.tm 0) (.c (.int .u64 1)), .tm, none⟩,
 ⟨.mov (.tm 0), .fr 2, none⟩]) <|
 .ret, [.t 2]⟩
def f176 : AFunc := ⟨[0, 1, 4],
 .seq (.reg [
 ⟨.mov (.c (.bool false)), .fr 2, none⟩]) <|
 .seq (.reg [
 ⟨.mov (.fr 0), .tm, none⟩,
 ⟨.mov (.fr 1), .tm, none⟩,
 ⟨.callf 252 [(.tm 1), (.tm 0)], .tm, none⟩,
 ⟨.bin .geq (.tm 0) (.c (.int .i64 0)), .tm, none⟩,
 ⟨.mov (.tm 0), .fr 2, none⟩]) <|
 .ret, [.t 2]⟩
def f178 : AFunc := ⟨[0, 1, 4],
 .seq (.reg [
 ⟨.mov (.c (.bool false)), .fr 2, none⟩]) <|
 .seq (.reg [
 ⟨.mov (.fr 0), .tm, none⟩,
 ⟨.mov (.fr 1), .tm, none⟩,
 ⟨.callf 253 [(.tm 1), (.tm 0)], .tm, none⟩,
 ⟨.bin .geq (.tm 0) (.c (.int .i64 0)), .tm, none⟩,
 ⟨.mov (.tm 0), .fr 2, none⟩]) <|
 .ret, [.t 2]⟩
def f179 : AFunc := ⟨[0, 1, 2, 3],
 .seq (.reg [
 ⟨.box 90 2 (.fr 0), .fr 2, none⟩,
 ⟨.mov (.c (.bool false)), .fr 3, none⟩]) <|
 .seq (.dreg [
 (⟨.faddr 67 (.fr 1), .tm, none⟩, []),
 (⟨.load1 (.tm 0), .tm, none⟩, []),
 (⟨.i2i .u64 (.tm 0), .tm, none⟩, []),
 (⟨.faddr 0 (.fr 2), .tm, none⟩, []),
 (⟨.load1 (.tm 0), .tm, none⟩, []),
 (⟨.callf 175 [(.tm 2), (.tm 0)], .tm, none⟩, []),
 (⟨.faddr 1 (.fr 2), .tm, none⟩, []),
 (⟨.load1 (.tm 0), .tm, none⟩, [5]),
 (⟨.eqv 0 true (.tm 2) (.tm 0), .tm, none⟩, []),
 (⟨.mov (.tm 0), .fr 3, none⟩, [])]) <|
 .ret, [.t 3]⟩
def f194 : AFunc := ⟨[0, 1, 2, 3, 4],
 .seq (.reg [
 ⟨.box 53 70 (.fr 0), .fr 2, none⟩,
 ⟨.box 53 70 (.fr 1), .fr 3, none⟩,
 ⟨.mov (.c (.int .i64 0)), .fr 4, none⟩]) <|
 .seq (.dreg [
 (⟨.faddr 0 (.fr 2), .tm, none⟩, []),
 (⟨.load1 (.tm 0), .tm, none⟩, []),
 (⟨.faddr 0 (.fr 3), .tm, none⟩, []),
 (⟨.load1 (.tm 0), .tm, none⟩, []),
 (⟨.callf 260 [(.tm 2), (.tm 0)], .tm, none⟩, []),
 (⟨.faddr 1 (.fr 2), .tm, none⟩, []),
 (⟨.load1 (.tm 0), .tm, none⟩, [4]),
 (⟨.faddr 1 (.fr 3), .tm, none⟩, []),
 (⟨.load1 (.tm 0), .tm, none⟩, [4]),
 (⟨.callf 260 [(.tm 2), (.tm 0)], .tm, none⟩, []),
 (⟨.bslice 3 1 2 [(.int .i64 0), (.int .i64 0)] [(0, 1, (.tm 5)), (1, 1, (.tm 0))], .tm, none⟩, []),
 (⟨.callf 259 [(.tm 0)], .tm, none⟩, []),
 (⟨.mov (.tm 0), .fr 4, none⟩, [])]) <|
 .ret, [.t 4]⟩
def f199 : AFunc := ⟨[0, 1, 2],
 .seq (.reg [
 ⟨.box 45 68 (.fr 0), .fr 1, none⟩,
 ⟨.mov (.c (.slice none 0 0)), .fr 2, none⟩]) <|
 .seq (.reg [
 ⟨.loadn 68 (.fr 1), .tm, none⟩,
 ⟨.iface 45 (.tm 0), .tm, none⟩,
 ⟨.mkfn (.func 264) [] [(.fr 1)], .tm, none⟩,
 ⟨.callf 263 [(.c (.int .u8 3)), (.tm 1), (.tm 0)], .tm, none⟩,
 ⟨.mov (.tm 0), .fr 2, none⟩]) <|
 .ret, [.t 2]⟩
def f208 : AFunc := ⟨[0, 2, 3, 5],
 .seq (.reg [
 ⟨.new 40 4 [(.int .u64 0), (.int .u32 0), (.int .u32 0), (.slice none 0 0)], .fr 1, none⟩,
 ⟨.mov (.c (.bool false)), .fr 2, none⟩]) <|
 .seq (.seq (.reg [
 ⟨.mov (.fr 0), .tm, none⟩,
 ⟨.eqv 1 false (.tm 0) (.c (.pointer none)), .fr 3, none⟩]) <|
 .cond (.fr 3)
 (.seq (.reg [
 ⟨.build [(.int .u64 0), (.int .u32 0), (.int .u32 0), (.slice none 0 0)] [], .tm, none⟩,
 ⟨.storen 4 (.fr 1) (.tm 0), .no, none⟩,
 ⟨.mov (.c (.bool false)), .fr 2, none⟩]) <|
 .ret)
 (.skip)) <|
 .seq (.reg [
 ⟨.mov (.fr 0), .tm, none⟩,
 ⟨.nilck (.tm 0), .tm, none⟩,
 ⟨.faddr 76 (.tm 0), .tm, none⟩,
 ⟨.load1 (.tm 0), .tm, none⟩,
 ⟨.callf 274 [(.tm 0)], .tm, none⟩,
 ⟨.extract (.tm 0) 0, .tm, none⟩,
 ⟨.extract (.tm 1) 1, .tm, none⟩,
 ⟨.storen 4 (.fr 1) (.tm 1), .no, none⟩,
 ⟨.mov (.tm 0), .fr 2, none⟩]) <|
 .ret, [.cn 4 1, .t 2]⟩
def f209 : AFunc := ⟨[0, 1, 2, 3],
 .seq (.reg [
 ⟨.mov (.c (.bool false)), .fr 3, none⟩]) <|
 .seq (.reg [
 ⟨.load1 (.fr 0), .tm, none⟩,
 ⟨.callf 210 [(.tm 0), (.fr 1), (.fr 2)], .tm, none⟩,
 ⟨.mov (.tm 0), .fr 3, none⟩]) <|
 .ret, [.t 3]⟩
def f212 : AFunc := ⟨[0, 1, 2],
 .seq (.reg [
 ⟨.mov (.c (.bool false)), .fr 2, none⟩]) <|
 .seq (.dreg [
 (⟨.load1 (.fr 0), .tm, none⟩, []),
 (⟨.nilck (.tm 0), .tm, none⟩, []),
 (⟨.faddr 7 (.tm 0), .tm, none⟩, []),
 (⟨.load1 (.tm 0), .tm, none⟩, []),
 (⟨.iaddrp 68 2 (.fr 1) (.c (.int .i64 0)), .tm, none⟩, []),
 (⟨.loadn 68 (.tm 0), .tm, none⟩, []),
 (⟨.load1 (.fr 0), .tm, none⟩, []),
 (⟨.nilck (.tm 0), .tm, none⟩, []),
 (⟨.faddr 9 (.tm 0), .tm, none⟩, []),
 (⟨.load1 (.tm 0), .tm, none⟩, []),
 (⟨.load1 (.fr 0), .tm, none⟩, []),
 (⟨.nilck (.tm 0), .tm, none⟩, []),
 (⟨.faddr 10 (.tm 0), .tm, none⟩, []),
 (⟨.load1 (.tm 0), .tm, none⟩, []),
 (⟨.callf 196 [(.tm 10), (.tm 8), (.tm 4), (.tm 0)], .tm, none⟩, []),
 (⟨.bin .eql (.tm 0) (.c (.int .i64 0)), .tm, none⟩, []),
 (⟨.mov (.tm 0), .fr 2, none⟩, [])]) <|
 .ret, [.t 2]⟩
def f215 : AFunc := ⟨[0, 1],
 .seq (.reg [
 ⟨.mov (.c (.bool false)), .fr 1, none⟩]) <|
 .seq (.reg [
 ⟨.load1 (.fr 0), .tm, none⟩,
 ⟨.nilck (.tm 0), .tm, none⟩,
 ⟨.faddr 4 (.tm 0), .tm, none⟩,
 ⟨.iaddrp 1 2 (.tm 0) (.c (.int .i64 0)), .tm, none⟩,
 ⟨.load1 (.tm 0), .tm, none⟩,
 ⟨.callf 216 [(.tm 0)], .tm, none⟩,
 ⟨.bin .eql (.tm 0) (.c (.int .i64 0)), .tm, none⟩,
 ⟨.mov (.tm 0), .tm, none⟩,
 ⟨.load1 (.fr 0), .tm, some ((.tm 0), true)⟩,
 ⟨.nilck (.tm 0), .tm, some ((.tm 1), true)⟩,
 ⟨.faddr 4 (.tm 0), .tm, some ((.tm 2), true)⟩,
 ⟨.iaddrp 1 2 (.tm 0) (.c (.int .i64 1)), .tm, some ((.tm 3), true)⟩,
 ⟨.load1 (.tm 0), .tm, some ((.tm 4), true)⟩,
 ⟨.callf 216 [(.tm 0)], .tm, some ((.tm 5), true)⟩,
 ⟨.bin .eql (.tm 0) (.c (.int .i64 0)), .tm, some ((.tm 6), true)⟩,
 ⟨.pick (.tm 7) (.tm 0) (.c (.bool false)), .tm, none⟩,
 ⟨.mov (.tm 0), .fr 1, none⟩]) <|
 .ret, [.t 1]⟩
def f218 : AFunc := ⟨[0, 1, 2, 4],
 .seq (.reg [
 ⟨.box 234 3 (.fr 0), .fr 2, none⟩,
 ⟨.mov (.c (.bool false)), .fr 3, none⟩]) <|
 .seq (.reg [
 ⟨.faddr 1 (.fr 2), .tm, none⟩,
 ⟨.faddr 0 (.tm 0), .tm, none⟩,
 ⟨.load1 (.tm 0), .tm, none⟩,
 ⟨.bin .gtr (.tm 0) (.c (.int .i64 0)), .tm, none⟩,
 ⟨.mov (.tm 0), .tm, none⟩,
 ⟨.mov (.fr 1), .tm, some ((.tm 0), true)⟩,
 ⟨.faddr 1 (.fr 2), .tm, some ((.tm 1), true)⟩,
 ⟨.faddr 1 (.tm 0), .tm, some ((.tm 2), true)⟩,
 ⟨.load1 (.tm 0), .tm, some ((.tm 3), true)⟩,
 ⟨.bin .sub (.tm 0) (.c (.int .i64 2)), .tm, some ((.tm 4), true)⟩,
 ⟨.bin .leq (.tm 4) (.tm 0), .tm, some ((.tm 5), true)⟩,
 ⟨.pick (.tm 6) (.tm 0) (.c (.bool false)), .tm, none⟩,
 ⟨.mov (.tm 0), .fr 3, none⟩]) <|
 .ret, [.t 3]⟩
def f222 : AFunc := ⟨[0, 1, 2],
 .seq (.reg [
 ⟨.box 238 5 (.fr 0), .fr 1, none⟩,
 ⟨.mov (.c (.slice none 0 0)), .fr 2, none⟩]) <|
 .seq (.reg [
 ⟨.loadn 5 (.fr 1), .tm, none⟩,
 ⟨.iface 238 (.tm 0), .tm, none⟩,
 ⟨.mkfn (.func 279) [] [(.fr 1)], .tm, none⟩,
 ⟨.callf 263 [(.c (.int .u8 5)), (.tm 1), (.tm 0)], .tm, none⟩,
 ⟨.mov (.tm 0), .fr 2, none⟩]) <|
 .ret, [.t 2]⟩
def f230 : AFunc := ⟨[0, 2],
 .seq (.reg [
 ⟨.mov (.c (.int .i64 0)), .fr 1, none⟩]) <|
 .seq (.reg [
 ⟨.mov (.fr 0), .tm, none⟩,
 ⟨.mov (.tm 0), .fr 1, none⟩]) <|
 .ret, [.t 1]⟩
def f231 : AFunc := ⟨[0, 1, 4],
 .seq (.reg [
 ⟨.mov (.c (.bool false)), .fr 2, none⟩]) <|
 .seq (.reg [
 ⟨.mov (.fr 0), .tm, none⟩,
 ⟨.mov (.fr 1), .tm, none⟩,
 ⟨.callf 284 [(.tm 1), (.tm 0)], .tm, none⟩,
 ⟨.bin .geq (.tm 0) (.c (.int .i64 0)), .tm, none⟩,
 ⟨.mov (.tm 0), .fr 2, none⟩]) <|
 .ret, [.t 2]⟩
def f234 : AFunc := ⟨[0, 1, 3, 4],
 .seq (.reg [
 ⟨.box 3 1 (.fr 1), .fr 2, none⟩,
 ⟨.mov (.c (.bool false)), .fr 3, none⟩]) <|
 .seq (.reg [
 ⟨.mov (.fr 0), .tm, none⟩,
 ⟨.mkfn (.func 286) [] [(.fr 2)], .tm, none⟩,
 ⟨.callf 178 [(.tm 1), (.tm 0)], .tm, none⟩,
 ⟨.mov (.tm 0), .fr 3, none⟩]) <|
 .ret, [.t 3]⟩
def f238 : AFunc := ⟨[0, 2, 4],
 .seq (.reg [
 ⟨.mov (.c (.int .i64 0)), .fr 1, none⟩]) <|
 .seq (.seq (.reg [
 ⟨.mov (.fr 0), .tm, none⟩,
 ⟨.eqv 1 false (.tm 0) (.c (.pointer none)), .fr 2, none⟩]) <|
 .cond (.fr 2)
 (.seq (.reg [
 ⟨.mov (.c (.int .i64 0)), .fr 1, none⟩]) <|
 .ret)
 (.skip)) <|
 .seq (.reg [
 ⟨.mov (.fr 0), .tm, none⟩,
 ⟨.nilck (.tm 0), .tm, none⟩,
 ⟨.faddr 0 (.tm 0), .tm, none⟩,
 ⟨.load1 (.tm 0), .tm, none⟩,
 ⟨.len false (.tm 0), .tm, none⟩,
 ⟨.mov (.tm 0), .fr 1, none⟩]) <|
 .ret, [.t 1]⟩
def f243 : AFunc := ⟨[0, 2, 4],
 .seq (.reg [
 ⟨.mov (.c (.int .i64 0)), .fr 1, none⟩]) <|
 .seq (.seq (.reg [
 ⟨.mov (.fr 0), .tm, none⟩,
 ⟨.eqv 1 false (.tm 0) (.c (.pointer none)), .fr 2, none⟩]) <|
 .cond (.fr 2)
 (.seq (.reg [
 ⟨.mov (.c (.int .i64 0)), .fr 1, none⟩]) <|
 .ret)
 (.skip)) <|
 .seq (.reg [
 ⟨.mov (.fr 0), .tm, none⟩,
 ⟨.nilck (.tm 0), .tm, none⟩,
 ⟨.faddr 0 (.tm 0), .tm, none⟩,
 ⟨.load1 (.tm 0), .tm, none⟩,
 ⟨.callf 238 [(.tm 0)], .tm, none⟩,
 ⟨.bin .sub (.tm 0) (.c (.int .i64 2)), .tm, none⟩,
 ⟨.mov (.tm 0), .fr 1, none⟩]) <|
 .ret, [.t 1]⟩
def f246 : AFunc := ⟨[0, 2, 4],
 .seq (.reg [
 ⟨.mov (.c (.int .i64 0)), .fr 1, none⟩]) <|
 .seq (.seq (.reg [
 ⟨.mov (.fr 0), .tm, none⟩,
 ⟨.eqv 1 false (.tm 0) (.c (.pointer none)), .fr 2, none⟩]) <|
 .cond (.fr 2)
 (.seq (.reg [
 ⟨.mov (.c (.int .i64 0)), .fr 1, none⟩]) <|
 .ret)
 (.skip)) <|
 .seq (.reg [
 ⟨.mov (.fr 0), .tm, none⟩,
 ⟨.nilck (.tm 0), .tm, none⟩,
 ⟨.faddr 1 (.tm 0), .tm, none⟩,
 ⟨.faddr 1 (.tm 0), .tm, none⟩,
 ⟨.load1 (.tm 0), .tm, none⟩,
 ⟨.mov (.tm 0), .fr 1, none⟩]) <|
 .ret, [.t 1]⟩
def f252 : AFunc := ⟨[0, 1, 4, 5, 7, 8, 9, 16],
 .seq (.reg [
 ⟨.mov (.c (.int .i64 0)), .fr 2, none⟩]) <|
 .seq (.seq (.reg [
 ⟨.mov (.fr 0), .tm, none⟩,
 ⟨.len false (.tm 0), .fr 4, none⟩,
 ⟨.mov (.c (.int .i64 0)), .fr 5, none⟩]) <|
 .block 0 (.loop (.seq (.reg [
 ⟨.bin .lss (.fr 5) (.fr 4), .fr 6, none⟩]) <|
 .seq (.cond (.fr 6)
 (.skip)
 (.exit 0)) <|
 .seq (.block 1 (.seq (.reg [
 ⟨.mov (.fr 5), .tm, none⟩,
 ⟨.mov (.tm 0), .fr 3, none⟩]) <|
 .seq (.reg [
 ⟨.mov (.fr 1), .tm, none⟩,
 ⟨.mov (.fr 0), .tm, none⟩,
 ⟨.mov (.fr 3), .tm, none⟩,
 ⟨.iaddr 1 (.tm 1) (.tm 0), .tm, none⟩,
 ⟨.load1 (.tm 0), .tm, none⟩,
 ⟨.callv (.tm 4) [(.tm 0)], .fr 7, none⟩]) <|
 .cond (.fr 7)
 (.seq (.reg [
 ⟨.mov (.fr 3), .tm, none⟩,
 ⟨.mov (.tm 0), .fr 2, none⟩]) <|
 .ret)
 (.skip))) <|
 .reg [
 ⟨.bin .add (.fr 5) (.c (.int .i64 1)), .tm, none⟩,
 ⟨.mov (.tm 0), .fr 5, none⟩]))) <|
 .seq (.reg [
 ⟨.mov (.c (.int .i64 (-1))), .fr 2, none⟩]) <|
 .ret, [.t 2]⟩
def f257 : AFunc := ⟨[0, 1, 4],
 .seq (.reg [
 ⟨.mov (.c (.bool false)), .fr 2, none⟩]) <|
 .seq (.reg [
 ⟨.mov (.fr 0), .tm, none⟩,
 ⟨.b2s (.tm 0), .tm, none⟩,
 ⟨.mov (.fr 1), .tm, none⟩,
 ⟨.b2s (.tm 0), .tm, none⟩,
 ⟨.bin .eql (.tm 2) (.tm 0), .tm, none⟩,
 ⟨.mov (.tm 0), .fr 2, none⟩]) <|
 .ret, [.t 2]⟩
def f261 : AFunc := ⟨[0, 1, 2, 3, 4],
 .seq (.reg [
 ⟨.box 206 1 (.fr 0), .fr 2, none⟩,
 ⟨.box 42 1 (.fr 1), .fr 3, none⟩,
 ⟨.mov (.c (.int .i64 0)), .fr 4, none⟩]) <|
 .seq (.reg [
 ⟨.mkfn (.func 312) [] [(.fr 2), (.fr 3)], .tm, none⟩,
 ⟨.callf 311 [(.tm 0)], .tm, none⟩,
 ⟨.mov (.tm 0), .fr 4, none⟩]) <|
 .ret, [.t 4]⟩
def f262 : AFunc := ⟨[0, 1, 2],
 .seq (.reg [
 ⟨.box 53 70 (.fr 0), .fr 1, none⟩,
 ⟨.mov (.c (.slice none 0 0)), .fr 2, none⟩]) <|
 .seq (.reg [
 ⟨.loadn 70 (.fr 1), .tm, none⟩,
 ⟨.iface 53 (.tm 0), .tm, none⟩,
 ⟨.mkfn (.func 317) [] [(.fr 1)], .tm, none⟩,
 ⟨.callf 263 [(.c (.int .u8 4)), (.tm 1), (.tm 0)], .tm, none⟩,
 ⟨.mov (.tm 0), .fr 2, none⟩]) <|
 .ret, [.t 2]⟩
def f263 : AFunc := ⟨[0, 1, 2, 6, 7, 10],
 .seq (.reg [
 ⟨.mov (.c (.slice none 0 0)), .fr 3, none⟩]) <|
 .seq (.seq (.reg [
 ⟨.mov (.fr 1), .tm, none⟩,
 ⟨.callf 250 [(.tm 0)], .tm, none⟩,
 ⟨.un .not (.tm 0), .fr 5, none⟩]) <|
 .cond (.fr 5)
 (.seq (.reg [
 ⟨.mov (.c (.slice none 0 0)), .fr 3, none⟩]) <|
 .ret)
 (.skip)) <|
 .seq (.reg [
 ⟨.new 185 1 [(.slice none 0 0)], .fr 4, none⟩]) <|
 .seq (.reg [
 ⟨.mov (.fr 0), .tm, none⟩,
 ⟨.callf 197 [(.fr 4), (.tm 0)], .tm, none⟩]) <|
 .seq (.reg [
 ⟨.mov (.fr 2), .tm, none⟩,
 ⟨.callv (.tm 0) [(.fr 4)], .tm, none⟩]) <|
 .seq (.reg [
 ⟨.callf 101 [(.fr 4)], .tm, none⟩,
 ⟨.callf 249 [(.tm 0)], .tm, none⟩,
 ⟨.callf 200 [(.fr 4), (.tm 0)], .tm, none⟩]) <|
 .seq (.reg [
 ⟨.callf 101 [(.fr 4)], .tm, none⟩,
 ⟨.mov (.tm 0), .fr 3, none⟩]) <|
 .ret, [.t 3]⟩
def f264 : AFunc := ⟨[0, 1],
 .reg [
 ⟨.mov (.fr 0), .tm, none⟩,
 ⟨.loadn 68 (.fr 1), .tm, none⟩,
 ⟨.callf 265 [(.tm 1), (.tm 0)], .tm, none⟩], []⟩
def f265 : AFunc := ⟨[0, 1, 3],
 .seq (.reg [
 ⟨.box 45 68 (.fr 1), .fr 2, none⟩]) <|
 .seq (.reg [
 ⟨.mov (.fr 0), .tm, none⟩,
 ⟨.faddr 0 (.fr 2), .tm, none⟩,
 ⟨.load1 (.tm 0), .tm, none⟩,
 ⟨.callf 98 [(.tm 2), (.tm 0)], .tm, none⟩]) <|
 .seq (.reg [
 ⟨.mov (.fr 0), .tm, none⟩,
 ⟨.faddr 1 (.fr 2), .tm, none⟩,
 ⟨.load1 (.tm 0), .tm, none⟩,
 ⟨.callf 98 [(.tm 2), (.tm 0)], .tm, none⟩]) <|
 .seq (.reg [
 ⟨.mov (.fr 0), .tm, none⟩,
 ⟨.faddr 2 (.fr 2), .tm, none⟩,
 ⟨.load1 (.tm 0), .tm, none⟩,
 ⟨.callf 98 [(.tm 2), (.tm 0)], .tm, none⟩]) <|
 .seq (.reg [
 ⟨.mov (.fr 0), .tm, none⟩,
 ⟨.faddr 3 (.fr 2), .tm, none⟩,
 ⟨.slarr 1 64 (.tm 0) none none none, .tm, none⟩,
 ⟨.callf 198 [(.tm 2), (.tm 0)], .tm, none⟩]) <|
 .reg [
 ⟨.mov (.fr 0), .tm, none⟩,
 ⟨.faddr 67 (.fr 2), .tm, none⟩,
 ⟨.load1 (.tm 0), .tm, none⟩,
 ⟨.callf 200 [(.tm 2), (.tm 0)], .tm, none⟩], []⟩
def f268 : AFunc := ⟨[0, 2, 4],
 .seq (.reg [
 ⟨.mov (.c (.int .i64 0)), .fr 1, none⟩]) <|
 .seq (.seq (.reg [
 ⟨.mov (.fr 0), .tm, none⟩,
 ⟨.eqv 1 false (.tm 0) (.c (.pointer none)), .fr 2, none⟩]) <|
 .cond (.fr 2)
 (.seq (.reg [
 ⟨.mov (.c (.int .i64 0)), .fr 1, none⟩]) <|
 .ret)
 (.skip)) <|
 .seq (.reg [
 ⟨.mov (.fr 0), .tm, none⟩,
 ⟨.nilck (.tm 0), .tm, none⟩,
 ⟨.faddr 3 (.tm 0), .tm, none⟩,
 ⟨.load1 (.tm 0), .tm, none⟩,
 ⟨.mov (.tm 0), .fr 1, none⟩]) <|
 .ret, [.t 1]⟩
def f270 : AFunc := ⟨[0, 3],
 .seq (.reg [
 ⟨.mov (.fr 0), .tm, none⟩,
 ⟨.eqv 1 true (.tm 0) (.c (.pointer none)), .fr 1, none⟩]) <|
 .cond (.fr 1)
 (.reg [
 ⟨.mov (.fr 0), .tm, none⟩,
 ⟨.mov (.fr 0), .tm, none⟩,
 ⟨.nilck (.tm 0), .tm, none⟩,
 ⟨.faddr 3 (.tm 0), .tm, none⟩,
 ⟨.load1 (.tm 0), .tm, none⟩,
 ⟨.build [(.pointer none), (.pointer none), (.pointer none), (.int .i64 0), (.bool false)] [(3, 1, (.tm 0))], .tm, none⟩,
 ⟨.nilck (.tm 5), .tm, none⟩,
 ⟨.storen 5 (.tm 0) (.tm 1), .no, none⟩])
 (.skip), []⟩
def f271 : AFunc := ⟨[0, 1, 4],
 .seq (.reg [
 ⟨.mov (.c (.bool false)), .fr 2, none⟩]) <|
 .seq (.reg [
 ⟨.mov (.fr 1), .tm, none⟩,
 ⟨.bin .gtr (.tm 0) (.c (.int .i64 0)), .tm, none⟩,
 ⟨.mov (.tm 0), .tm, none⟩,
 ⟨.mov (.fr 0), .tm, some ((.tm 0), true)⟩,
 ⟨.mov (.fr 1), .tm, some ((.tm 1), true)⟩,
 ⟨.bin .sub (.tm 0) (.c (.int .i64 1)), .tm, some ((.tm 2), true)⟩,
 ⟨.bin .shr (.tm 2) (.tm 0), .tm, some ((.tm 3), true)⟩,
 ⟨.bin .shr (.tm 0) (.c (.int .u64 1)), .tm, some ((.tm 4), true)⟩,
 ⟨.bin .eql (.tm 0) (.c (.int .u64 0)), .tm, some ((.tm 5), true)⟩,
 ⟨.pick (.tm 6) (.tm 0) (.c (.bool false)), .tm, none⟩,
 ⟨.mov (.tm 0), .tm, none⟩,
 ⟨.mov (.fr 0), .tm, some ((.tm 0), false)⟩,
 ⟨.bin .eql (.tm 0) (.c (.int .u64 0)), .tm, some ((.tm 1), false)⟩,
 ⟨.pick (.tm 2) (.c (.bool true)) (.tm 0), .tm, none⟩,
 ⟨.mov (.tm 0), .fr 2, none⟩]) <|
 .ret, [.t 2]⟩
def f272 : AFunc := ⟨[0, 1, 4],
 .seq (.reg [
 ⟨.mov (.c (.bool false)), .fr 2, none⟩]) <|
 .seq (.reg [
 ⟨.mov (.fr 1), .tm, none⟩,
 ⟨.bin .gtr (.tm 0) (.c (.int .i64 0)), .tm, none⟩,
 ⟨.mov (.tm 0), .tm, none⟩,
 ⟨.mov (.fr 0), .tm, some ((.tm 0), true)⟩,
 ⟨.mov (.fr 1), .tm, some ((.tm 1), true)⟩,
 ⟨.bin .sub (.tm 0) (.c (.int .i64 1)), .tm, some ((.tm 2), true)⟩,
 ⟨.bin .shr (.tm 2) (.tm 0), .tm, some ((.tm 3), true)⟩,
 ⟨.bin .shr (.tm 0) (.c (.int .u64 1)), .tm, some ((.tm 4), true)⟩,
 ⟨.bin .eql (.tm 0) (.c (.int .u32 0)), .tm, some ((.tm 5), true)⟩,
 ⟨.pick (.tm 6) (.tm 0) (.c (.bool false)), .tm, none⟩,
 ⟨.mov (.tm 0), .tm, none⟩,
 ⟨.mov (.fr 0), .tm, some ((.tm 0), false)⟩,
 ⟨.bin .eql (.tm 0) (.c (.int .u32 0)), .tm, some ((.tm 1), false)⟩,
 ⟨.pick (.tm 2) (.c (.bool true)) (.tm 0), .tm, none⟩,
 ⟨.mov (.tm 0), .fr 2, none⟩]) <|
 .ret, [.t 2]⟩
def f278 : AFunc := ⟨[0, 1, 2],
 .seq (.reg [
 ⟨.box 176 6 (.fr 0), .fr 1, none⟩,
 ⟨.mov (.c (.pointer none)), .fr 2, none⟩]) <|
 .seq (.reg [
 ⟨.faddr 2 (.fr 1), .tm, none⟩,
 ⟨.faddr 3 (.tm 0), .tm, none⟩,
 ⟨.load1 (.tm 0), .tm, none⟩,
 ⟨.callf 77 [(.tm 0)], .tm, none⟩,
 ⟨.faddr 2 (.fr 1), .tm, none⟩,
 ⟨.faddr 3 (.tm 0), .tm, none⟩,
 ⟨.store1 (.tm 0) (.tm 2), .no, none⟩]) <|
 .seq (.reg [
 ⟨.mov (.fr 1), .fr 2, none⟩]) <|
 .ret, [.t 2]⟩
def f280 : AFunc := ⟨[0, 1, 5, 6, 7, 8, 9],
 .seq (.reg [
 ⟨.mov (.fr 1), .fr 3, none⟩,
 ⟨.len false (.fr 3), .fr 4, none⟩,
 ⟨.mov (.c (.int .i64 0)), .fr 5, none⟩]) <|
 .block 0 (.loop (.seq (.reg [
 ⟨.bin .lss (.fr 5) (.fr 4), .fr 6, none⟩]) <|
 .seq (.cond (.fr 6)
 (.skip)
 (.exit 0)) <|
 .seq (.block 1 (.seq (.reg [
 ⟨.iaddr 1 (.fr 3) (.fr 5), .tm, none⟩,
 ⟨.load1 (.tm 0), .tm, none⟩,
 ⟨.mov (.tm 0), .fr 2, none⟩]) <|
 .reg [
 ⟨.mov (.fr 0), .tm, none⟩,
 ⟨.mov (.fr 2), .tm, none⟩,
 ⟨.i2i .u64 (.tm 0), .tm, none⟩,
 ⟨.callf 98 [(.tm 2), (.tm 0)], .tm, none⟩])) <|
 .reg [
 ⟨.bin .add (.fr 5) (.c (.int .i64 1)), .tm, none⟩,
 ⟨.mov (.tm 0), .fr 5, none⟩])), []⟩
def f283 : AFunc := ⟨[0, 1, 2, 4],
 .seq (.reg [
 ⟨.mov (.c (.bool false)), .fr 3, none⟩]) <|
 .seq (.dreg [
 (⟨.load1 (.fr 1), .tm, none⟩, []),
 (⟨.load1 (.fr 2), .tm, none⟩, []),
 (⟨.callv (.tm 1) [(.tm 0)], .tm, none⟩, []),
 (⟨.load1 (.fr 1), .tm, none⟩, [2]),
 (⟨.mov (.fr 0), .tm, none⟩, []),
 (⟨.callv (.tm 1) [(.tm 0)], .tm, none⟩, []),
 (⟨.bin .eql (.tm 3) (.tm 0), .tm, none⟩, []),
 (⟨.mov (.tm 0), .fr 3, none⟩, [])]) <|
 .ret, [.t 3]⟩
def f284 : AFunc := ⟨[0, 1, 4, 5, 7, 8, 9, 16],
 .seq (.reg [
 ⟨.mov (.c (.int .i64 0)), .fr 2, none⟩]) <|
 .seq (.seq (.reg [
 ⟨.mov (.fr 0), .tm, none⟩,
 ⟨.len false (.tm 0), .fr 4, none⟩,
 ⟨.mov (.c (.int .i64 0)), .fr 5, none⟩]) <|
 .block 0 (.loop (.seq (.reg [
 ⟨.bin .lss (.fr 5) (.fr 4), .fr 6, none⟩]) <|
 .seq (.cond (.fr 6)
 (.skip)
 (.exit 0)) <|
 .seq (.block 1 (.seq (.reg [
 ⟨.mov (.fr 5), .tm, none⟩,
 ⟨.mov (.tm 0), .fr 3, none⟩]) <|
 .seq (.reg [
 ⟨.mov (.fr 1), .tm, none⟩,
 ⟨.mov (.fr 0), .tm, none⟩,
 ⟨.mov (.fr 3), .tm, none⟩,
 ⟨.iaddr 1 (.tm 1) (.tm 0), .tm, none⟩,
 ⟨.load1 (.tm 0), .tm, none⟩,
 ⟨.bin .eql (.tm 4) (.tm 0), .fr 7, none⟩]) <|
 .cond (.fr 7)
 (.seq (.reg [
 ⟨.mov (.fr 3), .tm, none⟩,
 ⟨.mov (.tm 0), .fr 2, none⟩]) <|
 .ret)
 (.skip))) <|
 .reg [
 ⟨.bin .add (.fr 5) (.c (.int .i64 1)), .tm, none⟩,
 ⟨.mov (.tm 0), .fr 5, none⟩]))) <|
 .seq (.reg [
 ⟨.mov (.c (.int .i64 (-1))), .fr 2, none⟩]) <|
 .ret, [.t 2]⟩
def f286 : AFunc := ⟨[0, 1, 2, 3],
 .seq (.reg [
 ⟨.box 90 2 (.fr 0), .fr 2, none⟩,
 ⟨.mov (.c (.bool false)), .fr 3, none⟩]) <|
 .seq (.reg [
 ⟨.faddr 0 (.fr 2), .tm, none⟩,
 ⟨.load1 (.tm 0), .tm, none⟩,
 ⟨.load1 (.fr 1), .tm, none⟩,
 ⟨.bin .eql (.tm 1) (.tm 0), .tm, none⟩,
 ⟨.mov (.tm 0), .fr 3, none⟩]) <|
 .ret, [.t 3]⟩
def f290 : AFunc := ⟨[0, 1, 2],
 .seq (.reg [
 ⟨.box 139 1 (.fr 0), .fr 1, none⟩,
 ⟨.mov (.c .nilFunc), .fr 2, none⟩]) <|
 .seq (.reg [
 ⟨.mkfn (.func 323) [] [(.fr 1)], .tm, none⟩,
 ⟨.mov (.tm 0), .fr 2, none⟩]) <|
 .ret, [.t 2]⟩
def f294 : AFunc := ⟨[0, 2],
 .seq (.reg [
 ⟨.mov (.c (.bool false)), .fr 1, none⟩]) <|
 .seq (.reg [
 ⟨.mov (.fr 0), .tm, none⟩,
 ⟨.bin .geq (.tm 0) (.c (.int .i64 1)), .tm, none⟩,
 ⟨.mov (.tm 0), .tm, none⟩,
 ⟨.mov (.fr 0), .tm, some ((.tm 0), true)⟩,
 ⟨.bin .leq (.tm 0) (.c (.int .i64 4611686018427387904)), .tm, some ((.tm 1), true)⟩,
 ⟨.pick (.tm 2) (.tm 0) (.c (.bool false)), .tm, none⟩,
 ⟨.mov (.tm 0), .fr 1, none⟩]) <|
 .ret, [.t 1]⟩
def f297 : AFunc := ⟨[0, 2, 3, 6],
 .seq (.reg [
 ⟨.mov (.c (.int .i64 0)), .fr 1, none⟩]) <|
 .seq (.block 0 (.seq (.reg [
 ⟨.mov (.fr 0), .tm, none⟩,
 ⟨.eqv 1 false (.tm 0) (.c (.pointer none)), .tm, none⟩,
 ⟨.mov (.tm 0), .fr 2, none⟩]) <|
 .cond (.fr 2)
 (.seq (.reg [
 ⟨.mov (.c (.int .i64 1)), .fr 1, none⟩]) <|
 .ret)
 (.seq (.reg [
 ⟨.mov (.fr 0), .tm, none⟩,
 ⟨.nilck (.tm 0), .tm, none⟩,
 ⟨.faddr 4 (.tm 0), .tm, none⟩,
 ⟨.load1 (.tm 0), .tm, none⟩,
 ⟨.mov (.tm 0), .fr 3, none⟩]) <|
 .cond (.fr 3)
 (.seq (.reg [
 ⟨.mov (.c (.int .i64 140)), .fr 1, none⟩]) <|
 .ret)
 (.skip)))) <|
 .seq (.reg [
 ⟨.mov (.fr 0), .tm, none⟩,
 ⟨.mov (.fr 0), .tm, none⟩,
 ⟨.mkfn (.func 332) [(.tm 0)] [], .tm, none⟩,
 ⟨.callf 330 [(.tm 2), (.tm 0)], .tm, none⟩,
 ⟨.mov (.tm 0), .fr 1, none⟩]) <|
 .ret, [.t 1]⟩
def f298 : AFunc := ⟨[0, 1, 4],
 .seq (.reg [
 ⟨.mov (.c (.int .i64 0)), .fr 2, none⟩]) <|
 .seq (.reg [
 ⟨.mov (.fr 1), .tm, none⟩,
 ⟨.bin .sub (.tm 0) (.c (.int .i64 1)), .tm, none⟩,
 ⟨.mov (.fr 0), .tm, none⟩,
 ⟨.callf 243 [(.tm 0)], .tm, none⟩,
 ⟨.bin .rem (.tm 2) (.tm 0), .tm, none⟩,
 ⟨.bin .add (.c (.int .i64 2)) (.tm 0), .tm, none⟩,
 ⟨.mov (.tm 0), .fr 2, none⟩]) <|
 .ret, [.t 2]⟩
def f301 : AFunc := ⟨[0, 2],
 .seq (.reg [
 ⟨.mov (.c (.bool false)), .fr 1, none⟩]) <|
 .seq (.reg [
 ⟨.mov (.fr 0), .tm, none⟩,
 ⟨.callf 333 [(.tm 0), (.fn 334)], .tm, none⟩,
 ⟨.un .not (.tm 0), .tm, none⟩,
 ⟨.mov (.tm 0), .fr 1, none⟩]) <|
 .ret, [.t 1]⟩
def f306 : AFunc := ⟨[0, 2, 3, 6],
 .seq (.reg [
 ⟨.mov (.c (.int .u64 0)), .fr 1, none⟩]) <|
 .seq (.block 0 (.seq (.reg [
 ⟨.mov (.fr 0), .tm, none⟩,
 ⟨.bin .leq (.tm 0) (.c (.int .i64 0)), .tm, none⟩,
 ⟨.mov (.tm 0), .fr 2, none⟩]) <|
 .cond (.fr 2)
 (.seq (.reg [
 ⟨.mov (.c (.int .u64 0)), .fr 1, none⟩]) <|
 .ret)
 (.seq (.reg [
 ⟨.mov (.fr 0), .tm, none⟩,
 ⟨.bin .geq (.tm 0) (.c (.int .i64 64)), .tm, none⟩,
 ⟨.mov (.tm 0), .fr 3, none⟩]) <|
 .cond (.fr 3)
 (.seq (.reg [
 ⟨.mov (.c (.int .u64 18446744073709551615)), .fr 1, none⟩]) <|
 .ret)
 (.skip)))) <|
 .seq (.reg [
 ⟨.mov (.fr 0), .tm, none⟩,
 ⟨.bin .shl (.c (.int .u64 1)) (.tm 0), .tm, none⟩,
 ⟨.bin .sub (.tm 0) (.c (.int .u64 1)), .tm, none⟩,
 ⟨.mov (.tm 0), .fr 1, none⟩]) <|
 .ret, [.t 1]⟩
def f307 : AFunc := ⟨[0, 2, 3, 5, 6, 7, 8, 9],
 .seq (.reg [
 ⟨.mov (.c (.int .u64 0)), .fr 1, none⟩]) <|
 .seq (.reg [
 ⟨.mov (.c (.int .u64 0)), .fr 2, none⟩]) <|
 .seq (.seq (.reg [
 ⟨.mov (.fr 0), .fr 4, none⟩,
 ⟨.len false (.fr 4), .fr 5, none⟩,
 ⟨.mov (.c (.int .i64 0)), .fr 6, none⟩]) <|
 .block 0 (.loop (.seq (.reg [
 ⟨.bin .lss (.fr 6) (.fr 5), .fr 7, none⟩]) <|
 .seq (.cond (.fr 7)
 (.skip)
 (.exit 0)) <|
 .seq (.block 1 (.seq (.reg [
 ⟨.iaddr 1 (.fr 4) (.fr 6), .tm, none⟩,
 ⟨.load1 (.tm 0), .tm, none⟩,
 ⟨.mov (.tm 0), .fr 3, none⟩]) <|
 .reg [
 ⟨.mov (.fr 2), .tm, none⟩,
 ⟨.mov (.fr 3), .tm, none⟩,
 ⟨.callf 336 [(.tm 0)], .tm, none⟩,
 ⟨.bin .or (.tm 2) (.tm 0), .tm, none⟩,
 ⟨.mov (.tm 0), .fr 2, none⟩])) <|
 .reg [
 ⟨.bin .add (.fr 6) (.c (.int .i64 1)), .tm, none⟩,
 ⟨.mov (.tm 0), .fr 6, none⟩]))) <|
 .seq (.reg [
 ⟨.mov (.fr 2), .tm, none⟩,
 ⟨.mov (.tm 0), .fr 1, none⟩]) <|
 .ret, [.t 1]⟩
def f308 : AFunc := ⟨[0, 1, 4],
 .seq (.reg [
 ⟨.mov (.c (.int .u64 0)), .fr 2, none⟩]) <|
 .seq (.reg [
 ⟨.mov (.fr 0), .tm, none⟩,
 ⟨.mov (.fr 1), .tm, none⟩,
 ⟨.callf 336 [(.tm 0)], .tm, none⟩,
 ⟨.bin .or (.tm 2) (.tm 0), .tm, none⟩,
 ⟨.mov (.tm 0), .fr 2, none⟩]) <|
 .ret, [.t 2]⟩
def f310 : AFunc := ⟨[0, 2],
 .seq (.reg [
 ⟨.mov (.c (.bool false)), .fr 1, none⟩]) <|
 .seq (.reg [
 ⟨.mov (.fr 0), .tm, none⟩,
 ⟨.mov (.fr 0), .tm, none⟩,
 ⟨.bin .neq (.tm 1) (.tm 0), .tm, none⟩,
 ⟨.mov (.tm 0), .fr 1, none⟩]) <|
 .ret, [.t 1]⟩
def f314 : AFunc := ⟨[0, 2],
 .seq (.reg [
 ⟨.mov (.c (.bool false)), .fr 1, none⟩]) <|
 .seq (.reg [
 ⟨.mov (.fr 0), .tm, none⟩,
 ⟨.callf 338 [(.tm 0)], .tm, none⟩,
 ⟨.bin .eql (.tm 0) (.c (.int .i64 0)), .tm, none⟩,
 ⟨.mov (.tm 0), .fr 1, none⟩]) <|
 .ret, [.t 1]⟩
def f317 : AFunc := ⟨[0, 1],
 .seq (.reg [
 ⟨.mov (.fr 0), .tm, none⟩,
 ⟨.faddr 0 (.fr 1), .tm, none⟩,
 ⟨.load1 (.tm 0), .tm, none⟩,
 ⟨.faddr 1 (.fr 1), .tm, none⟩,
 ⟨.load1 (.tm 0), .tm, none⟩,
 ⟨.bslice 2 1 2 [(.int .i64 0), (.int .i64 0)] [(0, 1, (.tm 2)), (1, 1, (.tm 0))], .tm, none⟩,
 ⟨.callf 280 [(.tm 5), (.tm 0)], .tm, none⟩]) <|
 .reg [
 ⟨.mov (.fr 0), .tm, none⟩,
 ⟨.faddr 2 (.fr 1), .tm, none⟩,
 ⟨.loadn 68 (.tm 0), .tm, none⟩,
 ⟨.callf 265 [(.tm 2), (.tm 0)], .tm, none⟩], []⟩
def f318 : AFunc := ⟨[0, 2],
 .seq (.reg [
 ⟨.mov (.c (.bool false)), .fr 1, none⟩]) <|
 .seq (.reg [
 ⟨.mov (.fr 0), .tm, none⟩,
 ⟨.bin .geq (.tm 0) (.c (.int .i64 0)), .tm, none⟩,
 ⟨.mov (.tm 0), .tm, none⟩,
 ⟨.mov (.fr 0), .tm, some ((.tm 0), true)⟩,
 ⟨.bin .leq (.tm 0) (.c (.int .i64 1099511627776)), .tm, some ((.tm 1), true)⟩,
 ⟨.pick (.tm 2) (.tm 0) (.c (.bool false)), .tm, none⟩,
 ⟨.mov (.tm 0), .fr 1, none⟩]) <|
 .ret, [.t 1]⟩
def f320 : AFunc := ⟨[0, 2, 4],
 .seq (.reg [
 ⟨.mov (.c (.int .i64 0)), .fr 1, none⟩]) <|
 .seq (.seq (.reg [
 ⟨.mov (.fr 0), .tm, none⟩,
 ⟨.eqv 1 false (.tm 0) (.c (.pointer none)), .fr 2, none⟩]) <|
 .cond (.fr 2)
 (.seq (.reg [
 ⟨.mov (.c (.int .i64 0)), .fr 1, none⟩]) <|
 .ret)
 (.skip)) <|
 .seq (.reg [
 ⟨.mov (.fr 0), .tm, none⟩,
 ⟨.nilck (.tm 0), .tm, none⟩,
 ⟨.faddr 1 (.tm 0), .tm, none⟩,
 ⟨.load1 (.tm 0), .tm, none⟩,
 ⟨.mov (.tm 0), .fr 1, none⟩]) <|
 .ret, [.t 1]⟩
def f323 : AFunc := ⟨[0, 1, 3, 8, 18],
 .seq (.reg [
 ⟨.load1 (.fr 1), .tm, none⟩,
 ⟨.len false (.tm 0), .tm, none⟩,
 ⟨.bin .sub (.tm 0) (.c (.int .i64 1)), .tm, none⟩,
 ⟨.mov (.tm 0), .fr 2, none⟩]) <|
 .block 0 (.loop (.seq (.seq (.reg [
 ⟨.mov (.fr 2), .tm, none⟩,
 ⟨.bin .geq (.tm 0) (.c (.int .i64 0)), .fr 3, none⟩]) <|
 .cond (.fr 3)
 (.skip)
 (.exit 0)) <|
 .seq (.block 1 (.seq (.reg [
 ⟨.mov (.fr 0), .tm, none⟩,
 ⟨.mov (.fr 2), .tm, none⟩,
 ⟨.load1 (.fr 1), .tm, none⟩,
 ⟨.mov (.fr 2), .tm, none⟩,
 ⟨.iaddr 257 (.tm 1) (.tm 0), .tm, none⟩,
 ⟨.loadn 257 (.tm 0), .tm, none⟩,
 ⟨.callv (.tm 5) [(.tm 4), (.tm 0)], .tm, none⟩,
 ⟨.un .not (.tm 0), .fr 4, none⟩]) <|
 .cond (.fr 4)
 (.ret)
 (.skip))) <|
 .reg [
 ⟨.mov (.fr 2), .tm, none⟩,
 ⟨.bin .sub (.tm 0) (.c (.int .i64 1)), .tm, none⟩,
 ⟨.mov (.tm 0), .fr 2, none⟩])), []⟩
def f331 : AFunc := ⟨[],
 .skip, []⟩
def f333 : AFunc := ⟨[0, 1, 4],
 .seq (.reg [
 ⟨.mov (.c (.bool false)), .fr 2, none⟩]) <|
 .seq (.reg [
 ⟨.mov (.fr 0), .tm, none⟩,
 ⟨.mov (.fr 1), .tm, none⟩,
 ⟨.callf 344 [(.tm 1), (.tm 0)], .tm, none⟩,
 ⟨.bin .geq (.tm 0) (.c (.int .i64 0)), .tm, none⟩,
 ⟨.mov (.tm 0), .fr 2, none⟩]) <|
 .ret, [.t 2]⟩
def f334 : AFunc := ⟨[0, 2],
 .seq (.reg [
 ⟨.mov (.c (.bool false)), .fr 1, none⟩]) <|
 .seq (.reg [
 ⟨.mov (.fr 0), .tm, none⟩,
 ⟨.bin .lss (.tm 0) (.c (.int .i64 0)), .tm, none⟩,
 ⟨.mov (.tm 0), .tm, none⟩,
 ⟨.mov (.fr 0), .tm, some ((.tm 0), false)⟩,
 ⟨.bin .gtr (.tm 0) (.c (.int .i64 1099511627776)), .tm, some ((.tm 1), false)⟩,
 ⟨.pick (.tm 2) (.c (.bool true)) (.tm 0), .tm, none⟩,
 ⟨.mov (.tm 0), .fr 1, none⟩]) <|
 .ret, [.t 1]⟩
def f336 : AFunc := ⟨[0, 2, 8],
 .seq (.reg [
 ⟨.mov (.c (.int .u64 0)), .fr 1, none⟩]) <|
 .seq (.seq (.reg [
 ⟨.mov (.fr 0), .tm, none⟩,
 ⟨.bin .lss (.tm 0) (.c (.int .i64 0)), .tm, none⟩,
 ⟨.mov (.tm 0), .tm, none⟩,
 ⟨.mov (.fr 0), .tm, some ((.tm 0), false)⟩,
 ⟨.bin .geq (.tm 0) (.c (.int .i64 64)), .tm, some ((.tm 1), false)⟩,
 ⟨.pick (.tm 2) (.c (.bool true)) (.tm 0), .fr 2, none⟩]) <|
 .cond (.fr 2)
 (.seq (.reg [
 ⟨.mov (.c (.int .u64 0)), .fr 1, none⟩]) <|
 .ret)
 (.skip)) <|
 .seq (.reg [
 ⟨.mov (.fr 0), .tm, none⟩,
 ⟨.bin .shl (.c (.int .u64 1)) (.tm 0), .tm, none⟩,
 ⟨.mov (.tm 0), .fr 1, none⟩]) <|
 .ret, [.t 1]⟩
def f339 : AFunc := ⟨[0, 2, 4],
 .seq (.reg [
 ⟨.mov (.c (.int .i64 0)), .fr 1, none⟩]) <|
 .seq (.seq (.reg [
 ⟨.mov (.fr 0), .tm, none⟩,
 ⟨.eqv 1 false (.tm 0) (.c (.pointer none)), .fr 2, none⟩]) <|
 .cond (.fr 2)
 (.seq (.reg [
 ⟨.mov (.c (.int .i64 1)), .fr 1, none⟩]) <|
 .ret)
 (.skip)) <|
 .seq (.reg [
 ⟨.mov (.fr 0), .tm, none⟩,
 ⟨.nilck (.tm 0), .tm, none⟩,
 ⟨.faddr 4 (.tm 0), .tm, none⟩,
 ⟨.load1 (.tm 0), .tm, none⟩,
 ⟨.mov (.tm 0), .fr 1, none⟩]) <|
 .ret, [.t 1]⟩
def f364 : AFunc := ⟨[0, 1, 4],
 .seq (.reg [
 ⟨.mov (.c (.bool false)), .fr 2, none⟩]) <|
 .seq (.reg [
 ⟨.mov (.fr 0), .tm, none⟩,
 ⟨.nilck (.tm 0), .tm, none⟩,
 ⟨.faddr 1 (.tm 0), .tm, none⟩,
 ⟨.faddr 0 (.tm 0), .tm, none⟩,
 ⟨.load1 (.tm 0), .tm, none⟩,
 ⟨.mov (.fr 1), .tm, none⟩,
 ⟨.callf 175 [(.tm 1), (.tm 0)], .tm, none⟩,
 ⟨.mov (.tm 0), .fr 2, none⟩]) <|
 .ret, [.t 2]⟩
def f370 : AFunc := ⟨[0, 1, 2, 4],
 .seq (.reg [
 ⟨.box 507 1 (.fr 0), .fr 2, none⟩,
 ⟨.mov (.c (.bool false)), .fr 3, none⟩]) <|
 .seq (.reg [
 ⟨.load1 (.fr 2), .tm, none⟩,
 ⟨.nilck (.tm 0), .tm, none⟩,
 ⟨.faddr 0 (.tm 0), .tm, none⟩,
 ⟨.load1 (.tm 0), .tm, none⟩,
 ⟨.nilck (.tm 0), .tm, none⟩,
 ⟨.faddr 0 (.tm 0), .tm, none⟩,
 ⟨.load1 (.tm 0), .tm, none⟩,
 ⟨.mov (.fr 1), .tm, none⟩,
 ⟨.iaddr 5 (.tm 1) (.tm 0), .tm, none⟩,
 ⟨.faddr 2 (.tm 0), .tm, none⟩,
 ⟨.load1 (.tm 0), .tm, none⟩,
 ⟨.mkfn (.func 375) [] [(.fr 2)], .tm, none⟩,
 ⟨.callf 176 [(.tm 1), (.tm 0)], .tm, none⟩,
 ⟨.un .not (.tm 0), .tm, none⟩,
 ⟨.mov (.tm 0), .fr 3, none⟩]) <|
 .ret, [.t 3]⟩
def f371 : AFunc := ⟨[0, 1, 4],
 .seq (.reg [
 ⟨.mov (.c (.bool false)), .fr 2, none⟩]) <|
 .seq (.reg [
 ⟨.mov (.fr 0), .tm, none⟩,
 ⟨.nilck (.tm 0), .tm, none⟩,
 ⟨.faddr 69 (.tm 0), .tm, none⟩,
 ⟨.faddr 0 (.tm 0), .tm, none⟩,
 ⟨.load1 (.tm 0), .tm, none⟩,
 ⟨.mov (.fr 1), .tm, none⟩,
 ⟨.callf 175 [(.tm 1), (.tm 0)], .tm, none⟩,
 ⟨.un .not (.tm 0), .tm, none⟩,
 ⟨.mov (.tm 0), .fr 2, none⟩]) <|
 .ret, [.t 2]⟩
def f372 : AFunc := ⟨[0, 1, 2, 3],
 .seq (.reg [
 ⟨.box 40 4 (.fr 0), .fr 1, none⟩,
 ⟨.mov (.c (.int .u32 0)), .fr 2, none⟩,
 ⟨.mov (.c (.int .u32 0)), .fr 3, none⟩]) <|
 .seq (.dreg [
 (⟨.faddr 1 (.fr 1), .tm, none⟩, []),
 (⟨.load1 (.tm 0), .tm, none⟩, []),
 (⟨.faddr 2 (.fr 1), .tm, none⟩, []),
 (⟨.load1 (.tm 0), .tm, none⟩, []),
 (⟨.bin .andNot (.tm 2) (.tm 0), .tm, none⟩, []),
 (⟨.faddr 2 (.fr 1), .tm, none⟩, []),
 (⟨.load1 (.tm 0), .tm, none⟩, []),
 (⟨.faddr 1 (.fr 1), .tm, none⟩, []),
 (⟨.load1 (.tm 0), .tm, none⟩, []),
 (⟨.bin .andNot (.tm 2) (.tm 0), .tm, none⟩, []),
 (⟨.mov (.tm 5), .fr 2, none⟩, []),
 (⟨.mov (.tm 0), .fr 3, none⟩, [])]) <|
 .ret, [.t 2, .t 3]⟩
def f373 : AFunc := ⟨[0, 1, 2, 3, 4, 6],
 .seq (.reg [
 ⟨.box 90 2 (.fr 0), .fr 3, none⟩,
 ⟨.mov (.c (.bool false)), .fr 4, none⟩]) <|
 .seq (.seq (.reg [
 ⟨.faddr 1 (.fr 3), .tm, none⟩,
 ⟨.load1 (.tm 0), .fr 5, none⟩]) <|
 .cond (.fr 5)
 (.seq (.reg [
 ⟨.load1 (.fr 1), .tm, none⟩,
 ⟨.i2i .u64 (.tm 0), .tm, none⟩,
 ⟨.faddr 0 (.fr 3), .tm, none⟩,
 ⟨.load1 (.tm 0), .tm, none⟩,
 ⟨.callf 175 [(.tm 2), (.tm 0)], .tm, none⟩,
 ⟨.un .not (.tm 0), .tm, none⟩,
 ⟨.mov (.tm 0), .fr 4, none⟩]) <|
 .ret)
 (.skip)) <|
 .seq (.reg [
 ⟨.load1 (.fr 2), .tm, none⟩,
 ⟨.i2i .u64 (.tm 0), .tm, none⟩,
 ⟨.faddr 0 (.fr 3), .tm, none⟩,
 ⟨.load1 (.tm 0), .tm, none⟩,
 ⟨.callf 175 [(.tm 2), (.tm 0)], .tm, none⟩,
 ⟨.un .not (.tm 0), .tm, none⟩,
 ⟨.mov (.tm 0), .fr 4, none⟩]) <|
 .ret, [.t 4]⟩
def f375 : AFunc := ⟨[0, 1, 3],
 .seq (.reg [
 ⟨.mov (.c (.bool false)), .fr 2, none⟩]) <|
 .seq (.reg [
 ⟨.load1 (.fr 1), .tm, none⟩,
 ⟨.mov (.fr 0), .tm, none⟩,
 ⟨.callf 371 [(.tm 1), (.tm 0)], .tm, none⟩,
 ⟨.un .not (.tm 0), .tm, none⟩,
 ⟨.mov (.tm 0), .fr 2, none⟩]) <|
 .ret, [.t 2]⟩
def f378 : AFunc := ⟨[0, 1, 4],
 .seq (.reg [
 ⟨.mov (.c (.int .u64 0)), .fr 2, none⟩]) <|
 .seq (.reg [
 ⟨.mov (.fr 0), .tm, none⟩,
 ⟨.nilck (.tm 0), .tm, none⟩,
 ⟨.faddr 0 (.tm 0), .tm, none⟩,
 ⟨.faddr 1 (.tm 0), .tm, none⟩,
 ⟨.load1 (.tm 0), .tm, none⟩,
 ⟨.mov (.fr 1), .tm, none⟩,
 ⟨.i2i .u64 (.tm 0), .tm, none⟩,
 ⟨.callf 396 [(.tm 2), (.tm 0)], .tm, none⟩,
 ⟨.mov (.tm 0), .fr 2, none⟩]) <|
 .ret, [.t 2]⟩
def f380 : AFunc := ⟨[0, 1, 2, 4, 5],
 .seq (.reg [
 ⟨.box 411 5 (.fr 0), .fr 2, none⟩,
 ⟨.mov (.c (.int .u32 0)), .fr 3, none⟩,
 ⟨.mov (.c (.int .u32 0)), .fr 4, none⟩]) <|
 .seq (.dreg [
 (⟨.loadn 5 (.fr 2), .tm, none⟩, []),
 (⟨.mov (.fr 1), .tm, none⟩, []),
 (⟨.callf 391 [(.tm 1), (.tm 0), (.fn 392)], .tm, none⟩, []),
 (⟨.loadn 5 (.fr 2), .tm, none⟩, [2]),
 (⟨.mov (.fr 1), .tm, none⟩, []),
 (⟨.callf 391 [(.tm 1), (.tm 0), (.fn 393)], .tm, none⟩, []),
 (⟨.mov (.tm 3), .fr 3, none⟩, []),
 (⟨.mov (.tm 0), .fr 4, none⟩, [])]) <|
 .ret, [.t 3, .t 4]⟩
def f381 : AFunc := ⟨[0, 1, 2, 4],
 .seq (.reg [
 ⟨.box 411 5 (.fr 0), .fr 2, none⟩,
 ⟨.mov (.c (.int .u64 0)), .fr 3, none⟩]) <|
 .seq (.reg [
 ⟨.loadn 5 (.fr 2), .tm, none⟩,
 ⟨.mov (.fr 1), .tm, none⟩,
 ⟨.callf 394 [(.tm 1), (.tm 0), (.fn 395)], .tm, none⟩,
 ⟨.mov (.tm 0), .fr 3, none⟩]) <|
 .ret, [.t 3]⟩
def f384 : AFunc := ⟨[0, 1, 2, 4, 5],
 .seq (.reg [
 ⟨.box 472 6 (.fr 1), .fr 3, none⟩,
 ⟨.mov (.c (.bool false)), .fr 4, none⟩]) <|
 .seq (.reg [
 ⟨.faddr 0 (.fr 3), .tm, none⟩,
 ⟨.load1 (.tm 0), .tm, none⟩,
 ⟨.faddr 0 (.fr 2), .tm, none⟩,
 ⟨.load1 (.tm 0), .tm, none⟩,
 ⟨.bin .and (.tm 2) (.tm 0), .tm, none⟩,
 ⟨.bin .eql (.tm 0) (.c (.int .u64 0)), .tm, none⟩,
 ⟨.mov (.tm 0), .fr 4, none⟩]) <|
 .ret, [.t 4]⟩
def f385 : AFunc := ⟨[0, 1, 2, 4, 5],
 .seq (.reg [
 ⟨.box 472 6 (.fr 1), .fr 3, none⟩,
 ⟨.mov (.c (.bool false)), .fr 4, none⟩]) <|
 .seq (.reg [
 ⟨.faddr 1 (.fr 3), .tm, none⟩,
 ⟨.load1 (.tm 0), .tm, none⟩,
 ⟨.faddr 0 (.fr 2), .tm, none⟩,
 ⟨.load1 (.tm 0), .tm, none⟩,
 ⟨.bin .and (.tm 2) (.tm 0), .tm, none⟩,
 ⟨.bin .neq (.tm 0) (.c (.int .u64 0)), .tm, none⟩,
 ⟨.mov (.tm 0), .fr 4, none⟩]) <|
 .ret, [.t 4]⟩
def f387 : AFunc := ⟨[0, 1, 4],
 .seq (.reg [
 ⟨.mov (.c (.bool false)), .fr 2, none⟩]) <|
 .seq (.reg [
 ⟨.mov (.fr 1), .tm, none⟩,
 ⟨.bin .eql (.tm 0) (.c (.int .u8 0)), .tm, none⟩,
 ⟨.mov (.tm 0), .fr 2, none⟩]) <|
 .ret, [.t 2]⟩
def f388 : AFunc := ⟨[0, 2],
 .seq (.reg [
 ⟨.mov (.c (.slice none 0 0)), .fr 1, none⟩]) <|
 .seq (.reg [
 ⟨.mov (.fr 0), .tm, none⟩,
 ⟨.callf 398 [(.tm 0)], .tm, none⟩,
 ⟨.callf 397 [(.tm 0)], .tm, none⟩,
 ⟨.mov (.tm 0), .fr 1, none⟩]) <|
 .ret, [.t 1]⟩
def f389 : AFunc := ⟨[0, 1, 2, 3, 5, 6],
 .seq (.reg [
 ⟨.box 472 6 (.fr 1), .fr 4, none⟩,
 ⟨.mov (.c (.bool false)), .fr 5, none⟩]) <|
 .seq (.reg [
 ⟨.faddr 3 (.fr 4), .tm, none⟩,
 ⟨.load1 (.tm 0), .tm, none⟩,
 ⟨.load1 (.fr 2), .tm, none⟩,
 ⟨.bin .andNot (.tm 1) (.tm 0), .tm, none⟩,
 ⟨.bin .eql (.tm 0) (.c (.int .u32 0)), .tm, none⟩,
 ⟨.mov (.tm 0), .tm, none⟩,
 ⟨.faddr 4 (.fr 4), .tm, some ((.tm 0), true)⟩,
 ⟨.load1 (.tm 0), .tm, some ((.tm 1), true)⟩,
 ⟨.load1 (.fr 3), .tm, some ((.tm 2), true)⟩,
 ⟨.bin .andNot (.tm 1) (.tm 0), .tm, some ((.tm 3), true)⟩,
 ⟨.bin .eql (.tm 0) (.c (.int .u32 0)), .tm, some ((.tm 4), true)⟩,
 ⟨.pick (.tm 5) (.tm 0) (.c (.bool false)), .tm, none⟩,
 ⟨.mov (.tm 0), .fr 5, none⟩]) <|
 .ret, [.t 5]⟩
def f390 : AFunc := ⟨[0, 1, 4],
 .seq (.reg [
 ⟨.mov (.c (.bool false)), .fr 2, none⟩]) <|
 .seq (.reg [
 ⟨.mov (.fr 1), .tm, none⟩,
 ⟨.bin .geq (.tm 0) (.c (.int .i64 0)), .tm, none⟩,
 ⟨.mov (.tm 0), .tm, none⟩,
 ⟨.mov (.fr 1), .tm, some ((.tm 0), true)⟩,
 ⟨.bin .lss (.tm 0) (.c (.int .i64 64)), .tm, some ((.tm 1), true)⟩,
 ⟨.pick (.tm 2) (.tm 0) (.c (.bool false)), .tm, none⟩,
 ⟨.mov (.tm 0), .tm, none⟩,
 ⟨.mov (.fr 0), .tm, some ((.tm 0), true)⟩,
 ⟨.mov (.fr 1), .tm, some ((.tm 1), true)⟩,
 ⟨.bin .shr (.tm 1) (.tm 0), .tm, some ((.tm 2), true)⟩,
 ⟨.bin .and (.tm 0) (.c (.int .u64 1)), .tm, some ((.tm 3), true)⟩,
 ⟨.bin .eql (.tm 0) (.c (.int .u64 1)), .tm, some ((.tm 4), true)⟩,
 ⟨.pick (.tm 5) (.tm 0) (.c (.bool false)), .tm, none⟩,
 ⟨.mov (.tm 0), .fr 2, none⟩]) <|
 .ret, [.t 2]⟩
def f392 : AFunc := ⟨[0, 1, 2],
 .seq (.reg [
 ⟨.box 472 6 (.fr 0), .fr 1, none⟩,
 ⟨.mov (.c (.int .u32 0)), .fr 2, none⟩]) <|
 .seq (.reg [
 ⟨.faddr 3 (.fr 1), .tm, none⟩,
 ⟨.load1 (.tm 0), .tm, none⟩,
 ⟨.mov (.tm 0), .fr 2, none⟩]) <|
 .ret, [.t 2]⟩
def f393 : AFunc := ⟨[0, 1, 2],
 .seq (.reg [
 ⟨.box 472 6 (.fr 0), .fr 1, none⟩,
 ⟨.mov (.c (.int .u32 0)), .fr 2, none⟩]) <|
 .seq (.reg [
 ⟨.faddr 4 (.fr 1), .tm, none⟩,
 ⟨.load1 (.tm 0), .tm, none⟩,
 ⟨.mov (.tm 0), .fr 2, none⟩]) <|
 .ret, [.t 2]⟩
def f395 : AFunc := ⟨[0, 1, 2],
 .seq (.reg [
 ⟨.box 472 6 (.fr 0), .fr 1, none⟩,
 ⟨.mov (.c (.int .u64 0)), .fr 2, none⟩]) <|
 .seq (.reg [
 ⟨.faddr 5 (.fr 1), .tm, none⟩,
 ⟨.load1 (.tm 0), .tm, none⟩,
 ⟨.mov (.tm 0), .fr 2, none⟩]) <|
 .ret, [.t 2]⟩
def f397 : AFunc := ⟨[0, 2],
 .seq (.reg [
 ⟨.mov (.c (.slice none 0 0)), .fr 1, none⟩]) <|
 .seq (.reg [
 ⟨.mov (.fr 0), .tm, none⟩,
 ⟨.callf 399 [(.c (.slice none 0 0)), (.tm 0)], .tm, none⟩,
 ⟨.mov (.tm 0), .fr 1, none⟩]) <|
 .ret, [.t 1]⟩
def f398 : AFunc := ⟨[0, 1, 2],
 .seq (.reg [
 ⟨.box 36 1 (.fr 0), .fr 1, none⟩,
 ⟨.mov (.c .nilFunc), .fr 2, none⟩]) <|
 .seq (.reg [
 ⟨.mkfn (.func 400) [] [(.fr 1)], .tm, none⟩,
 ⟨.mov (.tm 0), .fr 2, none⟩]) <|
 .ret, [.t 2]⟩
def f400 : AFunc := ⟨[0, 1, 3, 4, 5, 15],
 .seq (.reg [
 ⟨.mov (.c (.int .i64 0)), .fr 3, none⟩]) <|
 .block 0 (.loop (.seq (.reg [
 ⟨.bin .lss (.fr 3) (.c (.int .i64 64)), .fr 4, none⟩]) <|
 .seq (.cond (.fr 4)
 (.skip)
 (.exit 0)) <|
 .seq (.block 1 (.seq (.reg [
 ⟨.mov (.fr 3), .tm, none⟩,
 ⟨.mov (.tm 0), .fr 2, none⟩]) <|
 .seq (.reg [
 ⟨.load1 (.fr 1), .tm, none⟩,
 ⟨.mov (.fr 2), .tm, none⟩,
 ⟨.callf 390 [(.tm 1), (.tm 0)], .tm, none⟩,
 ⟨.mov (.tm 0), .tm, none⟩,
 ⟨.mov (.fr 0), .tm, some ((.tm 0), true)⟩,
 ⟨.mov (.fr 2), .tm, some ((.tm 1), true)⟩,
 ⟨.callv (.tm 1) [(.tm 0)], .tm, some ((.tm 2), true)⟩,
 ⟨.un .not (.tm 0), .tm, some ((.tm 3), true)⟩,
 ⟨.pick (.tm 4) (.tm 0) (.c (.bool false)), .fr 5, none⟩]) <|
 .cond (.fr 5)
 (.ret)
 (.skip))) <|
 .reg [
 ⟨.bin .add (.fr 3) (.c (.int .i64 1)), .tm, none⟩,
 ⟨.mov (.tm 0), .fr 3, none⟩])), []⟩
theorem f7_ok : compF Go.Proofs.Tryz.prog 0 [0, 2, 3, 5] 7 = some f7 := by kernel_rfl
theorem f7_n : argsOK Go.Proofs.Tryz.prog 7 1 = true := by kernel_rfl
theorem f10_ok : compF Go.Proofs.Tryz.prog 0 [0, 2, 4] 10 = some f10 := by kernel_rfl
theorem f10_n : argsOK Go.Proofs.Tryz.prog 10 1 = true := by kernel_rfl
theorem f12_ok : compF Go.Proofs.Tryz.prog 0 [0, 2, 4] 12 = some f12 := by kernel_rfl
theorem f12_n : argsOK Go.Proofs.Tryz.prog 12 1 = true := by kernel_rfl
theorem f13_ok : compF Go.Proofs.Tryz.prog 0 [0, 2, 4] 13 = some f13 := by kernel_rfl
theorem f13_n : argsOK Go.Proofs.Tryz.prog 13 1 = true := by kernel_rfl
theorem f14_ok : compF Go.Proofs.Tryz.prog 0 [0, 1, 4] 14 = some f14 := by kernel_rfl
theorem f14_n : argsOK Go.Proofs.Tryz.prog 14 2 = true := by kernel_rfl
theorem f15_ok : compF Go.Proofs.Tryz.prog 0 [0, 1, 4, 5] 15 = some f15 := by kernel_rfl
theorem f15_n : argsOK Go.Proofs.Tryz.prog 15 2 = true := by kernel_rfl
theorem f16_ok : compF Go.Proofs.Tryz.prog 0 [0, 1, 4, 5] 16 = some f16 := by kernel_rfl
theorem f16_n : argsOK Go.Proofs.Tryz.prog 16 2 = true := by kernel_rfl
theorem f17_ok : compF Go.Proofs.Tryz.prog 0 [0, 1, 4, 5, 10] 17 = some f17 := by kernel_rfl
theorem f17_n : argsOK Go.Proofs.Tryz.prog 17 2 = true := by kernel_rfl
theorem f18_ok : compF Go.Proofs.Tryz.prog 0 [0, 1, 4, 5, 10] 18 = some f18 := by kernel_rfl
theorem f18_n : argsOK Go.Proofs.Tryz.prog 18 2 = true := by kernel_rfl
theorem f19_ok : compF Go.Proofs.Tryz.prog 0 [0, 1, 4, 5, 10] 19 = some f19 := by kernel_rfl
theorem f19_n : argsOK Go.Proofs.Tryz.prog 19 2 = true := by kernel_rfl
theorem f27_ok : compF Go.Proofs.Tryz.prog 0 [0] 27 = some f27 := by kernel_rfl
theorem f27_n : argsOK Go.Proofs.Tryz.prog 27 0 = true := by kernel_rfl
theorem f30_ok : compF Go.Proofs.Tryz.prog 0 [0, 1, 4] 30 = some f30 := by kernel_rfl
theorem f30_n : argsOK Go.Proofs.Tryz.prog 30 2 = true := by kernel_rfl
theorem f31_ok : compF Go.Proofs.Tryz.prog 0 [0, 1, 3] 31 = some f31 := by kernel_rfl
theorem f31_n : argsOK Go.Proofs.Tryz.prog 31 2 = true := by kernel_rfl
theorem f32_ok : compF Go.Proofs.Tryz.prog 0 [0, 1, 2] 32 = some f32 := by kernel_rfl
theorem f32_n : argsOK Go.Proofs.Tryz.prog 32 1 = true := by kernel_rfl
theorem f33_ok : compF Go.Proofs.Tryz.prog 0 [0, 1, 2] 33 = some f33 := by kernel_rfl
theorem f33_n : argsOK Go.Proofs.Tryz.prog 33 3 = true := by kernel_rfl
theorem f37_ok : compF Go.Proofs.Tryz.prog 0 [0, 1, 2, 4, 9] 37 = some f37 := by kernel_rfl
theorem f37_n : argsOK Go.Proofs.Tryz.prog 37 3 = true := by kernel_rfl
theorem f45_ok : compF Go.Proofs.Tryz.prog 0 [0, 1, 2] 45 = some f45 := by kernel_rfl
theorem f45_n : argsOK Go.Proofs.Tryz.prog 45 3 = true := by kernel_rfl
theorem f46_ok : compF Go.Proofs.Tryz.prog 0 [0, 1] 46 = some f46 := by kernel_rfl
theorem f46_n : argsOK Go.Proofs.Tryz.prog 46 2 = true := by kernel_rfl
theorem f48_ok : compF Go.Proofs.Tryz.prog 0 [0, 1, 15] 48 = some f48 := by kernel_rfl
theorem f48_n : argsOK Go.Proofs.Tryz.prog 48 2 = true := by kernel_rfl
theorem f49_ok : compF Go.Proofs.Tryz.prog 0 [0, 2, 3, 5] 49 = some f49 := by kernel_rfl
theorem f49_n : argsOK Go.Proofs.Tryz.prog 49 1 = true := by kernel_rfl
theorem f53_ok : compF Go.Proofs.Tryz.prog 0 [0, 2, 4] 53 = some f53 := by kernel_rfl
theorem f53_n : argsOK Go.Proofs.Tryz.prog 53 1 = true := by kernel_rfl
theorem f54_ok : compF Go.Proofs.Tryz.prog 0 [0, 2, 4] 54 = some f54 := by kernel_rfl
theorem f54_n : argsOK Go.Proofs.Tryz.prog 54 1 = true := by kernel_rfl
theorem f55_ok : compF Go.Proofs.Tryz.prog 0 [0, 2] 55 = some f55 := by kernel_rfl
theorem f55_n : argsOK Go.Proofs.Tryz.prog 55 1 = true := by kernel_rfl
theorem f56_ok : compF Go.Proofs.Tryz.prog 0 [0, 2] 56 = some f56 := by kernel_rfl
theorem f56_n : argsOK Go.Proofs.Tryz.prog 56 1 = true := by kernel_rfl
theorem f57_ok : compF Go.Proofs.Tryz.prog 0 [0, 2, 4] 57 = some f57 := by kernel_rfl
theorem f57_n : argsOK Go.Proofs.Tryz.prog 57 1 = true := by kernel_rfl
theorem f63_ok : compF Go.Proofs.Tryz.prog 0 [0] 63 = some f63 := by kernel_rfl
theorem f63_n : argsOK Go.Proofs.Tryz.prog 63 0 = true := by kernel_rfl
theorem f66_ok : compF Go.Proofs.Tryz.prog 0 [0, 3] 66 = some f66 := by kernel_rfl
theorem f66_n : argsOK Go.Proofs.Tryz.prog 66 1 = true := by kernel_rfl
theorem f67_ok : compF Go.Proofs.Tryz.prog 0 [0, 2, 4] 67 = some f67 := by kernel_rfl
theorem f67_n : argsOK Go.Proofs.Tryz.prog 67 1 = true := by kernel_rfl
theorem f68_ok : compF Go.Proofs.Tryz.prog 0 [0, 2, 4] 68 = some f68 := by kernel_rfl
theorem f68_n : argsOK Go.Proofs.Tryz.prog 68 1 = true := by kernel_rfl
theorem f69_ok : compF Go.Proofs.Tryz.prog 0 [0, 2, 4] 69 = some f69 := by kernel_rfl
theorem f69_n : argsOK Go.Proofs.Tryz.prog 69 1 = true := by kernel_rfl
theorem f70_ok : compF Go.Proofs.Tryz.prog 0 [0, 2, 4] 70 = some f70 := by kernel_rfl
theorem f70_n : argsOK Go.Proofs.Tryz.prog 70 1 = true := by kernel_rfl
theorem f71_ok : compF Go.Proofs.Tryz.prog 0 [0, 2, 4] 71 = some f71 := by kernel_rfl
theorem f71_n : argsOK Go.Proofs.Tryz.prog 71 1 = true := by kernel_rfl
theorem f72_ok : compF Go.Proofs.Tryz.prog 0 [0, 2, 4] 72 = some f72 := by kernel_rfl
theorem f72_n : argsOK Go.Proofs.Tryz.prog 72 1 = true := by kernel_rfl
theorem f73_ok : compF Go.Proofs.Tryz.prog 0 [0, 2, 3, 9] 73 = some f73 := by kernel_rfl
theorem f73_n : argsOK Go.Proofs.Tryz.prog 73 1 = true := by kernel_rfl
theorem f77_ok : compF Go.Proofs.Tryz.prog 0 [0, 2, 4] 77 = some f77 := by kernel_rfl
theorem f77_n : argsOK Go.Proofs.Tryz.prog 77 1 = true := by kernel_rfl
theorem f78_ok : compF Go.Proofs.Tryz.prog 0 [0, 3, 12] 78 = some f78 := by kernel_rfl
theorem f78_n : argsOK Go.Proofs.Tryz.prog 78 1 = true := by kernel_rfl
theorem f84_ok : compF Go.Proofs.Tryz.prog 0 [0, 2] 84 = some f84 := by kernel_rfl
theorem f84_n : argsOK Go.Proofs.Tryz.prog 84 1 = true := by kernel_rfl
theorem f96_ok : compF Go.Proofs.Tryz.prog 0 [0, 1, 4] 96 = some f96 := by kernel_rfl
theorem f96_n : argsOK Go.Proofs.Tryz.prog 96 2 = true := by kernel_rfl
theorem f97_ok : compF Go.Proofs.Tryz.prog 0 [0, 1, 5] 97 = some f97 := by kernel_rfl
theorem f97_n : argsOK Go.Proofs.Tryz.prog 97 2 = true := by kernel_rfl
theorem f99_ok : compF Go.Proofs.Tryz.prog 0 [0, 2, 4] 99 = some f99 := by kernel_rfl
theorem f99_n : argsOK Go.Proofs.Tryz.prog 99 1 = true := by kernel_rfl
theorem f103_ok : compF Go.Proofs.Tryz.prog 0 [0, 3] 103 = some f103 := by kernel_rfl
theorem f103_n : argsOK Go.Proofs.Tryz.prog 103 1 = true := by kernel_rfl
theorem f105_ok : compF Go.Proofs.Tryz.prog 0 [0, 2] 105 = some f105 := by kernel_rfl
theorem f105_n : argsOK Go.Proofs.Tryz.prog 105 1 = true := by kernel_rfl
theorem f107_ok : compF Go.Proofs.Tryz.prog 0 [0, 2, 4] 107 = some f107 := by kernel_rfl
theorem f107_n : argsOK Go.Proofs.Tryz.prog 107 1 = true := by kernel_rfl
theorem f108_ok : compF Go.Proofs.Tryz.prog 0 [0, 2] 108 = some f108 := by kernel_rfl
theorem f108_n : argsOK Go.Proofs.Tryz.prog 108 1 = true := by kernel_rfl
theorem f110_ok : compF Go.Proofs.Tryz.prog 0 [0, 1, 2] 110 = some f110 := by kernel_rfl
theorem f110_n : argsOK Go.Proofs.Tryz.prog 110 1 = true := by kernel_rfl
theorem f111_ok : compF Go.Proofs.Tryz.prog 0 [0, 1, 2] 111 = some f111 := by kernel_rfl
theorem f111_n : argsOK Go.Proofs.Tryz.prog 111 1 = true := by kernel_rfl
theorem f113_ok : compF Go.Proofs.Tryz.prog 0 [0, 2, 3, 4, 5, 12] 113 = some f113 := by kernel_rfl
theorem f113_n : argsOK Go.Proofs.Tryz.prog 113 1 = true := by kernel_rfl
theorem f119_ok : compF Go.Proofs.Tryz.prog 0 [0, 2, 8] 119 = some f119 := by kernel_rfl
theorem f119_n : argsOK Go.Proofs.Tryz.prog 119 1 = true := by kernel_rfl
theorem f120_ok : compF Go.Proofs.Tryz.prog 0 [0, 2] 120 = some f120 := by kernel_rfl
theorem f120_n : argsOK Go.Proofs.Tryz.prog 120 1 = true := by kernel_rfl
theorem f121_ok : compF Go.Proofs.Tryz.prog 0 [0] 121 = some f121 := by kernel_rfl
theorem f121_n : argsOK Go.Proofs.Tryz.prog 121 1 = true := by kernel_rfl
theorem f139_ok : compF Go.Proofs.Tryz.prog 0 [0, 3] 139 = some f139 := by kernel_rfl
theorem f139_n : argsOK Go.Proofs.Tryz.prog 139 1 = true := by kernel_rfl
theorem f141_ok : compF Go.Proofs.Tryz.prog 0 [0, 2, 4] 141 = some f141 := by kernel_rfl
theorem f141_n : argsOK Go.Proofs.Tryz.prog 141 1 = true := by kernel_rfl
theorem f142_ok : compF Go.Proofs.Tryz.prog 0 [0, 2, 3, 5] 142 = some f142 := by kernel_rfl
theorem f142_n : argsOK Go.Proofs.Tryz.prog 142 1 = true := by kernel_rfl
theorem f144_ok : compF Go.Proofs.Tryz.prog 0 [0, 2, 3, 5] 144 = some f144 := by kernel_rfl
theorem f144_n : argsOK Go.Proofs.Tryz.prog 144 1 = true := by kernel_rfl
theorem f148_ok : compF Go.Proofs.Tryz.prog 0 [0] 148 = some f148 := by kernel_rfl
theorem f148_n : argsOK Go.Proofs.Tryz.prog 148 1 = true := by kernel_rfl
theorem f150_ok : compF Go.Proofs.Tryz.prog 0 [0, 1, 2, 6, 7, 13] 150 = some f150 := by kernel_rfl
theorem f150_n : argsOK Go.Proofs.Tryz.prog 150 3 = true := by kernel_rfl
theorem f151_ok : compF Go.Proofs.Tryz.prog 0 [0, 1, 4, 9] 151 = some f151 := by kernel_rfl
theorem f151_n : argsOK Go.Proofs.Tryz.prog 151 2 = true := by kernel_rfl
theorem f153_ok : compF Go.Proofs.Tryz.prog 0 [0, 2, 4] 153 = some f153 := by kernel_rfl
theorem f153_n : argsOK Go.Proofs.Tryz.prog 153 1 = true := by kernel_rfl
theorem f161_ok : compF Go.Proofs.Tryz.prog 0 [0, 1, 2, 3] 161 = some f161 := by kernel_rfl
theorem f161_n : argsOK Go.Proofs.Tryz.prog 161 2 = true := by kernel_rfl
theorem f168_ok : compF Go.Proofs.Tryz.prog 0 [0, 2, 4] 168 = some f168 := by kernel_rfl
theorem f168_n : argsOK Go.Proofs.Tryz.prog 168 1 = true := by kernel_rfl
theorem f175_ok : compF Go.Proofs.Tryz.prog 0 [0, 1, 4] 175 = some f175 := by kernel_rfl
theorem f175_n : argsOK Go.Proofs.Tryz.prog 175 2 = true := by kernel_rfl
theorem f176_ok : compF Go.Proofs.Tryz.prog 0 [0, 1, 4] 176 = some f176 := by kernel_rfl
theorem f176_n : argsOK Go.Proofs.Tryz.prog 176 2 = true := by kernel_rfl
theorem f178_ok : compF Go.Proofs.Tryz.prog 0 [0, 1, 4] 178 = some f178 := by kernel_rfl
theorem f178_n : argsOK Go.Proofs.Tryz.prog 178 2 = true := by kernel_rfl
theorem f179_ok : compF Go.Proofs.Tryz.prog 0 [0, 1, 2, 3] 179 = some f179 := by kernel_rfl
theorem f179_n : argsOK Go.Proofs.Tryz.prog 179 2 = true := by kernel_rfl
theorem f194_ok : compF Go.Proofs.Tryz.prog 0 [0, 1, 2, 3, 4] 194 = some f194 := by kernel_rfl
theorem f194_n : argsOK Go.Proofs.Tryz.prog 194 2 = true := by kernel_rfl
theorem f199_ok : compF Go.Proofs.Tryz.prog 0 [0, 1, 2] 199 = some f199 := by kernel_rfl
theorem f199_n : argsOK Go.Proofs.Tryz.prog 199 1 = true := by kernel_rfl
theorem f208_ok : compF Go.Proofs.Tryz.prog 0 [0, 2, 3, 5] 208 = some f208 := by kernel_rfl
theorem f208_n : argsOK Go.Proofs.Tryz.prog 208 1 = true := by kernel_rfl
theorem f209_ok : compF Go.Proofs.Tryz.prog 0 [0, 1, 2, 3] 209 = some f209 := by kernel_rfl
theorem f209_n : argsOK Go.Proofs.Tryz.prog 209 3 = true := by kernel_rfl
theorem f212_ok : compF Go.Proofs.Tryz.prog 0 [0, 1, 2] 212 = some f212 := by kernel_rfl
theorem f212_n : argsOK Go.Proofs.Tryz.prog 212 2 = true := by kernel_rfl
theorem f215_ok : compF Go.Proofs.Tryz.prog 0 [0, 1] 215 = some f215 := by kernel_rfl
theorem f215_n : argsOK Go.Proofs.Tryz.prog 215 1 = true := by kernel_rfl
theorem f218_ok : compF Go.Proofs.Tryz.prog 0 [0, 1, 2, 4] 218 = some f218 := by kernel_rfl
theorem f218_n : argsOK Go.Proofs.Tryz.prog 218 2 = true := by kernel_rfl
theorem f222_ok : compF Go.Proofs.Tryz.prog 0 [0, 1, 2] 222 = some f222 := by kernel_rfl
theorem f222_n : argsOK Go.Proofs.Tryz.prog 222 1 = true := by kernel_rfl
theorem f230_ok : compF Go.Proofs.Tryz.prog 0 [0, 2] 230 = some f230 := by kernel_rfl
theorem f230_n : argsOK Go.Proofs.Tryz.prog 230 1 = true := by kernel_rfl
theorem f231_ok : compF Go.Proofs.Tryz.prog 0 [0, 1, 4] 231 = some f231 := by kernel_rfl
theorem f231_n : argsOK Go.Proofs.Tryz.prog 231 2 = true := by kernel_rfl
theorem f234_ok : compF Go.Proofs.Tryz.prog 0 [0, 1, 3, 4] 234 = some f234 := by kernel_rfl
theorem f234_n : argsOK Go.Proofs.Tryz.prog 234 2 = true := by kernel_rfl
theorem f238_ok : compF Go.Proofs.Tryz.prog 0 [0, 2, 4] 238 = some f238 := by kernel_rfl
theorem f238_n : argsOK Go.Proofs.Tryz.prog 238 1 = true := by kernel_rfl
theorem f243_ok : compF Go.Proofs.Tryz.prog 0 [0, 2, 4] 243 = some f243 := by kernel_rfl
theorem f243_n : argsOK Go.Proofs.Tryz.prog 243 1 = true := by kernel_rfl
theorem f246_ok : compF Go.Proofs.Tryz.prog 0 [0, 2, 4] 246 = some f246 := by kernel_rfl
theorem f246_n : argsOK Go.Proofs.Tryz.prog 246 1 = true := by kernel_rfl
theorem f252_ok : compF Go.Proofs.Tryz.prog 0 [0, 1, 4, 5, 7, 8, 9, 16] 252 = some f252 := by kernel_rfl
theorem f252_n : argsOK Go.Proofs.Tryz.prog 252 2 = true := by kernel_rfl
theorem f257_ok : compF Go.Proofs.Tryz.prog 0 [0, 1, 4] 257 = some f257 := by kernel_rfl
theorem f257_n : argsOK Go.Proofs.Tryz.prog 257 2 = true := by kernel_rfl
theorem f261_ok : compF Go.Proofs.Tryz.prog 0 [0, 1, 2, 3, 4] 261 = some f261 := by kernel_rfl
theorem f261_n : argsOK Go.Proofs.Tryz.prog 261 2 = true := by kernel_rfl
theorem f262_ok : compF Go.Proofs.Tryz.prog 0 [0, 1, 2] 262 = some f262 := by kernel_rfl
theorem f262_n : argsOK Go.Proofs.Tryz.prog 262 1 = true := by kernel_rfl
theorem f263_ok : compF Go.Proofs.Tryz.prog 0 [0, 1, 2, 6, 7, 10] 263 = some f263 := by kernel_rfl
theorem f263_n : argsOK Go.Proofs.Tryz.prog 263 3 = true := by kernel_rfl
theorem f264_ok : compF Go.Proofs.Tryz.prog 0 [0, 1] 264 = some f264 := by kernel_rfl
theorem f264_n : argsOK Go.Proofs.Tryz.prog 264 2 = true := by kernel_rfl
theorem f265_ok : compF Go.Proofs.Tryz.prog 0 [0, 1, 3] 265 = some f265 := by kernel_rfl
theorem f265_n : argsOK Go.Proofs.Tryz.prog 265 2 = true := by kernel_rfl
theorem f268_ok : compF Go.Proofs.Tryz.prog 0 [0, 2, 4] 268 = some f268 := by kernel_rfl
theorem f268_n : argsOK Go.Proofs.Tryz.prog 268 1 = true := by kernel_rfl
theorem f270_ok : compF Go.Proofs.Tryz.prog 0 [0, 3] 270 = some f270 := by kernel_rfl
theorem f270_n : argsOK Go.Proofs.Tryz.prog 270 1 = true := by kernel_rfl
theorem f271_ok : compF Go.Proofs.Tryz.prog 0 [0, 1, 4] 271 = some f271 := by kernel_rfl
theorem f271_n : argsOK Go.Proofs.Tryz.prog 271 2 = true := by kernel_rfl
theorem f272_ok : compF Go.Proofs.Tryz.prog 0 [0, 1, 4] 272 = some f272 := by kernel_rfl
theorem f272_n : argsOK Go.Proofs.Tryz.prog 272 2 = true := by kernel_rfl
theorem f278_ok : compF Go.Proofs.Tryz.prog 0 [0, 1, 2] 278 = some f278 := by kernel_rfl
theorem f278_n : argsOK Go.Proofs.Tryz.prog 278 1 = true := by kernel_rfl
theorem f280_ok : compF Go.Proofs.Tryz.prog 0 [0, 1, 5, 6, 7, 8, 9] 280 = some f280 := by kernel_rfl
theorem f280_n : argsOK Go.Proofs.Tryz.prog 280 2 = true := by kernel_rfl
theorem f283_ok : compF Go.Proofs.Tryz.prog 0 [0, 1, 2, 4] 283 = some f283 := by kernel_rfl
theorem f283_n : argsOK Go.Proofs.Tryz.prog 283 3 = true := by kernel_rfl
theorem f284_ok : compF Go.Proofs.Tryz.prog 0 [0, 1, 4, 5, 7, 8, 9, 16] 284 = some f284 := by kernel_rfl
theorem f284_n : argsOK Go.Proofs.Tryz.prog 284 2 = true := by kernel_rfl
theorem f286_ok : compF Go.Proofs.Tryz.prog 0 [0, 1, 2, 3] 286 = some f286 := by kernel_rfl
theorem f286_n : argsOK Go.Proofs.Tryz.prog 286 2 = true := by kernel_rfl
theorem f290_ok : compF Go.Proofs.Tryz.prog 0 [0, 1, 2] 290 = some f290 := by kernel_rfl
theorem f290_n : argsOK Go.Proofs.Tryz.prog 290 1 = true := by kernel_rfl
theorem f294_ok : compF Go.Proofs.Tryz.prog 0 [0, 2] 294 = some f294 := by kernel_rfl
theorem f294_n : argsOK Go.Proofs.Tryz.prog 294 1 = true := by kernel_rfl
theorem f297_ok : compF Go.Proofs.Tryz.prog 0 [0, 2, 3, 6] 297 = some f297 := by kernel_rfl
theorem f297_n : argsOK Go.Proofs.Tryz.prog 297 1 = true := by kernel_rfl
theorem f298_ok : compF Go.Proofs.Tryz.prog 0 [0, 1, 4] 298 = some f298 := by kernel_rfl
theorem f298_n : argsOK Go.Proofs.Tryz.prog 298 2 = true := by kernel_rfl
theorem f301_ok : compF Go.Proofs.Tryz.prog 0 [0, 2] 301 = some f301 := by kernel_rfl
theorem f301_n : argsOK Go.Proofs.Tryz.prog 301 1 = true := by kernel_rfl
theorem f306_ok : compF Go.Proofs.Tryz.prog 0 [0, 2, 3, 6] 306 = some f306 := by kernel_rfl
theorem f306_n : argsOK Go.Proofs.Tryz.prog 306 1 = true := by kernel_rfl
theorem f307_ok : compF Go.Proofs.Tryz.prog 0 [0, 2, 3, 5, 6, 7, 8, 9] 307 = some f307 := by kernel_rfl
theorem f307_n : argsOK Go.Proofs.Tryz.prog 307 1 = true := by kernel_rfl
theorem f308_ok : compF Go.Proofs.Tryz.prog 0 [0, 1, 4] 308 = some f308 := by kernel_rfl
theorem f308_n : argsOK Go.Proofs.Tryz.prog 308 2 = true := by kernel_rfl
theorem f310_ok : compF Go.Proofs.Tryz.prog 0 [0, 2] 310 = some f310 := by kernel_rfl
theorem f310_n : argsOK Go.Proofs.Tryz.prog 310 1 = true := by kernel_rfl
theorem f314_ok : compF Go.Proofs.Tryz.prog 0 [0, 2] 314 = some f314 := by kernel_rfl
theorem f314_n : argsOK Go.Proofs.Tryz.prog 314 1 = true := by kernel_rfl
theorem f317_ok : compF Go.Proofs.Tryz.prog 0 [0, 1] 317 = some f317 := by kernel_rfl
theorem f317_n : argsOK Go.Proofs.Tryz.prog 317 2 = true := by kernel_rfl
theorem f318_ok : compF Go.Proofs.Tryz.prog 0 [0, 2] 318 = some f318 := by kernel_rfl
theorem f318_n : argsOK Go.Proofs.Tryz.prog 318 1 = true := by kernel_rfl
theorem f320_ok : compF Go.Proofs.Tryz.prog 0 [0, 2, 4] 320 = some f320 := by kernel_rfl
theorem f320_n : argsOK Go.Proofs.Tryz.prog 320 1 = true := by kernel_rfl
theorem f323_ok : compF Go.Proofs.Tryz.prog 0 [0, 1, 3, 8, 18] 323 = some f323 := by kernel_rfl
theorem f323_n : argsOK Go.Proofs.Tryz.prog 323 2 = true := by kernel_rfl
theorem f331_ok : compF Go.Proofs.Tryz.prog 0 [] 331 = some f331 := by kernel_rfl
theorem f331_n : argsOK Go.Proofs.Tryz.prog 331 0 = true := by kernel_rfl
theorem f333_ok : compF Go.Proofs.Tryz.prog 0 [0, 1, 4] 333 = some f333 := by kernel_rfl
theorem f333_n : argsOK Go.Proofs.Tryz.prog 333 2 = true := by kernel_rfl
theorem f334_ok : compF Go.Proofs.Tryz.prog 0 [0, 2] 334 = some f334 := by kernel_rfl
theorem f334_n : argsOK Go.Proofs.Tryz.prog 334 1 = true := by kernel_rfl
theorem f336_ok : compF Go.Proofs.Tryz.prog 0 [0, 2, 8] 336 = some f336 := by kernel_rfl
theorem f336_n : argsOK Go.Proofs.Tryz.prog 336 1 = true := by kernel_rfl
theorem f339_ok : compF Go.Proofs.Tryz.prog 0 [0, 2, 4] 339 = some f339 := by kernel_rfl
theorem f339_n : argsOK Go.Proofs.Tryz.prog 339 1 = true := by kernel_rfl
theorem f364_ok : compF Go.Proofs.Tryz.prog 0 [0, 1, 4] 364 = some f364 := by kernel_rfl
theorem f364_n : argsOK Go.Proofs.Tryz.prog 364 2 = true := by kernel_rfl
theorem f370_ok : compF Go.Proofs.Tryz.prog 0 [0, 1, 2, 4] 370 = some f370 := by kernel_rfl
theorem f370_n : argsOK Go.Proofs.Tryz.prog 370 2 = true := by kernel_rfl
theorem f371_ok : compF Go.Proofs.Tryz.prog 0 [0, 1, 4] 371 = some f371 := by kernel_rfl
theorem f371_n : argsOK Go.Proofs.Tryz.prog 371 2 = true := by kernel_rfl
theorem f372_ok : compF Go.Proofs.Tryz.prog 0 [0, 1, 2, 3] 372 = some f372 := by kernel_rfl
theorem f372_n : argsOK Go.Proofs.Tryz.prog 372 1 = true := by kernel_rfl
theorem f373_ok : compF Go.Proofs.Tryz.prog 0 [0, 1, 2, 3, 4, 6] 373 = some f373 := by kernel_rfl
theorem f373_n : argsOK Go.Proofs.Tryz.prog 373 3 = true := by kernel_rfl
theorem f375_ok : compF Go.Proofs.Tryz.prog 0 [0, 1, 3] 375 = some f375 := by kernel_rfl
theorem f375_n : argsOK Go.Proofs.Tryz.prog 375 2 = true := by kernel_rfl
theorem f378_ok : compF Go.Proofs.Tryz.prog 0 [0, 1, 4] 378 = some f378 := by kernel_rfl
theorem f378_n : argsOK Go.Proofs.Tryz.prog 378 2 = true := by kernel_rfl
theorem f380_ok : compF Go.Proofs.Tryz.prog 0 [0, 1, 2, 4, 5] 380 = some f380 := by kernel_rfl
theorem f380_n : argsOK Go.Proofs.Tryz.prog 380 2 = true := by kernel_rfl
theorem f381_ok : compF Go.Proofs.Tryz.prog 0 [0, 1, 2, 4] 381 = some f381 := by kernel_rfl
theorem f381_n : argsOK Go.Proofs.Tryz.prog 381 2 = true := by kernel_rfl
theorem f384_ok : compF Go.Proofs.Tryz.prog 0 [0, 1, 2, 4, 5] 384 = some f384 := by kernel_rfl
theorem f384_n : argsOK Go.Proofs.Tryz.prog 384 3 = true := by kernel_rfl
theorem f385_ok : compF Go.Proofs.Tryz.prog 0 [0, 1, 2, 4, 5] 385 = some f385 := by kernel_rfl
theorem f385_n : argsOK Go.Proofs.Tryz.prog 385 3 = true := by kernel_rfl
theorem f387_ok : compF Go.Proofs.Tryz.prog 0 [0, 1, 4] 387 = some f387 := by kernel_rfl
theorem f387_n : argsOK Go.Proofs.Tryz.prog 387 2 = true := by kernel_rfl
theorem f388_ok : compF Go.Proofs.Tryz.prog 0 [0, 2] 388 = some f388 := by kernel_rfl
theorem f388_n : argsOK Go.Proofs.Tryz.prog 388 1 = true := by kernel_rfl
theorem f389_ok : compF Go.Proofs.Tryz.prog 0 [0, 1, 2, 3, 5, 6] 389 = some f389 := by kernel_rfl
theorem f389_n : argsOK Go.Proofs.Tryz.prog 389 4 = true := by kernel_rfl
theorem f390_ok : compF Go.Proofs.Tryz.prog 0 [0, 1, 4] 390 = some f390 := by kernel_rfl
theorem f390_n : argsOK Go.Proofs.Tryz.prog 390 2 = true := by kernel_rfl
theorem f392_ok : compF Go.Proofs.Tryz.prog 0 [0, 1, 2] 392 = some f392 := by kernel_rfl
theorem f392_n : argsOK Go.Proofs.Tryz.prog 392 1 = true := by kernel_rfl
theorem f393_ok : compF Go.Proofs.Tryz.prog 0 [0, 1, 2] 393 = some f393 := by kernel_rfl
theorem f393_n : argsOK Go.Proofs.Tryz.prog 393 1 = true := by kernel_rfl
theorem f395_ok : compF Go.Proofs.Tryz.prog 0 [0, 1, 2] 395 = some f395 := by kernel_rfl
theorem f395_n : argsOK Go.Proofs.Tryz.prog 395 1 = true := by kernel_rfl
theorem f397_ok : compF Go.Proofs.Tryz.prog 0 [0, 2] 397 = some f397 := by kernel_rfl
theorem f397_n : argsOK Go.Proofs.Tryz.prog 397 1 = true := by kernel_rfl
theorem f398_ok : compF Go.Proofs.Tryz.prog 0 [0, 1, 2] 398 = some f398 := by kernel_rfl
theorem f398_n : argsOK Go.Proofs.Tryz.prog 398 1 = true := by kernel_rfl
theorem f400_ok : compF Go.Proofs.Tryz.prog 0 [0, 1, 3, 4, 5, 15] 400 = some f400 := by kernel_rfl
theorem f400_n : argsOK Go.Proofs.Tryz.prog 400 2 = true := by kernel_rfl
end Go.AM.F
