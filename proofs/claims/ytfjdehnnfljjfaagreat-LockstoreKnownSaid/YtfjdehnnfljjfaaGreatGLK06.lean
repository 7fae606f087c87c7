/- Part of the proof. -/
import Derived.Test.YtfjdehnnfljjfaaGreatGLK05
set_option linter.unusedSimpArgs false
set_option linter.unusedVariables false
set_option maxRecDepth 100000
set_option maxHeartbeats 0
namespace Go.AM.F
def Z72N : List Value := [(.int .u8 0), (.int .u64 0), (.int .u64 0), (.int .u64 0)] ++ List.replicate 64 (.int .u8 0) ++ [(.int .u32 0), (.int .i64 0), (.int .i64 0), (.slice none 0 0)]
def Z68N : List Value := [(.int .u64 0), (.int .u64 0), (.int .u64 0)] ++ List.replicate 64 (.int .u8 0) ++ [(.int .u32 0)]
def Z1224N : List Value := [(.int .u8 0), (.int .u64 0), (.int .u64 0), (.int .u64 0)] ++ List.replicate 64 (.int .u8 0) ++ [(.int .u32 0), (.int .i64 0), (.int .i64 0), (.slice none 0 0), (.int .u8 0), (.int .u64 0), (.int .u64 0), (.int .u64 0)] ++ List.replicate 64 (.int .u8 0) ++ [(.int .u32 0), (.int .i64 0), (.int .i64 0), (.slice none 0 0), (.int .u8 0), (.int .u64 0), (.int .u64 0), (.int .u64 0)] ++ List.replicate 64 (.int .u8 0) ++ [(.int .u32 0), (.int .i64 0), (.int .i64 0), (.slice none 0 0), (.int .u8 0), (.int .u64 0), (.int .u64 0), (.int .u64 0)] ++ List.replicate 64 (.int .u8 0) ++ [(.int .u32 0), (.int .i64 0), (.int .i64 0), (.slice none 0 0), (.int .u8 0), (.int .u64 0), (.int .u64 0), (.int .u64 0)] ++ List.replicate 64 (.int .u8 0) ++ [(.int .u32 0), (.int .i64 0), (.int .i64 0), (.slice none 0 0), (.int .u8 0), (.int .u64 0), (.int .u64 0), (.int .u64 0)] ++ List.replicate 64 (.int .u8 0) ++ [(.int .u32 0), (.int .i64 0), (.int .i64 0), (.slice none 0 0), (.int .u8 0), (.int .u64 0), (.int .u64 0), (.int .u64 0)] ++ List.replicate 64 (.int .u8 0) ++ [(.int .u32 0), (.int .i64 0), (.int .i64 0), (.slice none 0 0), (.int .u8 0), (.int .u64 0), (.int .u64 0), (.int .u64 0)] ++ List.replicate 64 (.int .u8 0) ++ [(.int .u32 0), (.int .i64 0), (.int .i64 0), (.slice none 0 0), (.int .u8 0), (.int .u64 0), (.int .u64 0), (.int .u64 0)] ++ List.replicate 64 (.int .u8 0) ++ [(.int .u32 0), (.int .i64 0), (.int .i64 0), (.slice none 0 0), (.int .u8 0), (.int .u64 0), (.int .u64 0), (.int .u64 0)] ++ List.replicate 64 (.int .u8 0) ++ [(.int .u32 0), (.int .i64 0), (.int .i64 0), (.slice none 0 0), (.int .u8 0), (.int .u64 0), (.int .u64 0), (.int .u64 0)] ++ List.replicate 64 (.int .u8 0) ++ [(.int .u32 0), (.int .i64 0), (.int .i64 0), (.slice none 0 0), (.int .u8 0), (.int .u64 0), (.int .u64 0), (.int .u64 0)] ++ List.replicate 64 (.int .u8 0) ++ [(.int .u32 0), (.int .i64 0), (.int .i64 0), (.slice none 0 0), (.int .u8 0), (.int .u64 0), (.int .u64 0), (.int .u64 0)] ++ List.replicate 64 (.int .u8 0) ++ [(.int .u32 0), (.int .i64 0), (.int .i64 0), (.slice none 0 0), (.int .u8 0), (.int .u64 0), (.int .u64 0), (.int .u64 0)] ++ List.replicate 64 (.int .u8 0) ++ [(.int .u32 0), (.int .i64 0), (.int .i64 0), (.slice none 0 0), (.int .u8 0), (.int .u64 0), (.int .u64 0), (.int .u64 0)] ++ List.replicate 64 (.int .u8 0) ++ [(.int .u32 0), (.int .i64 0), (.int .i64 0), (.slice none 0 0), (.int .u8 0), (.int .u64 0), (.int .u64 0), (.int .u64 0)] ++ List.replicate 64 (.int .u8 0) ++ [(.int .u32 0), (.int .i64 0), (.int .i64 0), (.slice none 0 0), (.int .u8 0), (.int .u64 0), (.int .u64 0), (.int .u64 0)] ++ List.replicate 64 (.int .u8 0) ++ [(.int .u32 0), (.int .i64 0), (.int .i64 0), (.slice none 0 0)]
def Z70N : List Value := [(.int .i64 0), (.int .i64 0), (.int .u64 0), (.int .u64 0), (.int .u64 0)] ++ List.replicate 64 (.int .u8 0) ++ [(.int .u32 0)]
def Z73N : List Value := [(.pointer none), (.int .i64 0), (.int .i64 0), (.int .u64 0), (.int .u64 0), (.int .u64 0)] ++ List.replicate 64 (.int .u8 0) ++ [(.int .u32 0), (.bool false), (.int .i64 0)]
def O68N : List Nat := List.replicate 68 1
def zclN : TypeId → List Value
 | 91 => Z72N
 | 89 => Z68N
 | 159 => [(.pointer none)]
 | 161 => [(.pointer none), .nilIface, (.int .i64 0)]
 | 162 => Z70N
 | 96 => Z73N
 | 94 => Z70N
 | _ => []
def zvlN : TypeId → Value
 | _ => undef
def zklN : TypeId → List Nat
 | 89 => O68N
 | _ => []
def zrlN : Nat → TypeId → List Value
 | 1, 5 => [(.int .u8 0)]
 | 17, 91 => Z1224N
 | 5, 3 => [(.int .i64 0), (.int .i64 0), (.int .i64 0), (.int .i64 0), (.int .i64 0)]
 | _, _ => []
noncomputable def f7 : AFunc := by
 refine (fun (_ : Cz zclN zvlN zklN zrlN Go.Proofs.Tryz.prog 0 [0, 1, 4, 5, 6, 7, 8, 9, 10, 11, 12, 19, 38, 72, 75, 96, 97, 109, 115, 138, 151] 7 ?a) => ?a) ?h
 case h =>
 intro zc zv zk zr hc hv hk hr
 conv => lhs; cbv; try simp only [hc, hv, hk, hr, zclN, zvlN, zklN, zrlN]
theorem f7_ok : compF Go.Proofs.Tryz.prog 0 [0, 1, 4, 5, 6, 7, 8, 9, 10, 11, 12, 19, 38, 72, 75, 96, 97, 109, 115, 138, 151] 7 = some f7 := by kernel_rfl
theorem f7_n : argsOK Go.Proofs.Tryz.prog 7 2 = true := by kernel_rfl
noncomputable def f8 : AFunc := by
 refine (fun (_ : Cz zclN zvlN zklN zrlN Go.Proofs.Tryz.prog 0 [0, 2, 3, 7, 8, 9, 10, 11, 13, 14, 15, 69] 8 ?a) => ?a) ?h
 case h =>
 intro zc zv zk zr hc hv hk hr
 conv => lhs; cbv; try simp only [hc, hv, hk, hr, zclN, zvlN, zklN, zrlN]
theorem f8_ok : compF Go.Proofs.Tryz.prog 0 [0, 2, 3, 7, 8, 9, 10, 11, 13, 14, 15, 69] 8 = some f8 := by kernel_rfl
theorem f8_n : argsOK Go.Proofs.Tryz.prog 8 0 = true := by kernel_rfl
noncomputable def f51 : AFunc := by
 refine (fun (_ : Cz zclN zvlN zklN zrlN Go.Proofs.Tryz.prog 0 [0, 2, 3, 4, 7, 11, 22] 51 ?a) => ?a) ?h
 case h =>
 intro zc zv zk zr hc hv hk hr
 conv => lhs; cbv; try simp only [hc, hv, hk, hr, zclN, zvlN, zklN, zrlN]
theorem f51_ok : compF Go.Proofs.Tryz.prog 0 [0, 2, 3, 4, 7, 11, 22] 51 = some f51 := by kernel_rfl
theorem f51_n : argsOK Go.Proofs.Tryz.prog 51 1 = true := by kernel_rfl
noncomputable def f52 : AFunc := by
 refine (fun (_ : Cz zclN zvlN zklN zrlN Go.Proofs.Tryz.prog 0 [0, 1, 2, 3, 4, 5, 6, 7, 8, 9, 10, 11, 12, 20] 52 ?a) => ?a) ?h
 case h =>
 intro zc zv zk zr hc hv hk hr
 conv => lhs; cbv; try simp only [hc, hv, hk, hr, zclN, zvlN, zklN, zrlN]
theorem f52_ok : compF Go.Proofs.Tryz.prog 0 [0, 1, 2, 3, 4, 5, 6, 7, 8, 9, 10, 11, 12, 20] 52 = some f52 := by kernel_rfl
theorem f52_n : argsOK Go.Proofs.Tryz.prog 52 0 = true := by kernel_rfl
noncomputable def f53 : AFunc := by
 refine (fun (_ : Cz zclN zvlN zklN zrlN Go.Proofs.Tryz.prog 0 [0, 2, 3, 4, 5, 6, 7, 9, 10, 11, 18, 30, 37] 53 ?a) => ?a) ?h
 case h =>
 intro zc zv zk zr hc hv hk hr
 conv => lhs; cbv; try simp only [hc, hv, hk, hr, zclN, zvlN, zklN, zrlN]
theorem f53_ok : compF Go.Proofs.Tryz.prog 0 [0, 2, 3, 4, 5, 6, 7, 9, 10, 11, 18, 30, 37] 53 = some f53 := by kernel_rfl
theorem f53_n : argsOK Go.Proofs.Tryz.prog 53 1 = true := by kernel_rfl
noncomputable def f54 : AFunc := by
 refine (fun (_ : Cz zclN zvlN zklN zrlN Go.Proofs.Tryz.prog 0 [0, 2, 3, 4, 5, 6, 7, 8, 9, 10, 17, 28, 37] 54 ?a) => ?a) ?h
 case h =>
 intro zc zv zk zr hc hv hk hr
 conv => lhs; cbv; try simp only [hc, hv, hk, hr, zclN, zvlN, zklN, zrlN]
theorem f54_ok : compF Go.Proofs.Tryz.prog 0 [0, 2, 3, 4, 5, 6, 7, 8, 9, 10, 17, 28, 37] 54 = some f54 := by kernel_rfl
theorem f54_n : argsOK Go.Proofs.Tryz.prog 54 1 = true := by kernel_rfl
noncomputable def f55 : AFunc := by
 refine (fun (_ : Cz zclN zvlN zklN zrlN Go.Proofs.Tryz.prog 0 [0, 1, 4, 5, 6, 7, 8, 9, 35, 42, 65] 55 ?a) => ?a) ?h
 case h =>
 intro zc zv zk zr hc hv hk hr
 conv => lhs; cbv; try simp only [hc, hv, hk, hr, zclN, zvlN, zklN, zrlN]
theorem f55_ok : compF Go.Proofs.Tryz.prog 0 [0, 1, 4, 5, 6, 7, 8, 9, 35, 42, 65] 55 = some f55 := by kernel_rfl
theorem f55_n : argsOK Go.Proofs.Tryz.prog 55 2 = true := by kernel_rfl
noncomputable def f56 : AFunc := by
 refine (fun (_ : Cz zclN zvlN zklN zrlN Go.Proofs.Tryz.prog 0 [0, 1, 2, 5, 6, 7, 8, 9, 10, 59] 56 ?a) => ?a) ?h
 case h =>
 intro zc zv zk zr hc hv hk hr
 conv => lhs; cbv; try simp only [hc, hv, hk, hr, zclN, zvlN, zklN, zrlN]
theorem f56_ok : compF Go.Proofs.Tryz.prog 0 [0, 1, 2, 5, 6, 7, 8, 9, 10, 59] 56 = some f56 := by kernel_rfl
theorem f56_n : argsOK Go.Proofs.Tryz.prog 56 3 = true := by kernel_rfl
end Go.AM.F
