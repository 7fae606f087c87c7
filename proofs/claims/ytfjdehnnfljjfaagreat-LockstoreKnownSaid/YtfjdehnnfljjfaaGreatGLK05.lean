/- Part of the proof. -/
import Derived.Test.YtfjdehnnfljjfaaGreatGLK04
set_option linter.unusedSimpArgs false
set_option linter.unusedVariables false
set_option maxRecDepth 100000
set_option maxHeartbeats 0
namespace Go.AM.F
def Z256I : List Value := List.replicate 256 (.int .u8 0)
def Z257I : List Value := [(.int .i64 0)] ++ List.replicate 256 (.int .u8 0)
def zclI : TypeId → List Value
 | 40 => [(.int .u8 0), (.slice none 0 0), (.int .i64 0), (.slice none 0 0)]
 | 139 => Z256I
 | 141 => Z257I
 | 114 => [(.int .i64 0), (.int .i64 0)]
 | 124 => [(.int .i64 0), (.slice none 0 0)]
 | _ => []
def zvlI : TypeId → Value
 | 124 => (.agg #[(.int .i64 0), (.slice none 0 0)])
 | _ => undef
def zklI : TypeId → List Nat
 | _ => []
def zrlI : Nat → TypeId → List Value
 | 1, 9 => [(.string ByteArray.empty)]
 | 1, 5 => [(.int .u8 0)]
 | _, _ => []
noncomputable def f64 : AFunc := by
 refine (fun (_ : Cz zclI zvlI zklI zrlI Go.Proofs.Tryz.prog 0 [0, 2, 3, 9] 64 ?a) => ?a) ?h
 case h =>
 intro zc zv zk zr hc hv hk hr
 conv => lhs; cbv; try simp only [hc, hv, hk, hr, zclI, zvlI, zklI, zrlI]
theorem f64_ok : compF Go.Proofs.Tryz.prog 0 [0, 2, 3, 9] 64 = some f64 := by kernel_rfl
theorem f64_n : argsOK Go.Proofs.Tryz.prog 64 1 = true := by kernel_rfl
noncomputable def f65 : AFunc := by
 refine (fun (_ : Cz zclI zvlI zklI zrlI Go.Proofs.Tryz.prog 0 [0, 2, 4] 65 ?a) => ?a) ?h
 case h =>
 intro zc zv zk zr hc hv hk hr
 conv => lhs; cbv; try simp only [hc, hv, hk, hr, zclI, zvlI, zklI, zrlI]
theorem f65_ok : compF Go.Proofs.Tryz.prog 0 [0, 2, 4] 65 = some f65 := by kernel_rfl
theorem f65_n : argsOK Go.Proofs.Tryz.prog 65 1 = true := by kernel_rfl
noncomputable def f66 : AFunc := by
 refine (fun (_ : Cz zclI zvlI zklI zrlI Go.Proofs.Tryz.prog 0 [0, 2] 66 ?a) => ?a) ?h
 case h =>
 intro zc zv zk zr hc hv hk hr
 conv => lhs; cbv; try simp only [hc, hv, hk, hr, zclI, zvlI, zklI, zrlI]
theorem f66_ok : compF Go.Proofs.Tryz.prog 0 [0, 2] 66 = some f66 := by kernel_rfl
theorem f66_n : argsOK Go.Proofs.Tryz.prog 66 1 = true := by kernel_rfl
noncomputable def f67 : AFunc := by
 refine (fun (_ : Cz zclI zvlI zklI zrlI Go.Proofs.Tryz.prog 0 [0, 1, 3, 4, 5, 6, 7, 9, 14, 27, 28, 29, 33] 67 ?a) => ?a) ?h
 case h =>
 intro zc zv zk zr hc hv hk hr
 have e0A := (rfl : rfA Go.Proofs.Tryz.prog 67 0 = rfA Go.Proofs.Tryz.prog 67 0); conv at e0A => rhs; cbv
 have e0B := (rfl : rfB Go.Proofs.Tryz.prog 67 0 = rfB Go.Proofs.Tryz.prog 67 0); conv at e0B => rhs; cbv
 conv => lhs; cbv; try simp only [hc, hv, hk, hr, zclI, zvlI, zklI, zrlI]; simp only [← e0A, ← e0B]
theorem f67_ok : compF Go.Proofs.Tryz.prog 0 [0, 1, 3, 4, 5, 6, 7, 9, 14, 27, 28, 29, 33] 67 = some f67 := by kernel_rfl
theorem f67_n : argsOK Go.Proofs.Tryz.prog 67 2 = true := by kernel_rfl
noncomputable def f67r0a : ACode := by
 refine (fun (_ : CzC zclI zvlI zklI zrlI Go.Proofs.Tryz.prog 0 37 [0, 1, 3, 4, 5, 6, 7, 9, 14, 27, 28, 29, 33] (rfA Go.Proofs.Tryz.prog 67 0) ?a) => ?a) ?h
 case h => intro zc zv zk zr hc hv hk hr; conv => lhs; cbv; try simp only [hc, hv, hk, hr, zclI, zvlI, zklI, zrlI]
theorem f67r0a_ok : compC Go.Proofs.Tryz.prog 0 37 [0, 1, 3, 4, 5, 6, 7, 9, 14, 27, 28, 29, 33] (rfA Go.Proofs.Tryz.prog 67 0) = some f67r0a := by kernel_rfl
noncomputable def f67r0b : ACode := by
 refine (fun (_ : CzC zclI zvlI zklI zrlI Go.Proofs.Tryz.prog 0 37 [0, 1, 3, 4, 5, 6, 7, 9, 14, 27, 28, 29, 33] (rfB Go.Proofs.Tryz.prog 67 0) ?a) => ?a) ?h
 case h => intro zc zv zk zr hc hv hk hr; conv => lhs; cbv; try simp only [hc, hv, hk, hr, zclI, zvlI, zklI, zrlI]
theorem f67r0b_ok : compC Go.Proofs.Tryz.prog 0 37 [0, 1, 3, 4, 5, 6, 7, 9, 14, 27, 28, 29, 33] (rfB Go.Proofs.Tryz.prog 67 0) = some f67r0b := by kernel_rfl
theorem f67r0_n : (noRF (rfA Go.Proofs.Tryz.prog 67 0) && noRF (rfB Go.Proofs.Tryz.prog 67 0)) = true := by kernel_rfl
noncomputable def f68 : AFunc := by
 refine (fun (_ : Cz zclI zvlI zklI zrlI Go.Proofs.Tryz.prog 0 [0, 1, 4, 5, 6, 9, 15, 25] 68 ?a) => ?a) ?h
 case h =>
 intro zc zv zk zr hc hv hk hr
 conv => lhs; cbv; try simp only [hc, hv, hk, hr, zclI, zvlI, zklI, zrlI]
theorem f68_ok : compF Go.Proofs.Tryz.prog 0 [0, 1, 4, 5, 6, 9, 15, 25] 68 = some f68 := by kernel_rfl
theorem f68_n : argsOK Go.Proofs.Tryz.prog 68 2 = true := by kernel_rfl
noncomputable def f69 : AFunc := by
 refine (fun (_ : Cz zclI zvlI zklI zrlI Go.Proofs.Tryz.prog 0 [0, 2, 3, 4, 5, 6, 7, 11, 12, 30, 33, 49, 61] 69 ?a) => ?a) ?h
 case h =>
 intro zc zv zk zr hc hv hk hr
 conv => lhs; cbv; try simp only [hc, hv, hk, hr, zclI, zvlI, zklI, zrlI]
theorem f69_ok : compF Go.Proofs.Tryz.prog 0 [0, 2, 3, 4, 5, 6, 7, 11, 12, 30, 33, 49, 61] 69 = some f69 := by kernel_rfl
theorem f69_n : argsOK Go.Proofs.Tryz.prog 69 1 = true := by kernel_rfl
noncomputable def f70 : AFunc := by
 refine (fun (_ : Cz zclI zvlI zklI zrlI Go.Proofs.Tryz.prog 0 [0, 1, 2, 6, 22] 70 ?a) => ?a) ?h
 case h =>
 intro zc zv zk zr hc hv hk hr
 conv => lhs; cbv; try simp only [hc, hv, hk, hr, zclI, zvlI, zklI, zrlI]
theorem f70_ok : compF Go.Proofs.Tryz.prog 0 [0, 1, 2, 6, 22] 70 = some f70 := by kernel_rfl
theorem f70_n : argsOK Go.Proofs.Tryz.prog 70 3 = true := by kernel_rfl
noncomputable def f71 : AFunc := by
 refine (fun (_ : Cz zclI zvlI zklI zrlI Go.Proofs.Tryz.prog 0 [0, 1, 4, 5, 6, 8, 9] 71 ?a) => ?a) ?h
 case h =>
 intro zc zv zk zr hc hv hk hr
 conv => lhs; cbv; try simp only [hc, hv, hk, hr, zclI, zvlI, zklI, zrlI]
theorem f71_ok : compF Go.Proofs.Tryz.prog 0 [0, 1, 4, 5, 6, 8, 9] 71 = some f71 := by kernel_rfl
theorem f71_n : argsOK Go.Proofs.Tryz.prog 71 2 = true := by kernel_rfl
noncomputable def f72 : AFunc := by
 refine (fun (_ : Cz zclI zvlI zklI zrlI Go.Proofs.Tryz.prog 0 [0, 1, 4, 5, 6, 8, 9, 10, 25] 72 ?a) => ?a) ?h
 case h =>
 intro zc zv zk zr hc hv hk hr
 conv => lhs; cbv; try simp only [hc, hv, hk, hr, zclI, zvlI, zklI, zrlI]
theorem f72_ok : compF Go.Proofs.Tryz.prog 0 [0, 1, 4, 5, 6, 8, 9, 10, 25] 72 = some f72 := by kernel_rfl
theorem f72_n : argsOK Go.Proofs.Tryz.prog 72 2 = true := by kernel_rfl
end Go.AM.F

set_option maxRecDepth 100000
set_option maxHeartbeats 0
namespace Go.AM.F
def zclJ : TypeId → List Value
 | _ => []
def zvlJ : TypeId → Value
 | _ => undef
def zklJ : TypeId → List Nat
 | _ => []
def zrlJ : Nat → TypeId → List Value
 | 0, 9 => []
 | 1, 9 => [(.string ByteArray.empty)]
 | _, _ => []
noncomputable def f73 : AFunc := by
 refine (fun (_ : Cz zclJ zvlJ zklJ zrlJ Go.Proofs.Tryz.prog 0 [0, 1, 4, 5, 6, 7, 12, 21, 33] 73 ?a) => ?a) ?h
 case h =>
 intro zc zv zk zr hc hv hk hr
 conv => lhs; cbv; try simp only [hc, hv, hk, hr, zclJ, zvlJ, zklJ, zrlJ]
theorem f73_ok : compF Go.Proofs.Tryz.prog 0 [0, 1, 4, 5, 6, 7, 12, 21, 33] 73 = some f73 := by kernel_rfl
theorem f73_n : argsOK Go.Proofs.Tryz.prog 73 2 = true := by kernel_rfl
noncomputable def f74 : AFunc := by
 refine (fun (_ : Cz zclJ zvlJ zklJ zrlJ Go.Proofs.Tryz.prog 0 [0, 2, 3, 4, 5, 22] 74 ?a) => ?a) ?h
 case h =>
 intro zc zv zk zr hc hv hk hr
 conv => lhs; cbv; try simp only [hc, hv, hk, hr, zclJ, zvlJ, zklJ, zrlJ]
theorem f74_ok : compF Go.Proofs.Tryz.prog 0 [0, 2, 3, 4, 5, 22] 74 = some f74 := by kernel_rfl
theorem f74_n : argsOK Go.Proofs.Tryz.prog 74 1 = true := by kernel_rfl
noncomputable def f75 : AFunc := by
 refine (fun (_ : Cz zclJ zvlJ zklJ zrlJ Go.Proofs.Tryz.prog 0 [0, 2, 3, 7, 13] 75 ?a) => ?a) ?h
 case h =>
 intro zc zv zk zr hc hv hk hr
 conv => lhs; cbv; try simp only [hc, hv, hk, hr, zclJ, zvlJ, zklJ, zrlJ]
theorem f75_ok : compF Go.Proofs.Tryz.prog 0 [0, 2, 3, 7, 13] 75 = some f75 := by kernel_rfl
theorem f75_n : argsOK Go.Proofs.Tryz.prog 75 1 = true := by kernel_rfl
noncomputable def f76 : AFunc := by
 refine (fun (_ : Cz zclJ zvlJ zklJ zrlJ Go.Proofs.Tryz.prog 0 [0, 2, 3, 11, 18] 76 ?a) => ?a) ?h
 case h =>
 intro zc zv zk zr hc hv hk hr
 conv => lhs; cbv; try simp only [hc, hv, hk, hr, zclJ, zvlJ, zklJ, zrlJ]
theorem f76_ok : compF Go.Proofs.Tryz.prog 0 [0, 2, 3, 11, 18] 76 = some f76 := by kernel_rfl
theorem f76_n : argsOK Go.Proofs.Tryz.prog 76 1 = true := by kernel_rfl
noncomputable def f77 : AFunc := by
 refine (fun (_ : Cz zclJ zvlJ zklJ zrlJ Go.Proofs.Tryz.prog 0 [0, 2] 77 ?a) => ?a) ?h
 case h =>
 intro zc zv zk zr hc hv hk hr
 conv => lhs; cbv; try simp only [hc, hv, hk, hr, zclJ, zvlJ, zklJ, zrlJ]
theorem f77_ok : compF Go.Proofs.Tryz.prog 0 [0, 2] 77 = some f77 := by kernel_rfl
theorem f77_n : argsOK Go.Proofs.Tryz.prog 77 1 = true := by kernel_rfl
noncomputable def f78 : AFunc := by
 refine (fun (_ : Cz zclJ zvlJ zklJ zrlJ Go.Proofs.Tryz.prog 0 [0, 1, 4] 78 ?a) => ?a) ?h
 case h =>
 intro zc zv zk zr hc hv hk hr
 conv => lhs; cbv; try simp only [hc, hv, hk, hr, zclJ, zvlJ, zklJ, zrlJ]
theorem f78_ok : compF Go.Proofs.Tryz.prog 0 [0, 1, 4] 78 = some f78 := by kernel_rfl
theorem f78_n : argsOK Go.Proofs.Tryz.prog 78 2 = true := by kernel_rfl
noncomputable def f79 : AFunc := by
 refine (fun (_ : Cz zclJ zvlJ zklJ zrlJ Go.Proofs.Tryz.prog 0 [0, 2] 79 ?a) => ?a) ?h
 case h =>
 intro zc zv zk zr hc hv hk hr
 conv => lhs; cbv; try simp only [hc, hv, hk, hr, zclJ, zvlJ, zklJ, zrlJ]
theorem f79_ok : compF Go.Proofs.Tryz.prog 0 [0, 2] 79 = some f79 := by kernel_rfl
theorem f79_n : argsOK Go.Proofs.Tryz.prog 79 1 = true := by kernel_rfl
noncomputable def f80 : AFunc := by
 refine (fun (_ : Cz zclJ zvlJ zklJ zrlJ Go.Proofs.Tryz.prog 0 [0, 2, 3, 4, 5, 28] 80 ?a) => ?a) ?h
 case h =>
 intro zc zv zk zr hc hv hk hr
 conv => lhs; cbv; try simp only [hc, hv, hk, hr, zclJ, zvlJ, zklJ, zrlJ]
theorem f80_ok : compF Go.Proofs.Tryz.prog 0 [0, 2, 3, 4, 5, 28] 80 = some f80 := by kernel_rfl
theorem f80_n : argsOK Go.Proofs.Tryz.prog 80 1 = true := by kernel_rfl
noncomputable def f81 : AFunc := by
 refine (fun (_ : Cz zclJ zvlJ zklJ zrlJ Go.Proofs.Tryz.prog 0 [0, 2, 4] 81 ?a) => ?a) ?h
 case h =>
 intro zc zv zk zr hc hv hk hr
 conv => lhs; cbv; try simp only [hc, hv, hk, hr, zclJ, zvlJ, zklJ, zrlJ]
theorem f81_ok : compF Go.Proofs.Tryz.prog 0 [0, 2, 4] 81 = some f81 := by kernel_rfl
theorem f81_n : argsOK Go.Proofs.Tryz.prog 81 1 = true := by kernel_rfl
noncomputable def f82 : AFunc := by
 refine (fun (_ : Cz zclJ zvlJ zklJ zrlJ Go.Proofs.Tryz.prog 0 [0, 2, 4] 82 ?a) => ?a) ?h
 case h =>
 intro zc zv zk zr hc hv hk hr
 conv => lhs; cbv; try simp only [hc, hv, hk, hr, zclJ, zvlJ, zklJ, zrlJ]
theorem f82_ok : compF Go.Proofs.Tryz.prog 0 [0, 2, 4] 82 = some f82 := by kernel_rfl
theorem f82_n : argsOK Go.Proofs.Tryz.prog 82 1 = true := by kernel_rfl
noncomputable def f83 : AFunc := by
 refine (fun (_ : Cz zclJ zvlJ zklJ zrlJ Go.Proofs.Tryz.prog 0 [0, 1, 4, 5, 8, 13] 83 ?a) => ?a) ?h
 case h =>
 intro zc zv zk zr hc hv hk hr
 conv => lhs; cbv; try simp only [hc, hv, hk, hr, zclJ, zvlJ, zklJ, zrlJ]
theorem f83_ok : compF Go.Proofs.Tryz.prog 0 [0, 1, 4, 5, 8, 13] 83 = some f83 := by kernel_rfl
theorem f83_n : argsOK Go.Proofs.Tryz.prog 83 2 = true := by kernel_rfl
noncomputable def f84 : AFunc := by
 refine (fun (_ : Cz zclJ zvlJ zklJ zrlJ Go.Proofs.Tryz.prog 0 [0, 1, 4, 18, 24] 84 ?a) => ?a) ?h
 case h =>
 intro zc zv zk zr hc hv hk hr
 conv => lhs; cbv; try simp only [hc, hv, hk, hr, zclJ, zvlJ, zklJ, zrlJ]
theorem f84_ok : compF Go.Proofs.Tryz.prog 0 [0, 1, 4, 18, 24] 84 = some f84 := by kernel_rfl
theorem f84_n : argsOK Go.Proofs.Tryz.prog 84 2 = true := by kernel_rfl
noncomputable def f85 : AFunc := by
 refine (fun (_ : Cz zclJ zvlJ zklJ zrlJ Go.Proofs.Tryz.prog 0 [] 85 ?a) => ?a) ?h
 case h =>
 intro zc zv zk zr hc hv hk hr
 conv => lhs; cbv; try simp only [hc, hv, hk, hr, zclJ, zvlJ, zklJ, zrlJ]
theorem f85_ok : compF Go.Proofs.Tryz.prog 0 [] 85 = some f85 := by kernel_rfl
theorem f85_n : argsOK Go.Proofs.Tryz.prog 85 0 = true := by kernel_rfl
noncomputable def f86 : AFunc := by
 refine (fun (_ : Cz zclJ zvlJ zklJ zrlJ Go.Proofs.Tryz.prog 0 [0, 1, 4, 8, 19] 86 ?a) => ?a) ?h
 case h =>
 intro zc zv zk zr hc hv hk hr
 conv => lhs; cbv; try simp only [hc, hv, hk, hr, zclJ, zvlJ, zklJ, zrlJ]
theorem f86_ok : compF Go.Proofs.Tryz.prog 0 [0, 1, 4, 8, 19] 86 = some f86 := by kernel_rfl
theorem f86_n : argsOK Go.Proofs.Tryz.prog 86 2 = true := by kernel_rfl
noncomputable def f87 : AFunc := by
 refine (fun (_ : Cz zclJ zvlJ zklJ zrlJ Go.Proofs.Tryz.prog 0 [0, 2, 14, 19] 87 ?a) => ?a) ?h
 case h =>
 intro zc zv zk zr hc hv hk hr
 conv => lhs; cbv; try simp only [hc, hv, hk, hr, zclJ, zvlJ, zklJ, zrlJ]
theorem f87_ok : compF Go.Proofs.Tryz.prog 0 [0, 2, 14, 19] 87 = some f87 := by kernel_rfl
theorem f87_n : argsOK Go.Proofs.Tryz.prog 87 1 = true := by kernel_rfl
noncomputable def f89 : AFunc := by
 refine (fun (_ : Cz zclJ zvlJ zklJ zrlJ Go.Proofs.Tryz.prog 0 [0, 1, 4, 5, 10, 26, 43] 89 ?a) => ?a) ?h
 case h =>
 intro zc zv zk zr hc hv hk hr
 conv => lhs; cbv; try simp only [hc, hv, hk, hr, zclJ, zvlJ, zklJ, zrlJ]
theorem f89_ok : compF Go.Proofs.Tryz.prog 0 [0, 1, 4, 5, 10, 26, 43] 89 = some f89 := by kernel_rfl
theorem f89_n : argsOK Go.Proofs.Tryz.prog 89 2 = true := by kernel_rfl
noncomputable def f90 : AFunc := by
 refine (fun (_ : Cz zclJ zvlJ zklJ zrlJ Go.Proofs.Tryz.prog 0 [0, 1, 4, 5, 10, 17, 25, 37] 90 ?a) => ?a) ?h
 case h =>
 intro zc zv zk zr hc hv hk hr
 conv => lhs; cbv; try simp only [hc, hv, hk, hr, zclJ, zvlJ, zklJ, zrlJ]
theorem f90_ok : compF Go.Proofs.Tryz.prog 0 [0, 1, 4, 5, 10, 17, 25, 37] 90 = some f90 := by kernel_rfl
theorem f90_n : argsOK Go.Proofs.Tryz.prog 90 2 = true := by kernel_rfl
end Go.AM.F

set_option maxRecDepth 100000
set_option maxHeartbeats 0
namespace Go.AM.F
def Z257K : List Value := [(.int .i64 0)] ++ List.replicate 256 (.int .u8 0)
def zclK : TypeId → List Value
 | 210 => [(.slice none 0 0)]
 | 114 => [(.int .i64 0), (.int .i64 0)]
 | 124 => [(.int .i64 0), (.slice none 0 0)]
 | 5 => [(.int .u8 0)]
 | 141 => Z257K
 | _ => []
def zvlK : TypeId → Value
 | 114 => (.agg #[(.int .i64 0), (.int .i64 0)])
 | 124 => (.agg #[(.int .i64 0), (.slice none 0 0)])
 | _ => undef
def zklK : TypeId → List Nat
 | _ => []
def zrlK : Nat → TypeId → List Value
 | 1, 5 => [(.int .u8 0)]
 | 3, 38 => [(.slice none 0 0), (.slice none 0 0), (.slice none 0 0)]
 | _, _ => []
noncomputable def f92 : AFunc := by
 refine (fun (_ : Cz zclK zvlK zklK zrlK Go.Proofs.Tryz.prog 0 [0, 1, 4] 92 ?a) => ?a) ?h
 case h =>
 intro zc zv zk zr hc hv hk hr
 conv => lhs; cbv; try simp only [hc, hv, hk, hr, zclK, zvlK, zklK, zrlK]
theorem f92_ok : compF Go.Proofs.Tryz.prog 0 [0, 1, 4] 92 = some f92 := by kernel_rfl
theorem f92_n : argsOK Go.Proofs.Tryz.prog 92 2 = true := by kernel_rfl
noncomputable def f94 : AFunc := by
 refine (fun (_ : Cz zclK zvlK zklK zrlK Go.Proofs.Tryz.prog 0 [0, 1, 4, 13] 94 ?a) => ?a) ?h
 case h =>
 intro zc zv zk zr hc hv hk hr
 conv => lhs; cbv; try simp only [hc, hv, hk, hr, zclK, zvlK, zklK, zrlK]
theorem f94_ok : compF Go.Proofs.Tryz.prog 0 [0, 1, 4, 13] 94 = some f94 := by kernel_rfl
theorem f94_n : argsOK Go.Proofs.Tryz.prog 94 2 = true := by kernel_rfl
noncomputable def f96 : AFunc := by
 refine (fun (_ : Cz zclK zvlK zklK zrlK Go.Proofs.Tryz.prog 0 [0, 2, 3, 6] 96 ?a) => ?a) ?h
 case h =>
 intro zc zv zk zr hc hv hk hr
 conv => lhs; cbv; try simp only [hc, hv, hk, hr, zclK, zvlK, zklK, zrlK]
theorem f96_ok : compF Go.Proofs.Tryz.prog 0 [0, 2, 3, 6] 96 = some f96 := by kernel_rfl
theorem f96_n : argsOK Go.Proofs.Tryz.prog 96 1 = true := by kernel_rfl
noncomputable def f110 : AFunc := by
 refine (fun (_ : Cz zclK zvlK zklK zrlK Go.Proofs.Tryz.prog 0 [0, 1, 2] 110 ?a) => ?a) ?h
 case h =>
 intro zc zv zk zr hc hv hk hr
 conv => lhs; cbv; try simp only [hc, hv, hk, hr, zclK, zvlK, zklK, zrlK]
theorem f110_ok : compF Go.Proofs.Tryz.prog 0 [0, 1, 2] 110 = some f110 := by kernel_rfl
theorem f110_n : argsOK Go.Proofs.Tryz.prog 110 1 = true := by kernel_rfl
noncomputable def f117 : AFunc := by
 refine (fun (_ : Cz zclK zvlK zklK zrlK Go.Proofs.Tryz.prog 0 [0, 2] 117 ?a) => ?a) ?h
 case h =>
 intro zc zv zk zr hc hv hk hr
 conv => lhs; cbv; try simp only [hc, hv, hk, hr, zclK, zvlK, zklK, zrlK]
theorem f117_ok : compF Go.Proofs.Tryz.prog 0 [0, 2] 117 = some f117 := by kernel_rfl
theorem f117_n : argsOK Go.Proofs.Tryz.prog 117 1 = true := by kernel_rfl
noncomputable def f120 : AFunc := by
 refine (fun (_ : Cz zclK zvlK zklK zrlK Go.Proofs.Tryz.prog 0 [0, 1, 4] 120 ?a) => ?a) ?h
 case h =>
 intro zc zv zk zr hc hv hk hr
 conv => lhs; cbv; try simp only [hc, hv, hk, hr, zclK, zvlK, zklK, zrlK]
theorem f120_ok : compF Go.Proofs.Tryz.prog 0 [0, 1, 4] 120 = some f120 := by kernel_rfl
theorem f120_n : argsOK Go.Proofs.Tryz.prog 120 2 = true := by kernel_rfl
noncomputable def f121 : AFunc := by
 refine (fun (_ : Cz zclK zvlK zklK zrlK Go.Proofs.Tryz.prog 0 [0, 2, 3, 4, 5, 6, 7, 8, 14] 121 ?a) => ?a) ?h
 case h =>
 intro zc zv zk zr hc hv hk hr
 conv => lhs; cbv; try simp only [hc, hv, hk, hr, zclK, zvlK, zklK, zrlK]
theorem f121_ok : compF Go.Proofs.Tryz.prog 0 [0, 2, 3, 4, 5, 6, 7, 8, 14] 121 = some f121 := by kernel_rfl
theorem f121_n : argsOK Go.Proofs.Tryz.prog 121 1 = true := by kernel_rfl
noncomputable def f122 : AFunc := by
 refine (fun (_ : Cz zclK zvlK zklK zrlK Go.Proofs.Tryz.prog 0 [0, 1, 4, 5, 18] 122 ?a) => ?a) ?h
 case h =>
 intro zc zv zk zr hc hv hk hr
 conv => lhs; cbv; try simp only [hc, hv, hk, hr, zclK, zvlK, zklK, zrlK]
theorem f122_ok : compF Go.Proofs.Tryz.prog 0 [0, 1, 4, 5, 18] 122 = some f122 := by kernel_rfl
theorem f122_n : argsOK Go.Proofs.Tryz.prog 122 2 = true := by kernel_rfl
noncomputable def f124 : AFunc := by
 refine (fun (_ : Cz zclK zvlK zklK zrlK Go.Proofs.Tryz.prog 0 [0, 1, 2, 6, 7, 16] 124 ?a) => ?a) ?h
 case h =>
 intro zc zv zk zr hc hv hk hr
 conv => lhs; cbv; try simp only [hc, hv, hk, hr, zclK, zvlK, zklK, zrlK]
theorem f124_ok : compF Go.Proofs.Tryz.prog 0 [0, 1, 2, 6, 7, 16] 124 = some f124 := by kernel_rfl
theorem f124_n : argsOK Go.Proofs.Tryz.prog 124 3 = true := by kernel_rfl
noncomputable def f126 : AFunc := by
 refine (fun (_ : Cz zclK zvlK zklK zrlK Go.Proofs.Tryz.prog 0 [0, 3, 7, 8, 9, 10] 126 ?a) => ?a) ?h
 case h =>
 intro zc zv zk zr hc hv hk hr
 conv => lhs; cbv; try simp only [hc, hv, hk, hr, zclK, zvlK, zklK, zrlK]
theorem f126_ok : compF Go.Proofs.Tryz.prog 0 [0, 3, 7, 8, 9, 10] 126 = some f126 := by kernel_rfl
theorem f126_n : argsOK Go.Proofs.Tryz.prog 126 1 = true := by kernel_rfl
noncomputable def f141 : AFunc := by
 refine (fun (_ : Cz zclK zvlK zklK zrlK Go.Proofs.Tryz.prog 0 [0, 1, 3, 8, 18] 141 ?a) => ?a) ?h
 case h =>
 intro zc zv zk zr hc hv hk hr
 conv => lhs; cbv; try simp only [hc, hv, hk, hr, zclK, zvlK, zklK, zrlK]
theorem f141_ok : compF Go.Proofs.Tryz.prog 0 [0, 1, 3, 8, 18] 141 = some f141 := by kernel_rfl
theorem f141_n : argsOK Go.Proofs.Tryz.prog 141 2 = true := by kernel_rfl
noncomputable def f156 : AFunc := by
 refine (fun (_ : Cz zclK zvlK zklK zrlK Go.Proofs.Tryz.prog 0 [0, 2, 3, 5, 6, 8, 9, 10, 11, 12, 20, 25, 26, 27, 28] 156 ?a) => ?a) ?h
 case h =>
 intro zc zv zk zr hc hv hk hr
 conv => lhs; cbv; try simp only [hc, hv, hk, hr, zclK, zvlK, zklK, zrlK]
theorem f156_ok : compF Go.Proofs.Tryz.prog 0 [0, 2, 3, 5, 6, 8, 9, 10, 11, 12, 20, 25, 26, 27, 28] 156 = some f156 := by kernel_rfl
theorem f156_n : argsOK Go.Proofs.Tryz.prog 156 1 = true := by kernel_rfl
noncomputable def f168 : AFunc := by
 refine (fun (_ : Cz zclK zvlK zklK zrlK Go.Proofs.Tryz.prog 0 [0, 1, 4, 6, 16] 168 ?a) => ?a) ?h
 case h =>
 intro zc zv zk zr hc hv hk hr
 conv => lhs; cbv; try simp only [hc, hv, hk, hr, zclK, zvlK, zklK, zrlK]
theorem f168_ok : compF Go.Proofs.Tryz.prog 0 [0, 1, 4, 6, 16] 168 = some f168 := by kernel_rfl
theorem f168_n : argsOK Go.Proofs.Tryz.prog 168 2 = true := by kernel_rfl
end Go.AM.F

set_option maxRecDepth 100000
set_option maxHeartbeats 0
namespace Go.AM.F
def Z76L : List Value := [(.int .u8 0), (.slice none 0 0), (.int .i64 0), (.slice none 0 0), (.int .u8 0), (.slice none 0 0), (.int .i64 0), (.slice none 0 0), (.int .u8 0), (.slice none 0 0), (.int .i64 0), (.slice none 0 0), (.int .u8 0), (.slice none 0 0), (.int .i64 0), (.slice none 0 0), (.int .u8 0), (.slice none 0 0), (.int .i64 0), (.slice none 0 0), (.int .u8 0), (.slice none 0 0), (.int .i64 0), (.slice none 0 0), (.int .u8 0), (.slice none 0 0), (.int .i64 0), (.slice none 0 0), (.int .u8 0), (.slice none 0 0), (.int .i64 0), (.slice none 0 0), (.int .u8 0), (.slice none 0 0), (.int .i64 0), (.slice none 0 0), (.int .u8 0), (.slice none 0 0), (.int .i64 0), (.slice none 0 0), (.int .u8 0), (.slice none 0 0), (.int .i64 0), (.slice none 0 0), (.int .u8 0), (.slice none 0 0), (.int .i64 0), (.slice none 0 0), (.int .u8 0), (.slice none 0 0), (.int .i64 0), (.slice none 0 0), (.int .u8 0), (.slice none 0 0), (.int .i64 0), (.slice none 0 0), (.int .u8 0), (.slice none 0 0), (.int .i64 0), (.slice none 0 0), (.int .u8 0), (.slice none 0 0), (.int .i64 0), (.slice none 0 0), (.int .u8 0), (.slice none 0 0), (.int .i64 0), (.slice none 0 0), (.int .u8 0), (.slice none 0 0), (.int .i64 0), (.slice none 0 0), (.int .u8 0), (.slice none 0 0), (.int .i64 0), (.slice none 0 0)]
def zclL : TypeId → List Value
 | 70 => [(.int .u8 0), (.slice none 0 0), (.int .i64 0), (.slice none 0 0)]
 | 5 => [(.int .u8 0)]
 | 152 => [(.pointer none)]
 | 154 => [(.pointer none)]
 | _ => []
def zvlL : TypeId → Value
 | _ => undef
def zklL : TypeId → List Nat
 | _ => []
def zrlL : Nat → TypeId → List Value
 | 1, 5 => [(.int .u8 0)]
 | 19, 70 => Z76L
 | 4, 3 => [(.int .i64 0), (.int .i64 0), (.int .i64 0), (.int .i64 0)]
 | _, _ => []
noncomputable def f5 : AFunc := by
 refine (fun (_ : Cz zclL zvlL zklL zrlL Go.Proofs.Tryz.prog 0 [0, 1, 4, 5, 6, 7, 8, 9, 10, 11, 12, 13, 14, 15, 16, 22, 41, 69, 76, 77, 89, 95, 119, 123, 128, 151, 155] 5 ?a) => ?a) ?h
 case h =>
 intro zc zv zk zr hc hv hk hr
 conv => lhs; cbv; try simp only [hc, hv, hk, hr, zclL, zvlL, zklL, zrlL]
noncomputable def f39 : AFunc := by
 refine (fun (_ : Cz zclL zvlL zklL zrlL Go.Proofs.Tryz.prog 0 [0, 2, 3, 4, 5, 12] 39 ?a) => ?a) ?h
 case h =>
 intro zc zv zk zr hc hv hk hr
 conv => lhs; cbv; try simp only [hc, hv, hk, hr, zclL, zvlL, zklL, zrlL]
theorem f39_ok : compF Go.Proofs.Tryz.prog 0 [0, 2, 3, 4, 5, 12] 39 = some f39 := by kernel_rfl
theorem f39_n : argsOK Go.Proofs.Tryz.prog 39 1 = true := by kernel_rfl
noncomputable def f40 : AFunc := by
 refine (fun (_ : Cz zclL zvlL zklL zrlL Go.Proofs.Tryz.prog 0 [0, 2, 3, 4, 5, 12] 40 ?a) => ?a) ?h
 case h =>
 intro zc zv zk zr hc hv hk hr
 conv => lhs; cbv; try simp only [hc, hv, hk, hr, zclL, zvlL, zklL, zrlL]
theorem f40_ok : compF Go.Proofs.Tryz.prog 0 [0, 2, 3, 4, 5, 12] 40 = some f40 := by kernel_rfl
theorem f40_n : argsOK Go.Proofs.Tryz.prog 40 1 = true := by kernel_rfl
end Go.AM.F

set_option maxRecDepth 100000
set_option maxHeartbeats 0
namespace Go.AM.F
def zclM : TypeId → List Value
 | 70 => [(.int .u8 0), (.slice none 0 0), (.int .i64 0), (.slice none 0 0)]
 | _ => []
def zvlM : TypeId → Value
 | _ => undef
def zklM : TypeId → List Nat
 | _ => []
def zrlM : Nat → TypeId → List Value
 | _, _ => []
noncomputable def f43 : AFunc := by
 refine (fun (_ : Cz zclM zvlM zklM zrlM Go.Proofs.Tryz.prog 0 [0, 1, 2] 43 ?a) => ?a) ?h
 case h =>
 intro zc zv zk zr hc hv hk hr
 conv => lhs; cbv; try simp only [hc, hv, hk, hr, zclM, zvlM, zklM, zrlM]
theorem f43_ok : compF Go.Proofs.Tryz.prog 0 [0, 1, 2] 43 = some f43 := by kernel_rfl
theorem f43_n : argsOK Go.Proofs.Tryz.prog 43 1 = true := by kernel_rfl
noncomputable def f44 : AFunc := by
 refine (fun (_ : Cz zclM zvlM zklM zrlM Go.Proofs.Tryz.prog 0 [0, 2, 11] 44 ?a) => ?a) ?h
 case h =>
 intro zc zv zk zr hc hv hk hr
 conv => lhs; cbv; try simp only [hc, hv, hk, hr, zclM, zvlM, zklM, zrlM]
theorem f44_ok : compF Go.Proofs.Tryz.prog 0 [0, 2, 11] 44 = some f44 := by kernel_rfl
theorem f44_n : argsOK Go.Proofs.Tryz.prog 44 1 = true := by kernel_rfl
noncomputable def f45 : AFunc := by
 refine (fun (_ : Cz zclM zvlM zklM zrlM Go.Proofs.Tryz.prog 0 [0, 1, 2, 3, 4] 45 ?a) => ?a) ?h
 case h =>
 intro zc zv zk zr hc hv hk hr
 conv => lhs; cbv; try simp only [hc, hv, hk, hr, zclM, zvlM, zklM, zrlM]
theorem f45_ok : compF Go.Proofs.Tryz.prog 0 [0, 1, 2, 3, 4] 45 = some f45 := by kernel_rfl
theorem f45_n : argsOK Go.Proofs.Tryz.prog 45 2 = true := by kernel_rfl
noncomputable def f46 : AFunc := by
 refine (fun (_ : Cz zclM zvlM zklM zrlM Go.Proofs.Tryz.prog 0 [0, 1, 4, 5, 13, 23, 34, 47] 46 ?a) => ?a) ?h
 case h =>
 intro zc zv zk zr hc hv hk hr
 conv => lhs; cbv; try simp only [hc, hv, hk, hr, zclM, zvlM, zklM, zrlM]
theorem f46_ok : compF Go.Proofs.Tryz.prog 0 [0, 1, 4, 5, 13, 23, 34, 47] 46 = some f46 := by kernel_rfl
theorem f46_n : argsOK Go.Proofs.Tryz.prog 46 2 = true := by kernel_rfl
noncomputable def f47 : AFunc := by
 refine (fun (_ : Cz zclM zvlM zklM zrlM Go.Proofs.Tryz.prog 0 [0, 2, 3, 4, 5, 6, 13] 47 ?a) => ?a) ?h
 case h =>
 intro zc zv zk zr hc hv hk hr
 conv => lhs; cbv; try simp only [hc, hv, hk, hr, zclM, zvlM, zklM, zrlM]
theorem f47_ok : compF Go.Proofs.Tryz.prog 0 [0, 2, 3, 4, 5, 6, 13] 47 = some f47 := by kernel_rfl
theorem f47_n : argsOK Go.Proofs.Tryz.prog 47 1 = true := by kernel_rfl
noncomputable def f48 : AFunc := by
 refine (fun (_ : Cz zclM zvlM zklM zrlM Go.Proofs.Tryz.prog 0 [0, 1, 4, 5, 26] 48 ?a) => ?a) ?h
 case h =>
 intro zc zv zk zr hc hv hk hr
 conv => lhs; cbv; try simp only [hc, hv, hk, hr, zclM, zvlM, zklM, zrlM]
theorem f48_ok : compF Go.Proofs.Tryz.prog 0 [0, 1, 4, 5, 26] 48 = some f48 := by kernel_rfl
theorem f48_n : argsOK Go.Proofs.Tryz.prog 48 2 = true := by kernel_rfl
noncomputable def f49 : AFunc := by
 refine (fun (_ : Cz zclM zvlM zklM zrlM Go.Proofs.Tryz.prog 0 [0, 2, 4] 49 ?a) => ?a) ?h
 case h =>
 intro zc zv zk zr hc hv hk hr
 conv => lhs; cbv; try simp only [hc, hv, hk, hr, zclM, zvlM, zklM, zrlM]
theorem f49_ok : compF Go.Proofs.Tryz.prog 0 [0, 2, 4] 49 = some f49 := by kernel_rfl
theorem f49_n : argsOK Go.Proofs.Tryz.prog 49 1 = true := by kernel_rfl
noncomputable def f97 : AFunc := by
 refine (fun (_ : Cz zclM zvlM zklM zrlM Go.Proofs.Tryz.prog 0 [0, 1, 4, 5, 19] 97 ?a) => ?a) ?h
 case h =>
 intro zc zv zk zr hc hv hk hr
 conv => lhs; cbv; try simp only [hc, hv, hk, hr, zclM, zvlM, zklM, zrlM]
theorem f97_ok : compF Go.Proofs.Tryz.prog 0 [0, 1, 4, 5, 19] 97 = some f97 := by kernel_rfl
theorem f97_n : argsOK Go.Proofs.Tryz.prog 97 2 = true := by kernel_rfl
noncomputable def f98 : AFunc := by
 refine (fun (_ : Cz zclM zvlM zklM zrlM Go.Proofs.Tryz.prog 0 [0, 2] 98 ?a) => ?a) ?h
 case h =>
 intro zc zv zk zr hc hv hk hr
 conv => lhs; cbv; try simp only [hc, hv, hk, hr, zclM, zvlM, zklM, zrlM]
theorem f98_ok : compF Go.Proofs.Tryz.prog 0 [0, 2] 98 = some f98 := by kernel_rfl
theorem f98_n : argsOK Go.Proofs.Tryz.prog 98 1 = true := by kernel_rfl
noncomputable def f103 : AFunc := by
 refine (fun (_ : Cz zclM zvlM zklM zrlM Go.Proofs.Tryz.prog 0 [0, 2] 103 ?a) => ?a) ?h
 case h =>
 intro zc zv zk zr hc hv hk hr
 conv => lhs; cbv; try simp only [hc, hv, hk, hr, zclM, zvlM, zklM, zrlM]
theorem f103_ok : compF Go.Proofs.Tryz.prog 0 [0, 2] 103 = some f103 := by kernel_rfl
theorem f103_n : argsOK Go.Proofs.Tryz.prog 103 1 = true := by kernel_rfl
end Go.AM.F
