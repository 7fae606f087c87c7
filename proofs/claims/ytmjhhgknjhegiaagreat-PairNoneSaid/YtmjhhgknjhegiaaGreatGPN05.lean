/- Part of the proof. -/
import Derived.Test.YtmjhhgknjhegiaaGreatGPN04
set_option linter.unusedSimpArgs false
set_option linter.unusedVariables false
set_option maxRecDepth 100000
set_option maxHeartbeats 0
namespace Go.AM.F
def Z68J : List Value := [(.int .u64 0), (.int .u64 0), (.int .u64 0)] ++ List.replicate 64 (.int .u8 0) ++ [(.int .u32 0)]
def Z70J : List Value := [(.int .i64 0), (.int .i64 0), (.int .u64 0), (.int .u64 0), (.int .u64 0)] ++ List.replicate 64 (.int .u8 0) ++ [(.int .u32 0)]
def O68J : List Nat := List.replicate 68 1
def zclJ : TypeId → List Value
 | 34 => [(.int .i64 0), (.int .i64 0), (.int .u64 0), (.int .u32 0), (.int .u32 0), (.slice none 0 0), (.int .i64 0), (.int .i64 0), (.int .u64 0), (.int .u32 0), (.int .u32 0), (.slice none 0 0)]
 | 70 => [(.int .u64 0), (.int .u32 0), (.int .u32 0), (.slice none 0 0), (.int .u64 0), (.int .u32 0), (.int .u32 0), (.slice none 0 0)]
 | 26 => [(.int .u64 0), (.int .u32 0), (.int .u32 0), (.slice none 0 0)]
 | 60 => [(.slice none 0 0), (.slice none 0 0), (.slice none 0 0), (.slice none 0 0)]
 | 89 => [(.int .u8 0), (.int .i64 0)]
 | 41 => [(.int .i64 0), (.int .i64 0), (.int .u64 0), (.int .u32 0)]
 | 29 => Z68J
 | 103 => Z70J
 | 93 => [(.pointer none), (.pointer none), (.pointer none), (.int .i64 0), (.bool false)]
 | 286 => [(.slice none 0 0), (.slice none 0 0), (.int .u64 0), (.int .u32 0), (.int .u64 0)]
 | 137 => [(.string ByteArray.empty), (.int .i64 0), (.slice none 0 0), (.slice none 0 0), (.slice none 0 0), (.slice none 0 0)]
 | 328 => [(.int .u64 0), (.int .u64 0), (.int .u64 0), (.int .u32 0), (.int .u32 0), (.int .u64 0)]
 | 128 => [(.int .i64 0), (.bool false)]
 | 134 => [(.string ByteArray.empty), (.int .i64 0)]
 | 5 => [(.int .u8 0)]
 | 23 => [(.int .u32 0)]
 | _ => []
def zvlJ : TypeId → Value
 | 103 => (.agg Z70J.toArray)
 | _ => undef
def zklJ : TypeId → List Nat
 | 29 => O68J
 | 41 => [1, 1, 1, 1]
 | _ => []
def zrlJ : Nat → TypeId → List Value
 | 1, 89 => [(.int .u8 0), (.int .i64 0)]
 | 1, 328 => [(.int .u64 0), (.int .u64 0), (.int .u64 0), (.int .u32 0), (.int .u32 0), (.int .u64 0)]
 | 1, 22 => [(.int .u64 0)]
 | 1, 3 => [(.int .i64 0)]
 | _, _ => []
noncomputable def f6 : AFunc := by
 refine (fun (_ : Cz zclJ zvlJ zklJ zrlJ Go.Proofs.Tryz.prog 0 [0, 1, 2, 3, 6, 7, 8, 9, 10, 11, 12, 13, 14, 18, 25, 57, 58, 59, 77] 6 ?a) => ?a) ?h
 case h =>
 intro zc zv zk zr hc hv hk hr
 conv => lhs; cbv; try simp only [hc, hv, hk, hr, zclJ, zvlJ, zklJ, zrlJ]
theorem f6_ok : compF Go.Proofs.Tryz.prog 0 [0, 1, 2, 3, 6, 7, 8, 9, 10, 11, 12, 13, 14, 18, 25, 57, 58, 59, 77] 6 = some f6 := by kernel_rfl
theorem f6_n : argsOK Go.Proofs.Tryz.prog 6 4 = true := by kernel_rfl
noncomputable def f16 : AFunc := by
 refine (fun (_ : Cz zclJ zvlJ zklJ zrlJ Go.Proofs.Tryz.prog 0 [0, 1, 2, 3, 4, 6, 7, 8, 9, 10, 11, 12, 13, 14, 15, 18, 19, 21, 23, 24, 33] 16 ?a) => ?a) ?h
 case h =>
 intro zc zv zk zr hc hv hk hr
 conv => lhs; cbv; try simp only [hc, hv, hk, hr, zclJ, zvlJ, zklJ, zrlJ]
theorem f16_ok : compF Go.Proofs.Tryz.prog 0 [0, 1, 2, 3, 4, 6, 7, 8, 9, 10, 11, 12, 13, 14, 15, 18, 19, 21, 23, 24, 33] 16 = some f16 := by kernel_rfl
theorem f16_n : argsOK Go.Proofs.Tryz.prog 16 0 = true := by kernel_rfl
noncomputable def f27 : AFunc := by
 refine (fun (_ : Cz zclJ zvlJ zklJ zrlJ Go.Proofs.Tryz.prog 0 [0, 1, 2, 3, 5, 8, 9, 10, 11, 17, 20, 31, 39, 66] 27 ?a) => ?a) ?h
 case h =>
 intro zc zv zk zr hc hv hk hr
 conv => lhs; cbv; try simp only [hc, hv, hk, hr, zclJ, zvlJ, zklJ, zrlJ]
theorem f27_ok : compF Go.Proofs.Tryz.prog 0 [0, 1, 2, 3, 5, 8, 9, 10, 11, 17, 20, 31, 39, 66] 27 = some f27 := by kernel_rfl
theorem f27_n : argsOK Go.Proofs.Tryz.prog 27 4 = true := by kernel_rfl
noncomputable def f37 : AFunc := by
 refine (fun (_ : Cz zclJ zvlJ zklJ zrlJ Go.Proofs.Tryz.prog 0 [0, 1, 2, 5, 6, 7, 8, 9, 12, 19, 42, 63] 37 ?a) => ?a) ?h
 case h =>
 intro zc zv zk zr hc hv hk hr
 conv => lhs; cbv; try simp only [hc, hv, hk, hr, zclJ, zvlJ, zklJ, zrlJ]
theorem f37_ok : compF Go.Proofs.Tryz.prog 0 [0, 1, 2, 5, 6, 7, 8, 9, 12, 19, 42, 63] 37 = some f37 := by kernel_rfl
theorem f37_n : argsOK Go.Proofs.Tryz.prog 37 3 = true := by kernel_rfl
noncomputable def f47 : AFunc := by
 refine (fun (_ : Cz zclJ zvlJ zklJ zrlJ Go.Proofs.Tryz.prog 0 [0, 2, 3, 4, 5, 7] 47 ?a) => ?a) ?h
 case h =>
 intro zc zv zk zr hc hv hk hr
 conv => lhs; cbv; try simp only [hc, hv, hk, hr, zclJ, zvlJ, zklJ, zrlJ]
theorem f47_ok : compF Go.Proofs.Tryz.prog 0 [0, 2, 3, 4, 5, 7] 47 = some f47 := by kernel_rfl
theorem f47_n : argsOK Go.Proofs.Tryz.prog 47 1 = true := by kernel_rfl
noncomputable def f57 : AFunc := by
 refine (fun (_ : Cz zclJ zvlJ zklJ zrlJ Go.Proofs.Tryz.prog 0 [0, 1, 4] 57 ?a) => ?a) ?h
 case h =>
 intro zc zv zk zr hc hv hk hr
 conv => lhs; cbv; try simp only [hc, hv, hk, hr, zclJ, zvlJ, zklJ, zrlJ]
theorem f57_ok : compF Go.Proofs.Tryz.prog 0 [0, 1, 4] 57 = some f57 := by kernel_rfl
theorem f57_n : argsOK Go.Proofs.Tryz.prog 57 2 = true := by kernel_rfl
noncomputable def f70 : AFunc := by
 refine (fun (_ : Cz zclJ zvlJ zklJ zrlJ Go.Proofs.Tryz.prog 0 [0, 2] 70 ?a) => ?a) ?h
 case h =>
 intro zc zv zk zr hc hv hk hr
 conv => lhs; cbv; try simp only [hc, hv, hk, hr, zclJ, zvlJ, zklJ, zrlJ]
theorem f70_ok : compF Go.Proofs.Tryz.prog 0 [0, 2] 70 = some f70 := by kernel_rfl
theorem f70_n : argsOK Go.Proofs.Tryz.prog 70 1 = true := by kernel_rfl
noncomputable def f83 : AFunc := by
 refine (fun (_ : Cz zclJ zvlJ zklJ zrlJ Go.Proofs.Tryz.prog 0 [0, 2, 4] 83 ?a) => ?a) ?h
 case h =>
 intro zc zv zk zr hc hv hk hr
 conv => lhs; cbv; try simp only [hc, hv, hk, hr, zclJ, zvlJ, zklJ, zrlJ]
theorem f83_ok : compF Go.Proofs.Tryz.prog 0 [0, 2, 4] 83 = some f83 := by kernel_rfl
theorem f83_n : argsOK Go.Proofs.Tryz.prog 83 1 = true := by kernel_rfl
noncomputable def f95 : AFunc := by
 refine (fun (_ : Cz zclJ zvlJ zklJ zrlJ Go.Proofs.Tryz.prog 0 [0, 2, 4] 95 ?a) => ?a) ?h
 case h =>
 intro zc zv zk zr hc hv hk hr
 conv => lhs; cbv; try simp only [hc, hv, hk, hr, zclJ, zvlJ, zklJ, zrlJ]
theorem f95_ok : compF Go.Proofs.Tryz.prog 0 [0, 2, 4] 95 = some f95 := by kernel_rfl
theorem f95_n : argsOK Go.Proofs.Tryz.prog 95 1 = true := by kernel_rfl
noncomputable def f112 : AFunc := by
 refine (fun (_ : Cz zclJ zvlJ zklJ zrlJ Go.Proofs.Tryz.prog 0 [0, 2, 3, 5, 6, 8, 9, 10, 11, 12, 20, 25, 26, 27, 28] 112 ?a) => ?a) ?h
 case h =>
 intro zc zv zk zr hc hv hk hr
 conv => lhs; cbv; try simp only [hc, hv, hk, hr, zclJ, zvlJ, zklJ, zrlJ]
theorem f112_ok : compF Go.Proofs.Tryz.prog 0 [0, 2, 3, 5, 6, 8, 9, 10, 11, 12, 20, 25, 26, 27, 28] 112 = some f112 := by kernel_rfl
theorem f112_n : argsOK Go.Proofs.Tryz.prog 112 1 = true := by kernel_rfl
noncomputable def f126 : AFunc := by
 refine (fun (_ : Cz zclJ zvlJ zklJ zrlJ Go.Proofs.Tryz.prog 0 [0, 2] 126 ?a) => ?a) ?h
 case h =>
 intro zc zv zk zr hc hv hk hr
 conv => lhs; cbv; try simp only [hc, hv, hk, hr, zclJ, zvlJ, zklJ, zrlJ]
theorem f126_ok : compF Go.Proofs.Tryz.prog 0 [0, 2] 126 = some f126 := by kernel_rfl
theorem f126_n : argsOK Go.Proofs.Tryz.prog 126 1 = true := by kernel_rfl
noncomputable def f141 : AFunc := by
 refine (fun (_ : Cz zclJ zvlJ zklJ zrlJ Go.Proofs.Tryz.prog 0 [0, 1, 3, 4] 141 ?a) => ?a) ?h
 case h =>
 intro zc zv zk zr hc hv hk hr
 conv => lhs; cbv; try simp only [hc, hv, hk, hr, zclJ, zvlJ, zklJ, zrlJ]
theorem f141_ok : compF Go.Proofs.Tryz.prog 0 [0, 1, 3, 4] 141 = some f141 := by kernel_rfl
theorem f141_n : argsOK Go.Proofs.Tryz.prog 141 2 = true := by kernel_rfl
noncomputable def f158 : AFunc := by
 refine (fun (_ : Cz zclJ zvlJ zklJ zrlJ Go.Proofs.Tryz.prog 0 [0, 1, 2, 3, 4, 5, 6, 7, 8, 9, 11, 13, 20, 38, 39, 40, 41, 67, 68, 69, 70, 74, 98, 99, 100, 101] 158 ?a) => ?a) ?h
 case h =>
 intro zc zv zk zr hc hv hk hr
 conv => lhs; cbv; try simp only [hc, hv, hk, hr, zclJ, zvlJ, zklJ, zrlJ]
theorem f158_ok : compF Go.Proofs.Tryz.prog 0 [0, 1, 2, 3, 4, 5, 6, 7, 8, 9, 11, 13, 20, 38, 39, 40, 41, 67, 68, 69, 70, 74, 98, 99, 100, 101] 158 = some f158 := by kernel_rfl
theorem f158_n : argsOK Go.Proofs.Tryz.prog 158 1 = true := by kernel_rfl
noncomputable def f171 : AFunc := by
 refine (fun (_ : Cz zclJ zvlJ zklJ zrlJ Go.Proofs.Tryz.prog 0 [0, 1, 4, 5, 7, 8, 9, 16] 171 ?a) => ?a) ?h
 case h =>
 intro zc zv zk zr hc hv hk hr
 conv => lhs; cbv; try simp only [hc, hv, hk, hr, zclJ, zvlJ, zklJ, zrlJ]
theorem f171_ok : compF Go.Proofs.Tryz.prog 0 [0, 1, 4, 5, 7, 8, 9, 16] 171 = some f171 := by kernel_rfl
theorem f171_n : argsOK Go.Proofs.Tryz.prog 171 2 = true := by kernel_rfl
noncomputable def f190 : AFunc := by
 refine (fun (_ : Cz zclJ zvlJ zklJ zrlJ Go.Proofs.Tryz.prog 0 [0, 1, 4, 6, 16] 190 ?a) => ?a) ?h
 case h =>
 intro zc zv zk zr hc hv hk hr
 conv => lhs; cbv; try simp only [hc, hv, hk, hr, zclJ, zvlJ, zklJ, zrlJ]
theorem f190_ok : compF Go.Proofs.Tryz.prog 0 [0, 1, 4, 6, 16] 190 = some f190 := by kernel_rfl
theorem f190_n : argsOK Go.Proofs.Tryz.prog 190 2 = true := by kernel_rfl
noncomputable def f223 : AFunc := by
 refine (fun (_ : Cz zclJ zvlJ zklJ zrlJ Go.Proofs.Tryz.prog 0 [0, 1, 4, 5, 6, 34] 223 ?a) => ?a) ?h
 case h =>
 intro zc zv zk zr hc hv hk hr
 conv => lhs; cbv; try simp only [hc, hv, hk, hr, zclJ, zvlJ, zklJ, zrlJ]
theorem f223_ok : compF Go.Proofs.Tryz.prog 0 [0, 1, 4, 5, 6, 34] 223 = some f223 := by kernel_rfl
theorem f223_n : argsOK Go.Proofs.Tryz.prog 223 2 = true := by kernel_rfl
noncomputable def f237 : AFunc := by
 refine (fun (_ : Cz zclJ zvlJ zklJ zrlJ Go.Proofs.Tryz.prog 0 [0, 1, 3, 4, 5, 6, 8, 41, 42, 43, 52] 237 ?a) => ?a) ?h
 case h =>
 intro zc zv zk zr hc hv hk hr
 conv => lhs; cbv; try simp only [hc, hv, hk, hr, zclJ, zvlJ, zklJ, zrlJ]
theorem f237_ok : compF Go.Proofs.Tryz.prog 0 [0, 1, 3, 4, 5, 6, 8, 41, 42, 43, 52] 237 = some f237 := by kernel_rfl
theorem f237_n : argsOK Go.Proofs.Tryz.prog 237 2 = true := by kernel_rfl
noncomputable def f247 : AFunc := by
 refine (fun (_ : Cz zclJ zvlJ zklJ zrlJ Go.Proofs.Tryz.prog 0 [0, 1, 2, 3, 5, 6] 247 ?a) => ?a) ?h
 case h =>
 intro zc zv zk zr hc hv hk hr
 conv => lhs; cbv; try simp only [hc, hv, hk, hr, zclJ, zvlJ, zklJ, zrlJ]
theorem f247_ok : compF Go.Proofs.Tryz.prog 0 [0, 1, 2, 3, 5, 6] 247 = some f247 := by kernel_rfl
theorem f247_n : argsOK Go.Proofs.Tryz.prog 247 4 = true := by kernel_rfl
noncomputable def f257 : AFunc := by
 refine (fun (_ : Cz zclJ zvlJ zklJ zrlJ Go.Proofs.Tryz.prog 0 [0, 1, 2, 4, 5, 6, 7] 257 ?a) => ?a) ?h
 case h =>
 intro zc zv zk zr hc hv hk hr
 have e0A := (rfl : rfA Go.Proofs.Tryz.prog 257 0 = rfA Go.Proofs.Tryz.prog 257 0); conv at e0A => rhs; cbv
 have e0B := (rfl : rfB Go.Proofs.Tryz.prog 257 0 = rfB Go.Proofs.Tryz.prog 257 0); conv at e0B => rhs; cbv
 conv => lhs; cbv; try simp only [hc, hv, hk, hr, zclJ, zvlJ, zklJ, zrlJ]; simp only [← e0A, ← e0B]
theorem f257_ok : compF Go.Proofs.Tryz.prog 0 [0, 1, 2, 4, 5, 6, 7] 257 = some f257 := by kernel_rfl
theorem f257_n : argsOK Go.Proofs.Tryz.prog 257 2 = true := by kernel_rfl
noncomputable def f257r0a : ACode := by
 refine (fun (_ : CzC zclJ zvlJ zklJ zrlJ Go.Proofs.Tryz.prog 0 13 [0, 1, 2, 4, 5, 6, 7] (rfA Go.Proofs.Tryz.prog 257 0) ?a) => ?a) ?h
 case h => intro zc zv zk zr hc hv hk hr; conv => lhs; cbv; try simp only [hc, hv, hk, hr, zclJ, zvlJ, zklJ, zrlJ]
theorem f257r0a_ok : compC Go.Proofs.Tryz.prog 0 13 [0, 1, 2, 4, 5, 6, 7] (rfA Go.Proofs.Tryz.prog 257 0) = some f257r0a := by kernel_rfl
noncomputable def f257r0b : ACode := by
 refine (fun (_ : CzC zclJ zvlJ zklJ zrlJ Go.Proofs.Tryz.prog 0 13 [0, 1, 2, 4, 5, 6, 7] (rfB Go.Proofs.Tryz.prog 257 0) ?a) => ?a) ?h
 case h => intro zc zv zk zr hc hv hk hr; conv => lhs; cbv; try simp only [hc, hv, hk, hr, zclJ, zvlJ, zklJ, zrlJ]
theorem f257r0b_ok : compC Go.Proofs.Tryz.prog 0 13 [0, 1, 2, 4, 5, 6, 7] (rfB Go.Proofs.Tryz.prog 257 0) = some f257r0b := by kernel_rfl
theorem f257r0_n : (noRF (rfA Go.Proofs.Tryz.prog 257 0) && noRF (rfB Go.Proofs.Tryz.prog 257 0)) = true := by kernel_rfl
end Go.AM.F

set_option maxRecDepth 100000
set_option maxHeartbeats 0
namespace Go.AM.F
def Z79K : List Value := [(.int .i64 0), (.slice none 0 0), (.slice none 0 0), (.slice none 0 0), (.slice none 0 0), .nilIface, (.int .u64 0), (.int .u64 0), (.int .u64 0)] ++ List.replicate 64 (.int .u8 0) ++ [(.int .u32 0), (.int .i64 0), (.int .i64 0), (.pointer none), (.bool false), (.pointer none)]
def zclK : TypeId → List Value
 | 41 => [(.int .i64 0), (.int .i64 0), (.int .u64 0), (.int .u32 0)]
 | 93 => [(.pointer none), (.pointer none), (.pointer none), (.int .i64 0), (.bool false)]
 | 99 => Z79K
 | 26 => [(.int .u64 0), (.int .u32 0), (.int .u32 0), (.slice none 0 0)]
 | 3 => [(.int .i64 0)]
 | 123 => [(.int .i64 0), (.int .i64 0), (.slice none 0 0), (.slice none 0 0), (.slice none 0 0)]
 | 128 => [(.int .i64 0), (.bool false)]
 | _ => []
def zvlK : TypeId → Value
 | _ => undef
def zklK : TypeId → List Nat
 | _ => []
def zrlK : Nat → TypeId → List Value
 | _, _ => []
noncomputable def f7 : AFunc := by
 refine (fun (_ : Cz zclK zvlK zklK zrlK Go.Proofs.Tryz.prog 0 [0, 2, 3, 5] 7 ?a) => ?a) ?h
 case h =>
 intro zc zv zk zr hc hv hk hr
 conv => lhs; cbv; try simp only [hc, hv, hk, hr, zclK, zvlK, zklK, zrlK]
theorem f7_ok : compF Go.Proofs.Tryz.prog 0 [0, 2, 3, 5] 7 = some f7 := by kernel_rfl
theorem f7_n : argsOK Go.Proofs.Tryz.prog 7 1 = true := by kernel_rfl
noncomputable def f17 : AFunc := by
 refine (fun (_ : Cz zclK zvlK zklK zrlK Go.Proofs.Tryz.prog 0 [0, 3] 17 ?a) => ?a) ?h
 case h =>
 intro zc zv zk zr hc hv hk hr
 conv => lhs; cbv; try simp only [hc, hv, hk, hr, zclK, zvlK, zklK, zrlK]
theorem f17_ok : compF Go.Proofs.Tryz.prog 0 [0, 3] 17 = some f17 := by kernel_rfl
theorem f17_n : argsOK Go.Proofs.Tryz.prog 17 1 = true := by kernel_rfl
noncomputable def f28 : AFunc := by
 refine (fun (_ : Cz zclK zvlK zklK zrlK Go.Proofs.Tryz.prog 0 [0, 1, 2, 3, 5, 8, 9, 12] 28 ?a) => ?a) ?h
 case h =>
 intro zc zv zk zr hc hv hk hr
 conv => lhs; cbv; try simp only [hc, hv, hk, hr, zclK, zvlK, zklK, zrlK]
theorem f28_ok : compF Go.Proofs.Tryz.prog 0 [0, 1, 2, 3, 5, 8, 9, 12] 28 = some f28 := by kernel_rfl
theorem f28_n : argsOK Go.Proofs.Tryz.prog 28 4 = true := by kernel_rfl
noncomputable def f38 : AFunc := by
 refine (fun (_ : Cz zclK zvlK zklK zrlK Go.Proofs.Tryz.prog 0 [0, 1] 38 ?a) => ?a) ?h
 case h =>
 intro zc zv zk zr hc hv hk hr
 conv => lhs; cbv; try simp only [hc, hv, hk, hr, zclK, zvlK, zklK, zrlK]
theorem f38_ok : compF Go.Proofs.Tryz.prog 0 [0, 1] 38 = some f38 := by kernel_rfl
theorem f38_n : argsOK Go.Proofs.Tryz.prog 38 1 = true := by kernel_rfl
noncomputable def f48 : AFunc := by
 refine (fun (_ : Cz zclK zvlK zklK zrlK Go.Proofs.Tryz.prog 0 [0, 2, 3, 25] 48 ?a) => ?a) ?h
 case h =>
 intro zc zv zk zr hc hv hk hr
 conv => lhs; cbv; try simp only [hc, hv, hk, hr, zclK, zvlK, zklK, zrlK]
theorem f48_ok : compF Go.Proofs.Tryz.prog 0 [0, 2, 3, 25] 48 = some f48 := by kernel_rfl
theorem f48_n : argsOK Go.Proofs.Tryz.prog 48 1 = true := by kernel_rfl
noncomputable def f58 : AFunc := by
 refine (fun (_ : Cz zclK zvlK zklK zrlK Go.Proofs.Tryz.prog 0 [0, 1, 2, 3] 58 ?a) => ?a) ?h
 case h =>
 intro zc zv zk zr hc hv hk hr
 conv => lhs; cbv; try simp only [hc, hv, hk, hr, zclK, zvlK, zklK, zrlK]
theorem f58_ok : compF Go.Proofs.Tryz.prog 0 [0, 1, 2, 3] 58 = some f58 := by kernel_rfl
theorem f58_n : argsOK Go.Proofs.Tryz.prog 58 2 = true := by kernel_rfl
noncomputable def f71 : AFunc := by
 refine (fun (_ : Cz zclK zvlK zklK zrlK Go.Proofs.Tryz.prog 0 [0, 2, 4] 71 ?a) => ?a) ?h
 case h =>
 intro zc zv zk zr hc hv hk hr
 conv => lhs; cbv; try simp only [hc, hv, hk, hr, zclK, zvlK, zklK, zrlK]
theorem f71_ok : compF Go.Proofs.Tryz.prog 0 [0, 2, 4] 71 = some f71 := by kernel_rfl
theorem f71_n : argsOK Go.Proofs.Tryz.prog 71 1 = true := by kernel_rfl
noncomputable def f84 : AFunc := by
 refine (fun (_ : Cz zclK zvlK zklK zrlK Go.Proofs.Tryz.prog 0 [0, 1, 2, 3, 4, 7, 13] 84 ?a) => ?a) ?h
 case h =>
 intro zc zv zk zr hc hv hk hr
 conv => lhs; cbv; try simp only [hc, hv, hk, hr, zclK, zvlK, zklK, zrlK]
theorem f84_ok : compF Go.Proofs.Tryz.prog 0 [0, 1, 2, 3, 4, 7, 13] 84 = some f84 := by kernel_rfl
theorem f84_n : argsOK Go.Proofs.Tryz.prog 84 1 = true := by kernel_rfl
noncomputable def f96 : AFunc := by
 refine (fun (_ : Cz zclK zvlK zklK zrlK Go.Proofs.Tryz.prog 0 [0, 2, 4] 96 ?a) => ?a) ?h
 case h =>
 intro zc zv zk zr hc hv hk hr
 conv => lhs; cbv; try simp only [hc, hv, hk, hr, zclK, zvlK, zklK, zrlK]
theorem f96_ok : compF Go.Proofs.Tryz.prog 0 [0, 2, 4] 96 = some f96 := by kernel_rfl
theorem f96_n : argsOK Go.Proofs.Tryz.prog 96 1 = true := by kernel_rfl
noncomputable def f113 : AFunc := by
 refine (fun (_ : Cz zclK zvlK zklK zrlK Go.Proofs.Tryz.prog 0 [0, 2, 3, 5, 6, 8, 9, 10, 11, 12, 20, 25, 26, 27, 28] 113 ?a) => ?a) ?h
 case h =>
 intro zc zv zk zr hc hv hk hr
 conv => lhs; cbv; try simp only [hc, hv, hk, hr, zclK, zvlK, zklK, zrlK]
theorem f113_ok : compF Go.Proofs.Tryz.prog 0 [0, 2, 3, 5, 6, 8, 9, 10, 11, 12, 20, 25, 26, 27, 28] 113 = some f113 := by kernel_rfl
theorem f113_n : argsOK Go.Proofs.Tryz.prog 113 1 = true := by kernel_rfl
noncomputable def f132 : AFunc := by
 refine (fun (_ : Cz zclK zvlK zklK zrlK Go.Proofs.Tryz.prog 0 [0, 2, 3, 5, 7, 8, 9, 13] 132 ?a) => ?a) ?h
 case h =>
 intro zc zv zk zr hc hv hk hr
 conv => lhs; cbv; try simp only [hc, hv, hk, hr, zclK, zvlK, zklK, zrlK]
theorem f132_ok : compF Go.Proofs.Tryz.prog 0 [0, 2, 3, 5, 7, 8, 9, 13] 132 = some f132 := by kernel_rfl
theorem f132_n : argsOK Go.Proofs.Tryz.prog 132 1 = true := by kernel_rfl
noncomputable def f142 : AFunc := by
 refine (fun (_ : Cz zclK zvlK zklK zrlK Go.Proofs.Tryz.prog 0 [0, 1, 4, 6, 16] 142 ?a) => ?a) ?h
 case h =>
 intro zc zv zk zr hc hv hk hr
 conv => lhs; cbv; try simp only [hc, hv, hk, hr, zclK, zvlK, zklK, zrlK]
theorem f142_ok : compF Go.Proofs.Tryz.prog 0 [0, 1, 4, 6, 16] 142 = some f142 := by kernel_rfl
theorem f142_n : argsOK Go.Proofs.Tryz.prog 142 2 = true := by kernel_rfl
noncomputable def f159 : AFunc := by
 refine (fun (_ : Cz zclK zvlK zklK zrlK Go.Proofs.Tryz.prog 0 [0, 1, 4, 5, 8, 13] 159 ?a) => ?a) ?h
 case h =>
 intro zc zv zk zr hc hv hk hr
 conv => lhs; cbv; try simp only [hc, hv, hk, hr, zclK, zvlK, zklK, zrlK]
theorem f159_ok : compF Go.Proofs.Tryz.prog 0 [0, 1, 4, 5, 8, 13] 159 = some f159 := by kernel_rfl
theorem f159_n : argsOK Go.Proofs.Tryz.prog 159 2 = true := by kernel_rfl
noncomputable def f172 : AFunc := by
 refine (fun (_ : Cz zclK zvlK zklK zrlK Go.Proofs.Tryz.prog 0 [0, 1, 2, 3, 4] 172 ?a) => ?a) ?h
 case h =>
 intro zc zv zk zr hc hv hk hr
 conv => lhs; cbv; try simp only [hc, hv, hk, hr, zclK, zvlK, zklK, zrlK]
theorem f172_ok : compF Go.Proofs.Tryz.prog 0 [0, 1, 2, 3, 4] 172 = some f172 := by kernel_rfl
theorem f172_n : argsOK Go.Proofs.Tryz.prog 172 3 = true := by kernel_rfl
noncomputable def f191 : AFunc := by
 refine (fun (_ : Cz zclK zvlK zklK zrlK Go.Proofs.Tryz.prog 0 [0, 1, 4, 5, 7, 8, 9, 16] 191 ?a) => ?a) ?h
 case h =>
 intro zc zv zk zr hc hv hk hr
 conv => lhs; cbv; try simp only [hc, hv, hk, hr, zclK, zvlK, zklK, zrlK]
theorem f191_ok : compF Go.Proofs.Tryz.prog 0 [0, 1, 4, 5, 7, 8, 9, 16] 191 = some f191 := by kernel_rfl
theorem f191_n : argsOK Go.Proofs.Tryz.prog 191 2 = true := by kernel_rfl
noncomputable def f224 : AFunc := by
 refine (fun (_ : Cz zclK zvlK zklK zrlK Go.Proofs.Tryz.prog 0 [0, 1, 4, 6, 8, 34, 36, 37, 38, 39, 69, 83, 84, 85, 86, 90] 224 ?a) => ?a) ?h
 case h =>
 intro zc zv zk zr hc hv hk hr
 conv => lhs; cbv; try simp only [hc, hv, hk, hr, zclK, zvlK, zklK, zrlK]
theorem f224_ok : compF Go.Proofs.Tryz.prog 0 [0, 1, 4, 6, 8, 34, 36, 37, 38, 39, 69, 83, 84, 85, 86, 90] 224 = some f224 := by kernel_rfl
theorem f224_n : argsOK Go.Proofs.Tryz.prog 224 2 = true := by kernel_rfl
noncomputable def f238 : AFunc := by
 refine (fun (_ : Cz zclK zvlK zklK zrlK Go.Proofs.Tryz.prog 0 [0, 1, 2, 4, 5] 238 ?a) => ?a) ?h
 case h =>
 intro zc zv zk zr hc hv hk hr
 conv => lhs; cbv; try simp only [hc, hv, hk, hr, zclK, zvlK, zklK, zrlK]
theorem f238_ok : compF Go.Proofs.Tryz.prog 0 [0, 1, 2, 4, 5] 238 = some f238 := by kernel_rfl
theorem f238_n : argsOK Go.Proofs.Tryz.prog 238 2 = true := by kernel_rfl
noncomputable def f248 : AFunc := by
 refine (fun (_ : Cz zclK zvlK zklK zrlK Go.Proofs.Tryz.prog 0 [0, 1, 4] 248 ?a) => ?a) ?h
 case h =>
 intro zc zv zk zr hc hv hk hr
 conv => lhs; cbv; try simp only [hc, hv, hk, hr, zclK, zvlK, zklK, zrlK]
theorem f248_ok : compF Go.Proofs.Tryz.prog 0 [0, 1, 4] 248 = some f248 := by kernel_rfl
theorem f248_n : argsOK Go.Proofs.Tryz.prog 248 2 = true := by kernel_rfl
noncomputable def f258 : AFunc := by
 refine (fun (_ : Cz zclK zvlK zklK zrlK Go.Proofs.Tryz.prog 0 [0, 1, 3, 4, 5, 15] 258 ?a) => ?a) ?h
 case h =>
 intro zc zv zk zr hc hv hk hr
 conv => lhs; cbv; try simp only [hc, hv, hk, hr, zclK, zvlK, zklK, zrlK]
theorem f258_ok : compF Go.Proofs.Tryz.prog 0 [0, 1, 3, 4, 5, 15] 258 = some f258 := by kernel_rfl
theorem f258_n : argsOK Go.Proofs.Tryz.prog 258 2 = true := by kernel_rfl
end Go.AM.F

set_option maxRecDepth 100000
set_option maxHeartbeats 0
namespace Go.AM.F
def Z68L : List Value := [(.int .u64 0), (.int .u64 0), (.int .u64 0)] ++ List.replicate 64 (.int .u8 0) ++ [(.int .u32 0)]
def zclL : TypeId → List Value
 | 29 => Z68L
 | 93 => [(.pointer none), (.pointer none), (.pointer none), (.int .i64 0), (.bool false)]
 | 33 => [(.int .i64 0), (.int .i64 0), (.int .u64 0), (.int .u32 0), (.int .u32 0), (.slice none 0 0)]
 | 4 => [(.bool false)]
 | 128 => [(.int .i64 0), (.bool false)]
 | 328 => [(.int .u64 0), (.int .u64 0), (.int .u64 0), (.int .u32 0), (.int .u32 0), (.int .u64 0)]
 | _ => []
def zvlL : TypeId → Value
 | 33 => (.agg #[(.int .i64 0), (.int .i64 0), (.int .u64 0), (.int .u32 0), (.int .u32 0), (.slice none 0 0)])
 | _ => undef
def zklL : TypeId → List Nat
 | _ => []
def zrlL : Nat → TypeId → List Value
 | 2, 118 => [(.slice none 0 0), (.slice none 0 0)]
 | _, _ => []
noncomputable def f8 : AFunc := by
 refine (fun (_ : Cz zclL zvlL zklL zrlL Go.Proofs.Tryz.prog 0 [0, 2, 3, 4, 5, 7] 8 ?a) => ?a) ?h
 case h =>
 intro zc zv zk zr hc hv hk hr
 conv => lhs; cbv; try simp only [hc, hv, hk, hr, zclL, zvlL, zklL, zrlL]
theorem f8_ok : compF Go.Proofs.Tryz.prog 0 [0, 2, 3, 4, 5, 7] 8 = some f8 := by kernel_rfl
theorem f8_n : argsOK Go.Proofs.Tryz.prog 8 1 = true := by kernel_rfl
noncomputable def f18 : AFunc := by
 refine (fun (_ : Cz zclL zvlL zklL zrlL Go.Proofs.Tryz.prog 0 [0, 1, 3, 4, 5, 7, 53, 54, 55] 18 ?a) => ?a) ?h
 case h =>
 intro zc zv zk zr hc hv hk hr
 conv => lhs; cbv; try simp only [hc, hv, hk, hr, zclL, zvlL, zklL, zrlL]
theorem f18_ok : compF Go.Proofs.Tryz.prog 0 [0, 1, 3, 4, 5, 7, 53, 54, 55] 18 = some f18 := by kernel_rfl
theorem f18_n : argsOK Go.Proofs.Tryz.prog 18 2 = true := by kernel_rfl
noncomputable def f29 : AFunc := by
 refine (fun (_ : Cz zclL zvlL zklL zrlL Go.Proofs.Tryz.prog 0 [0, 3] 29 ?a) => ?a) ?h
 case h =>
 intro zc zv zk zr hc hv hk hr
 conv => lhs; cbv; try simp only [hc, hv, hk, hr, zclL, zvlL, zklL, zrlL]
theorem f29_ok : compF Go.Proofs.Tryz.prog 0 [0, 3] 29 = some f29 := by kernel_rfl
theorem f29_n : argsOK Go.Proofs.Tryz.prog 29 1 = true := by kernel_rfl
noncomputable def f39 : AFunc := by
 refine (fun (_ : Cz zclL zvlL zklL zrlL Go.Proofs.Tryz.prog 0 [0, 2, 3, 6] 39 ?a) => ?a) ?h
 case h =>
 intro zc zv zk zr hc hv hk hr
 conv => lhs; cbv; try simp only [hc, hv, hk, hr, zclL, zvlL, zklL, zrlL]
theorem f39_ok : compF Go.Proofs.Tryz.prog 0 [0, 2, 3, 6] 39 = some f39 := by kernel_rfl
theorem f39_n : argsOK Go.Proofs.Tryz.prog 39 1 = true := by kernel_rfl
noncomputable def f49 : AFunc := by
 refine (fun (_ : Cz zclL zvlL zklL zrlL Go.Proofs.Tryz.prog 0 [0, 1, 2, 3, 4] 49 ?a) => ?a) ?h
 case h =>
 intro zc zv zk zr hc hv hk hr
 conv => lhs; cbv; try simp only [hc, hv, hk, hr, zclL, zvlL, zklL, zrlL]
theorem f49_ok : compF Go.Proofs.Tryz.prog 0 [0, 1, 2, 3, 4] 49 = some f49 := by kernel_rfl
theorem f49_n : argsOK Go.Proofs.Tryz.prog 49 2 = true := by kernel_rfl
noncomputable def f59 : AFunc := by
 refine (fun (_ : Cz zclL zvlL zklL zrlL Go.Proofs.Tryz.prog 0 [0, 1, 4, 5, 6, 7, 9, 26, 28, 36, 60, 72, 73, 84] 59 ?a) => ?a) ?h
 case h =>
 intro zc zv zk zr hc hv hk hr
 conv => lhs; cbv; try simp only [hc, hv, hk, hr, zclL, zvlL, zklL, zrlL]
theorem f59_ok : compF Go.Proofs.Tryz.prog 0 [0, 1, 4, 5, 6, 7, 9, 26, 28, 36, 60, 72, 73, 84] 59 = some f59 := by kernel_rfl
theorem f59_n : argsOK Go.Proofs.Tryz.prog 59 2 = true := by kernel_rfl
noncomputable def f73 : AFunc := by
 refine (fun (_ : Cz zclL zvlL zklL zrlL Go.Proofs.Tryz.prog 0 [0, 2, 4] 73 ?a) => ?a) ?h
 case h =>
 intro zc zv zk zr hc hv hk hr
 conv => lhs; cbv; try simp only [hc, hv, hk, hr, zclL, zvlL, zklL, zrlL]
theorem f73_ok : compF Go.Proofs.Tryz.prog 0 [0, 2, 4] 73 = some f73 := by kernel_rfl
theorem f73_n : argsOK Go.Proofs.Tryz.prog 73 1 = true := by kernel_rfl
noncomputable def f85 : AFunc := by
 refine (fun (_ : Cz zclL zvlL zklL zrlL Go.Proofs.Tryz.prog 0 [0, 1, 2] 85 ?a) => ?a) ?h
 case h =>
 intro zc zv zk zr hc hv hk hr
 conv => lhs; cbv; try simp only [hc, hv, hk, hr, zclL, zvlL, zklL, zrlL]
theorem f85_ok : compF Go.Proofs.Tryz.prog 0 [0, 1, 2] 85 = some f85 := by kernel_rfl
theorem f85_n : argsOK Go.Proofs.Tryz.prog 85 1 = true := by kernel_rfl
noncomputable def f97 : AFunc := by
 refine (fun (_ : Cz zclL zvlL zklL zrlL Go.Proofs.Tryz.prog 0 [0, 2, 4] 97 ?a) => ?a) ?h
 case h =>
 intro zc zv zk zr hc hv hk hr
 conv => lhs; cbv; try simp only [hc, hv, hk, hr, zclL, zvlL, zklL, zrlL]
theorem f97_ok : compF Go.Proofs.Tryz.prog 0 [0, 2, 4] 97 = some f97 := by kernel_rfl
theorem f97_n : argsOK Go.Proofs.Tryz.prog 97 1 = true := by kernel_rfl
noncomputable def f114 : AFunc := by
 refine (fun (_ : Cz zclL zvlL zklL zrlL Go.Proofs.Tryz.prog 0 [0, 1, 2, 3, 4, 5, 6, 7, 11, 12, 13] 114 ?a) => ?a) ?h
 case h =>
 intro zc zv zk zr hc hv hk hr
 have e0A := (rfl : rfA Go.Proofs.Tryz.prog 114 0 = rfA Go.Proofs.Tryz.prog 114 0); conv at e0A => rhs; cbv
 have e0B := (rfl : rfB Go.Proofs.Tryz.prog 114 0 = rfB Go.Proofs.Tryz.prog 114 0); conv at e0B => rhs; cbv
 conv => lhs; cbv; try simp only [hc, hv, hk, hr, zclL, zvlL, zklL, zrlL]; simp only [← e0A, ← e0B]
theorem f114_ok : compF Go.Proofs.Tryz.prog 0 [0, 1, 2, 3, 4, 5, 6, 7, 11, 12, 13] 114 = some f114 := by kernel_rfl
theorem f114_n : argsOK Go.Proofs.Tryz.prog 114 3 = true := by kernel_rfl
noncomputable def f114r0a : ACode := by
 refine (fun (_ : CzC zclL zvlL zklL zrlL Go.Proofs.Tryz.prog 0 14 [0, 1, 2, 3, 4, 5, 6, 7, 11, 12, 13] (rfA Go.Proofs.Tryz.prog 114 0) ?a) => ?a) ?h
 case h => intro zc zv zk zr hc hv hk hr; conv => lhs; cbv; try simp only [hc, hv, hk, hr, zclL, zvlL, zklL, zrlL]
theorem f114r0a_ok : compC Go.Proofs.Tryz.prog 0 14 [0, 1, 2, 3, 4, 5, 6, 7, 11, 12, 13] (rfA Go.Proofs.Tryz.prog 114 0) = some f114r0a := by kernel_rfl
noncomputable def f114r0b : ACode := by
 refine (fun (_ : CzC zclL zvlL zklL zrlL Go.Proofs.Tryz.prog 0 14 [0, 1, 2, 3, 4, 5, 6, 7, 11, 12, 13] (rfB Go.Proofs.Tryz.prog 114 0) ?a) => ?a) ?h
 case h => intro zc zv zk zr hc hv hk hr; conv => lhs; cbv; try simp only [hc, hv, hk, hr, zclL, zvlL, zklL, zrlL]
theorem f114r0b_ok : compC Go.Proofs.Tryz.prog 0 14 [0, 1, 2, 3, 4, 5, 6, 7, 11, 12, 13] (rfB Go.Proofs.Tryz.prog 114 0) = some f114r0b := by kernel_rfl
theorem f114r0_n : (noRF (rfA Go.Proofs.Tryz.prog 114 0) && noRF (rfB Go.Proofs.Tryz.prog 114 0)) = true := by kernel_rfl
noncomputable def f133 : AFunc := by
 refine (fun (_ : Cz zclL zvlL zklL zrlL Go.Proofs.Tryz.prog 0 [0, 1, 2, 6, 8, 18] 133 ?a) => ?a) ?h
 case h =>
 intro zc zv zk zr hc hv hk hr
 conv => lhs; cbv; try simp only [hc, hv, hk, hr, zclL, zvlL, zklL, zrlL]
theorem f133_ok : compF Go.Proofs.Tryz.prog 0 [0, 1, 2, 6, 8, 18] 133 = some f133 := by kernel_rfl
theorem f133_n : argsOK Go.Proofs.Tryz.prog 133 3 = true := by kernel_rfl
noncomputable def f143 : AFunc := by
 refine (fun (_ : Cz zclL zvlL zklL zrlL Go.Proofs.Tryz.prog 0 [0, 1, 4, 6, 16] 143 ?a) => ?a) ?h
 case h =>
 intro zc zv zk zr hc hv hk hr
 conv => lhs; cbv; try simp only [hc, hv, hk, hr, zclL, zvlL, zklL, zrlL]
theorem f143_ok : compF Go.Proofs.Tryz.prog 0 [0, 1, 4, 6, 16] 143 = some f143 := by kernel_rfl
theorem f143_n : argsOK Go.Proofs.Tryz.prog 143 2 = true := by kernel_rfl
noncomputable def f160 : AFunc := by
 refine (fun (_ : Cz zclL zvlL zklL zrlL Go.Proofs.Tryz.prog 0 [0, 1, 4, 18, 24] 160 ?a) => ?a) ?h
 case h =>
 intro zc zv zk zr hc hv hk hr
 conv => lhs; cbv; try simp only [hc, hv, hk, hr, zclL, zvlL, zklL, zrlL]
theorem f160_ok : compF Go.Proofs.Tryz.prog 0 [0, 1, 4, 18, 24] 160 = some f160 := by kernel_rfl
theorem f160_n : argsOK Go.Proofs.Tryz.prog 160 2 = true := by kernel_rfl
noncomputable def f173 : AFunc := by
 refine (fun (_ : Cz zclL zvlL zklL zrlL Go.Proofs.Tryz.prog 0 [0, 1, 2, 3] 173 ?a) => ?a) ?h
 case h =>
 intro zc zv zk zr hc hv hk hr
 conv => lhs; cbv; try simp only [hc, hv, hk, hr, zclL, zvlL, zklL, zrlL]
theorem f173_ok : compF Go.Proofs.Tryz.prog 0 [0, 1, 2, 3] 173 = some f173 := by kernel_rfl
theorem f173_n : argsOK Go.Proofs.Tryz.prog 173 2 = true := by kernel_rfl
noncomputable def f192 : AFunc := by
 refine (fun (_ : Cz zclL zvlL zklL zrlL Go.Proofs.Tryz.prog 0 [0, 1, 2] 192 ?a) => ?a) ?h
 case h =>
 intro zc zv zk zr hc hv hk hr
 conv => lhs; cbv; try simp only [hc, hv, hk, hr, zclL, zvlL, zklL, zrlL]
theorem f192_ok : compF Go.Proofs.Tryz.prog 0 [0, 1, 2] 192 = some f192 := by kernel_rfl
theorem f192_n : argsOK Go.Proofs.Tryz.prog 192 1 = true := by kernel_rfl
noncomputable def f227 : AFunc := by
 refine (fun (_ : Cz zclL zvlL zklL zrlL Go.Proofs.Tryz.prog 0 [0, 1, 2, 4] 227 ?a) => ?a) ?h
 case h =>
 intro zc zv zk zr hc hv hk hr
 conv => lhs; cbv; try simp only [hc, hv, hk, hr, zclL, zvlL, zklL, zrlL]
theorem f227_ok : compF Go.Proofs.Tryz.prog 0 [0, 1, 2, 4] 227 = some f227 := by kernel_rfl
theorem f227_n : argsOK Go.Proofs.Tryz.prog 227 2 = true := by kernel_rfl
noncomputable def f239 : AFunc := by
 refine (fun (_ : Cz zclL zvlL zklL zrlL Go.Proofs.Tryz.prog 0 [0, 1, 2, 4] 239 ?a) => ?a) ?h
 case h =>
 intro zc zv zk zr hc hv hk hr
 conv => lhs; cbv; try simp only [hc, hv, hk, hr, zclL, zvlL, zklL, zrlL]
theorem f239_ok : compF Go.Proofs.Tryz.prog 0 [0, 1, 2, 4] 239 = some f239 := by kernel_rfl
theorem f239_n : argsOK Go.Proofs.Tryz.prog 239 2 = true := by kernel_rfl
noncomputable def f249 : AFunc := by
 refine (fun (_ : Cz zclL zvlL zklL zrlL Go.Proofs.Tryz.prog 0 [0, 1, 2, 3, 6, 7, 8, 9, 11, 12, 13, 14, 20] 249 ?a) => ?a) ?h
 case h =>
 intro zc zv zk zr hc hv hk hr
 conv => lhs; cbv; try simp only [hc, hv, hk, hr, zclL, zvlL, zklL, zrlL]
theorem f249_ok : compF Go.Proofs.Tryz.prog 0 [0, 1, 2, 3, 6, 7, 8, 9, 11, 12, 13, 14, 20] 249 = some f249 := by kernel_rfl
theorem f249_n : argsOK Go.Proofs.Tryz.prog 249 3 = true := by kernel_rfl
end Go.AM.F

set_option maxRecDepth 100000
set_option maxHeartbeats 0
namespace Go.AM.F
def O68M : List Nat := List.replicate 68 1
def Z68M : List Value := [(.int .u64 0), (.int .u64 0), (.int .u64 0)] ++ List.replicate 64 (.int .u8 0) ++ [(.int .u32 0)]
def zclM : TypeId → List Value
 | 26 => [(.int .u64 0), (.int .u32 0), (.int .u32 0), (.slice none 0 0)]
 | 123 => [(.int .i64 0), (.int .i64 0), (.slice none 0 0), (.slice none 0 0), (.slice none 0 0)]
 | 29 => Z68M
 | 41 => [(.int .i64 0), (.int .i64 0), (.int .u64 0), (.int .u32 0)]
 | 39 => [(.int .u64 0), (.int .u32 0)]
 | 195 => [(.int .i64 0), (.slice none 0 0)]
 | 158 => [(.pointer none)]
 | 35 => [(.int .i64 0)]
 | 192 => [(.pointer none), (.int .i64 0), (.int .i64 0), (.slice none 0 0), (.int .i64 0)]
 | 189 => [(.int .i64 0), (.int .i64 0)]
 | 134 => [(.string ByteArray.empty), (.int .i64 0)]
 | 328 => [(.int .u64 0), (.int .u64 0), (.int .u64 0), (.int .u32 0), (.int .u32 0), (.int .u64 0)]
 | _ => []
def zvlM : TypeId → Value
 | 189 => (.agg #[(.int .i64 0), (.int .i64 0)])
 | _ => undef
def zklM : TypeId → List Nat
 | 29 => O68M
 | _ => []
def zrlM : Nat → TypeId → List Value
 | 1, 112 => [(.slice none 0 0)]
 | 2, 121 => [(.slice none 0 0), (.slice none 0 0)]
 | 1, 5 => [(.int .u8 0)]
 | _, _ => []
noncomputable def f9 : AFunc := by
 refine (fun (_ : Cz zclM zvlM zklM zrlM Go.Proofs.Tryz.prog 0 [0, 2, 3, 5] 9 ?a) => ?a) ?h
 case h =>
 intro zc zv zk zr hc hv hk hr
 conv => lhs; cbv; try simp only [hc, hv, hk, hr, zclM, zvlM, zklM, zrlM]
theorem f9_ok : compF Go.Proofs.Tryz.prog 0 [0, 2, 3, 5] 9 = some f9 := by kernel_rfl
theorem f9_n : argsOK Go.Proofs.Tryz.prog 9 1 = true := by kernel_rfl
noncomputable def f19 : AFunc := by
 refine (fun (_ : Cz zclM zvlM zklM zrlM Go.Proofs.Tryz.prog 0 [0, 2] 19 ?a) => ?a) ?h
 case h =>
 intro zc zv zk zr hc hv hk hr
 conv => lhs; cbv; try simp only [hc, hv, hk, hr, zclM, zvlM, zklM, zrlM]
theorem f19_ok : compF Go.Proofs.Tryz.prog 0 [0, 2] 19 = some f19 := by kernel_rfl
theorem f19_n : argsOK Go.Proofs.Tryz.prog 19 1 = true := by kernel_rfl
noncomputable def f30 : AFunc := by
 refine (fun (_ : Cz zclM zvlM zklM zrlM Go.Proofs.Tryz.prog 0 [0, 1, 3, 4, 5, 6, 15, 19, 20, 21, 22, 30, 40] 30 ?a) => ?a) ?h
 case h =>
 intro zc zv zk zr hc hv hk hr
 conv => lhs; cbv; try simp only [hc, hv, hk, hr, zclM, zvlM, zklM, zrlM]
theorem f30_ok : compF Go.Proofs.Tryz.prog 0 [0, 1, 3, 4, 5, 6, 15, 19, 20, 21, 22, 30, 40] 30 = some f30 := by kernel_rfl
theorem f30_n : argsOK Go.Proofs.Tryz.prog 30 2 = true := by kernel_rfl
noncomputable def f40 : AFunc := by
 refine (fun (_ : Cz zclM zvlM zklM zrlM Go.Proofs.Tryz.prog 0 [0, 2, 4] 40 ?a) => ?a) ?h
 case h =>
 intro zc zv zk zr hc hv hk hr
 conv => lhs; cbv; try simp only [hc, hv, hk, hr, zclM, zvlM, zklM, zrlM]
theorem f40_ok : compF Go.Proofs.Tryz.prog 0 [0, 2, 4] 40 = some f40 := by kernel_rfl
theorem f40_n : argsOK Go.Proofs.Tryz.prog 40 1 = true := by kernel_rfl
noncomputable def f50 : AFunc := by
 refine (fun (_ : Cz zclM zvlM zklM zrlM Go.Proofs.Tryz.prog 0 [0, 1, 2] 50 ?a) => ?a) ?h
 case h =>
 intro zc zv zk zr hc hv hk hr
 conv => lhs; cbv; try simp only [hc, hv, hk, hr, zclM, zvlM, zklM, zrlM]
theorem f50_ok : compF Go.Proofs.Tryz.prog 0 [0, 1, 2] 50 = some f50 := by kernel_rfl
theorem f50_n : argsOK Go.Proofs.Tryz.prog 50 1 = true := by kernel_rfl
noncomputable def f60 : AFunc := by
 refine (fun (_ : Cz zclM zvlM zklM zrlM Go.Proofs.Tryz.prog 0 [0, 2, 3, 4, 5, 6, 7, 8, 10, 28] 60 ?a) => ?a) ?h
 case h =>
 intro zc zv zk zr hc hv hk hr
 conv => lhs; cbv; try simp only [hc, hv, hk, hr, zclM, zvlM, zklM, zrlM]
theorem f60_ok : compF Go.Proofs.Tryz.prog 0 [0, 2, 3, 4, 5, 6, 7, 8, 10, 28] 60 = some f60 := by kernel_rfl
theorem f60_n : argsOK Go.Proofs.Tryz.prog 60 1 = true := by kernel_rfl
noncomputable def f74 : AFunc := by
 refine (fun (_ : Cz zclM zvlM zklM zrlM Go.Proofs.Tryz.prog 0 [0, 1, 4, 5, 6, 7, 10, 14, 18, 41] 74 ?a) => ?a) ?h
 case h =>
 intro zc zv zk zr hc hv hk hr
 conv => lhs; cbv; try simp only [hc, hv, hk, hr, zclM, zvlM, zklM, zrlM]
theorem f74_ok : compF Go.Proofs.Tryz.prog 0 [0, 1, 4, 5, 6, 7, 10, 14, 18, 41] 74 = some f74 := by kernel_rfl
theorem f74_n : argsOK Go.Proofs.Tryz.prog 74 2 = true := by kernel_rfl
noncomputable def f86 : AFunc := by
 refine (fun (_ : Cz zclM zvlM zklM zrlM Go.Proofs.Tryz.prog 0 [0, 1, 2] 86 ?a) => ?a) ?h
 case h =>
 intro zc zv zk zr hc hv hk hr
 conv => lhs; cbv; try simp only [hc, hv, hk, hr, zclM, zvlM, zklM, zrlM]
theorem f86_ok : compF Go.Proofs.Tryz.prog 0 [0, 1, 2] 86 = some f86 := by kernel_rfl
theorem f86_n : argsOK Go.Proofs.Tryz.prog 86 1 = true := by kernel_rfl
noncomputable def f98 : AFunc := by
 refine (fun (_ : Cz zclM zvlM zklM zrlM Go.Proofs.Tryz.prog 0 [0, 1, 2, 6, 22] 98 ?a) => ?a) ?h
 case h =>
 intro zc zv zk zr hc hv hk hr
 conv => lhs; cbv; try simp only [hc, hv, hk, hr, zclM, zvlM, zklM, zrlM]
theorem f98_ok : compF Go.Proofs.Tryz.prog 0 [0, 1, 2, 6, 22] 98 = some f98 := by kernel_rfl
theorem f98_n : argsOK Go.Proofs.Tryz.prog 98 3 = true := by kernel_rfl
noncomputable def f115 : AFunc := by
 refine (fun (_ : Cz zclM zvlM zklM zrlM Go.Proofs.Tryz.prog 0 [0, 2, 3, 4, 5, 6, 7, 9, 10, 11, 12, 13, 14, 15, 18, 22, 28, 29, 62, 80, 82, 89, 93, 94, 95, 111, 125, 126, 131] 115 ?a) => ?a) ?h
 case h =>
 intro zc zv zk zr hc hv hk hr
 have e0A := (rfl : rfA Go.Proofs.Tryz.prog 115 0 = rfA Go.Proofs.Tryz.prog 115 0); conv at e0A => rhs; cbv
 have e0B := (rfl : rfB Go.Proofs.Tryz.prog 115 0 = rfB Go.Proofs.Tryz.prog 115 0); conv at e0B => rhs; cbv
 conv => lhs; cbv; try simp only [hc, hv, hk, hr, zclM, zvlM, zklM, zrlM]; simp only [← e0A, ← e0B]
theorem f115_ok : compF Go.Proofs.Tryz.prog 0 [0, 2, 3, 4, 5, 6, 7, 9, 10, 11, 12, 13, 14, 15, 18, 22, 28, 29, 62, 80, 82, 89, 93, 94, 95, 111, 125, 126, 131] 115 = some f115 := by kernel_rfl
theorem f115_n : argsOK Go.Proofs.Tryz.prog 115 1 = true := by kernel_rfl
noncomputable def f115r0a : ACode := by
 refine (fun (_ : CzC zclM zvlM zklM zrlM Go.Proofs.Tryz.prog 0 133 [0, 2, 3, 4, 5, 6, 7, 9, 10, 11, 12, 13, 14, 15, 18, 22, 28, 29, 62, 80, 82, 89, 93, 94, 95, 111, 125, 126, 131] (rfA Go.Proofs.Tryz.prog 115 0) ?a) => ?a) ?h
 case h => intro zc zv zk zr hc hv hk hr; conv => lhs; cbv; try simp only [hc, hv, hk, hr, zclM, zvlM, zklM, zrlM]
theorem f115r0a_ok : compC Go.Proofs.Tryz.prog 0 133 [0, 2, 3, 4, 5, 6, 7, 9, 10, 11, 12, 13, 14, 15, 18, 22, 28, 29, 62, 80, 82, 89, 93, 94, 95, 111, 125, 126, 131] (rfA Go.Proofs.Tryz.prog 115 0) = some f115r0a := by kernel_rfl
noncomputable def f115r0b : ACode := by
 refine (fun (_ : CzC zclM zvlM zklM zrlM Go.Proofs.Tryz.prog 0 133 [0, 2, 3, 4, 5, 6, 7, 9, 10, 11, 12, 13, 14, 15, 18, 22, 28, 29, 62, 80, 82, 89, 93, 94, 95, 111, 125, 126, 131] (rfB Go.Proofs.Tryz.prog 115 0) ?a) => ?a) ?h
 case h => intro zc zv zk zr hc hv hk hr; conv => lhs; cbv; try simp only [hc, hv, hk, hr, zclM, zvlM, zklM, zrlM]
theorem f115r0b_ok : compC Go.Proofs.Tryz.prog 0 133 [0, 2, 3, 4, 5, 6, 7, 9, 10, 11, 12, 13, 14, 15, 18, 22, 28, 29, 62, 80, 82, 89, 93, 94, 95, 111, 125, 126, 131] (rfB Go.Proofs.Tryz.prog 115 0) = some f115r0b := by kernel_rfl
theorem f115r0_n : (noRF (rfA Go.Proofs.Tryz.prog 115 0) && noRF (rfB Go.Proofs.Tryz.prog 115 0)) = true := by kernel_rfl
noncomputable def f134 : AFunc := by
 refine (fun (_ : Cz zclM zvlM zklM zrlM Go.Proofs.Tryz.prog 0 [0, 1, 4, 6, 7, 8, 9, 10, 19] 134 ?a) => ?a) ?h
 case h =>
 intro zc zv zk zr hc hv hk hr
 conv => lhs; cbv; try simp only [hc, hv, hk, hr, zclM, zvlM, zklM, zrlM]
theorem f134_ok : compF Go.Proofs.Tryz.prog 0 [0, 1, 4, 6, 7, 8, 9, 10, 19] 134 = some f134 := by kernel_rfl
theorem f134_n : argsOK Go.Proofs.Tryz.prog 134 2 = true := by kernel_rfl
noncomputable def f144 : AFunc := by
 refine (fun (_ : Cz zclM zvlM zklM zrlM Go.Proofs.Tryz.prog 0 [0, 1, 2, 3, 4, 5, 6] 144 ?a) => ?a) ?h
 case h =>
 intro zc zv zk zr hc hv hk hr
 conv => lhs; cbv; try simp only [hc, hv, hk, hr, zclM, zvlM, zklM, zrlM]
theorem f144_ok : compF Go.Proofs.Tryz.prog 0 [0, 1, 2, 3, 4, 5, 6] 144 = some f144 := by kernel_rfl
theorem f144_n : argsOK Go.Proofs.Tryz.prog 144 3 = true := by kernel_rfl
noncomputable def f161 : AFunc := by
 refine (fun (_ : Cz zclM zvlM zklM zrlM Go.Proofs.Tryz.prog 0 [] 161 ?a) => ?a) ?h
 case h =>
 intro zc zv zk zr hc hv hk hr
 conv => lhs; cbv; try simp only [hc, hv, hk, hr, zclM, zvlM, zklM, zrlM]
theorem f161_ok : compF Go.Proofs.Tryz.prog 0 [] 161 = some f161 := by kernel_rfl
theorem f161_n : argsOK Go.Proofs.Tryz.prog 161 0 = true := by kernel_rfl
noncomputable def f174 : AFunc := by
 refine (fun (_ : Cz zclM zvlM zklM zrlM Go.Proofs.Tryz.prog 0 [0, 1, 2, 3, 5, 6, 8, 9, 10, 11, 12, 13, 14, 15, 16, 17, 18, 26, 31, 32, 33, 34, 42, 49, 50, 51, 52, 105] 174 ?a) => ?a) ?h
 case h =>
 intro zc zv zk zr hc hv hk hr
 conv => lhs; cbv; try simp only [hc, hv, hk, hr, zclM, zvlM, zklM, zrlM]
theorem f174_ok : compF Go.Proofs.Tryz.prog 0 [0, 1, 2, 3, 5, 6, 8, 9, 10, 11, 12, 13, 14, 15, 16, 17, 18, 26, 31, 32, 33, 34, 42, 49, 50, 51, 52, 105] 174 = some f174 := by kernel_rfl
theorem f174_n : argsOK Go.Proofs.Tryz.prog 174 4 = true := by kernel_rfl
noncomputable def f193 : AFunc := by
 refine (fun (_ : Cz zclM zvlM zklM zrlM Go.Proofs.Tryz.prog 0 [0, 1, 3, 8, 18] 193 ?a) => ?a) ?h
 case h =>
 intro zc zv zk zr hc hv hk hr
 conv => lhs; cbv; try simp only [hc, hv, hk, hr, zclM, zvlM, zklM, zrlM]
theorem f193_ok : compF Go.Proofs.Tryz.prog 0 [0, 1, 3, 8, 18] 193 = some f193 := by kernel_rfl
theorem f193_n : argsOK Go.Proofs.Tryz.prog 193 2 = true := by kernel_rfl
noncomputable def f228 : AFunc := by
 refine (fun (_ : Cz zclM zvlM zklM zrlM Go.Proofs.Tryz.prog 0 [0, 1, 4] 228 ?a) => ?a) ?h
 case h =>
 intro zc zv zk zr hc hv hk hr
 conv => lhs; cbv; try simp only [hc, hv, hk, hr, zclM, zvlM, zklM, zrlM]
theorem f228_ok : compF Go.Proofs.Tryz.prog 0 [0, 1, 4] 228 = some f228 := by kernel_rfl
theorem f228_n : argsOK Go.Proofs.Tryz.prog 228 2 = true := by kernel_rfl
noncomputable def f240 : AFunc := by
 refine (fun (_ : Cz zclM zvlM zklM zrlM Go.Proofs.Tryz.prog 0 [0, 1, 2, 3, 7, 8, 9, 10, 11, 12, 13, 18, 19, 29, 79, 117, 136, 143, 183] 240 ?a) => ?a) ?h
 case h =>
 intro zc zv zk zr hc hv hk hr
 conv => lhs; cbv; try simp only [hc, hv, hk, hr, zclM, zvlM, zklM, zrlM]
theorem f240_ok : compF Go.Proofs.Tryz.prog 0 [0, 1, 2, 3, 7, 8, 9, 10, 11, 12, 13, 18, 19, 29, 79, 117, 136, 143, 183] 240 = some f240 := by kernel_rfl
theorem f240_n : argsOK Go.Proofs.Tryz.prog 240 4 = true := by kernel_rfl
noncomputable def f250 : AFunc := by
 refine (fun (_ : Cz zclM zvlM zklM zrlM Go.Proofs.Tryz.prog 0 [0, 1, 2] 250 ?a) => ?a) ?h
 case h =>
 intro zc zv zk zr hc hv hk hr
 conv => lhs; cbv; try simp only [hc, hv, hk, hr, zclM, zvlM, zklM, zrlM]
theorem f250_ok : compF Go.Proofs.Tryz.prog 0 [0, 1, 2] 250 = some f250 := by kernel_rfl
theorem f250_n : argsOK Go.Proofs.Tryz.prog 250 1 = true := by kernel_rfl
end Go.AM.F

set_option maxRecDepth 100000
set_option maxHeartbeats 0
namespace Go.AM.F
def Z68N : List Value := [(.int .u64 0), (.int .u64 0), (.int .u64 0)] ++ List.replicate 64 (.int .u8 0) ++ [(.int .u32 0)]
def Z30N : List Value := [(.string ByteArray.empty), (.int .i64 0), (.slice none 0 0), (.slice none 0 0), (.slice none 0 0), (.slice none 0 0), (.string ByteArray.empty), (.int .i64 0), (.slice none 0 0), (.slice none 0 0), (.slice none 0 0), (.slice none 0 0), (.string ByteArray.empty), (.int .i64 0), (.slice none 0 0), (.slice none 0 0), (.slice none 0 0), (.slice none 0 0), (.string ByteArray.empty), (.int .i64 0), (.slice none 0 0), (.slice none 0 0), (.slice none 0 0), (.slice none 0 0), (.string ByteArray.empty), (.int .i64 0), (.slice none 0 0), (.slice none 0 0), (.slice none 0 0), (.slice none 0 0)]
def zclN : TypeId → List Value
 | 29 => Z68N
 | 89 => [(.int .u8 0), (.int .i64 0)]
 | 33 => [(.int .i64 0), (.int .i64 0), (.int .u64 0), (.int .u32 0), (.int .u32 0), (.slice none 0 0)]
 | 60 => [(.slice none 0 0), (.slice none 0 0), (.slice none 0 0), (.slice none 0 0)]
 | 134 => [(.string ByteArray.empty), (.int .i64 0)]
 | 135 => [(.string ByteArray.empty), (.int .i64 0)]
 | 128 => [(.int .i64 0), (.bool false)]
 | 137 => [(.string ByteArray.empty), (.int .i64 0), (.slice none 0 0), (.slice none 0 0), (.slice none 0 0), (.slice none 0 0)]
 | 120 => [(.slice none 0 0), (.slice none 0 0), (.int .i64 0), (.int .u32 0)]
 | 123 => [(.int .i64 0), (.int .i64 0), (.slice none 0 0), (.slice none 0 0), (.slice none 0 0)]
 | 199 => [(.slice none 0 0)]
 | 307 => [(.map none)]
 | 328 => [(.int .u64 0), (.int .u64 0), (.int .u64 0), (.int .u32 0), (.int .u32 0), (.int .u64 0)]
 | _ => []
def zvlN : TypeId → Value
 | 33 => (.agg #[(.int .i64 0), (.int .i64 0), (.int .u64 0), (.int .u32 0), (.int .u32 0), (.slice none 0 0)])
 | _ => undef
def zklN : TypeId → List Nat
 | _ => []
def zrlN : Nat → TypeId → List Value
 | 6, 9 => [(.string ByteArray.empty), (.string ByteArray.empty), (.string ByteArray.empty), (.string ByteArray.empty), (.string ByteArray.empty), (.string ByteArray.empty)]
 | 2, 134 => [(.string ByteArray.empty), (.int .i64 0), (.string ByteArray.empty), (.int .i64 0)]
 | 3, 135 => [(.string ByteArray.empty), (.int .i64 0), (.string ByteArray.empty), (.int .i64 0), (.string ByteArray.empty), (.int .i64 0)]
 | 2, 3 => [(.int .i64 0), (.int .i64 0)]
 | 2, 128 => [(.int .i64 0), (.bool false), (.int .i64 0), (.bool false)]
 | 1, 3 => [(.int .i64 0)]
 | 1, 128 => [(.int .i64 0), (.bool false)]
 | 5, 137 => Z30N
 | 1, 123 => [(.int .i64 0), (.int .i64 0), (.slice none 0 0), (.slice none 0 0), (.slice none 0 0)]
 | _, _ => []
noncomputable def f10 : AFunc := by
 refine (fun (_ : Cz zclN zvlN zklN zrlN Go.Proofs.Tryz.prog 0 [0, 1, 4, 5, 7, 9, 11, 12, 14, 22, 49, 54, 55, 56, 64] 10 ?a) => ?a) ?h
 case h =>
 intro zc zv zk zr hc hv hk hr
 conv => lhs; cbv; try simp only [hc, hv, hk, hr, zclN, zvlN, zklN, zrlN]
theorem f10_ok : compF Go.Proofs.Tryz.prog 0 [0, 1, 4, 5, 7, 9, 11, 12, 14, 22, 49, 54, 55, 56, 64] 10 = some f10 := by kernel_rfl
theorem f10_n : argsOK Go.Proofs.Tryz.prog 10 2 = true := by kernel_rfl
noncomputable def f20 : AFunc := by
 refine (fun (_ : Cz zclN zvlN zklN zrlN Go.Proofs.Tryz.prog 0 [0, 1, 2, 3, 4, 5, 6, 8, 9, 41, 43, 44, 45, 46, 50, 51, 55, 66] 20 ?a) => ?a) ?h
 case h =>
 intro zc zv zk zr hc hv hk hr
 conv => lhs; cbv; try simp only [hc, hv, hk, hr, zclN, zvlN, zklN, zrlN]
theorem f20_ok : compF Go.Proofs.Tryz.prog 0 [0, 1, 2, 3, 4, 5, 6, 8, 9, 41, 43, 44, 45, 46, 50, 51, 55, 66] 20 = some f20 := by kernel_rfl
theorem f20_n : argsOK Go.Proofs.Tryz.prog 20 2 = true := by kernel_rfl
noncomputable def f31 : AFunc := by
 refine (fun (_ : Cz zclN zvlN zklN zrlN Go.Proofs.Tryz.prog 0 [0, 1, 4, 5, 6, 8, 24] 31 ?a) => ?a) ?h
 case h =>
 intro zc zv zk zr hc hv hk hr
 conv => lhs; cbv; try simp only [hc, hv, hk, hr, zclN, zvlN, zklN, zrlN]
theorem f31_ok : compF Go.Proofs.Tryz.prog 0 [0, 1, 4, 5, 6, 8, 24] 31 = some f31 := by kernel_rfl
theorem f31_n : argsOK Go.Proofs.Tryz.prog 31 2 = true := by kernel_rfl
noncomputable def f41 : AFunc := by
 refine (fun (_ : Cz zclN zvlN zklN zrlN Go.Proofs.Tryz.prog 0 [0] 41 ?a) => ?a) ?h
 case h =>
 intro zc zv zk zr hc hv hk hr
 conv => lhs; cbv; try simp only [hc, hv, hk, hr, zclN, zvlN, zklN, zrlN]
theorem f41_ok : compF Go.Proofs.Tryz.prog 0 [0] 41 = some f41 := by kernel_rfl
theorem f41_n : argsOK Go.Proofs.Tryz.prog 41 0 = true := by kernel_rfl
noncomputable def f51 : AFunc := by
 refine (fun (_ : Cz zclN zvlN zklN zrlN Go.Proofs.Tryz.prog 0 [0, 2] 51 ?a) => ?a) ?h
 case h =>
 intro zc zv zk zr hc hv hk hr
 conv => lhs; cbv; try simp only [hc, hv, hk, hr, zclN, zvlN, zklN, zrlN]
theorem f51_ok : compF Go.Proofs.Tryz.prog 0 [0, 2] 51 = some f51 := by kernel_rfl
theorem f51_n : argsOK Go.Proofs.Tryz.prog 51 1 = true := by kernel_rfl
noncomputable def f61 : AFunc := by
 refine (fun (_ : Cz zclN zvlN zklN zrlN Go.Proofs.Tryz.prog 0 [0, 1, 2, 3, 4, 6, 7, 8, 9, 10, 17, 25, 26, 27, 28, 62, 63, 64, 65] 61 ?a) => ?a) ?h
 case h =>
 intro zc zv zk zr hc hv hk hr
 conv => lhs; cbv; try simp only [hc, hv, hk, hr, zclN, zvlN, zklN, zrlN]
theorem f61_ok : compF Go.Proofs.Tryz.prog 0 [0, 1, 2, 3, 4, 6, 7, 8, 9, 10, 17, 25, 26, 27, 28, 62, 63, 64, 65] 61 = some f61 := by kernel_rfl
theorem f61_n : argsOK Go.Proofs.Tryz.prog 61 1 = true := by kernel_rfl
noncomputable def f75 : AFunc := by
 refine (fun (_ : Cz zclN zvlN zklN zrlN Go.Proofs.Tryz.prog 0 [0, 1, 2, 6, 7, 10] 75 ?a) => ?a) ?h
 case h =>
 intro zc zv zk zr hc hv hk hr
 conv => lhs; cbv; try simp only [hc, hv, hk, hr, zclN, zvlN, zklN, zrlN]
theorem f75_ok : compF Go.Proofs.Tryz.prog 0 [0, 1, 2, 6, 7, 10] 75 = some f75 := by kernel_rfl
theorem f75_n : argsOK Go.Proofs.Tryz.prog 75 3 = true := by kernel_rfl
noncomputable def f87 : AFunc := by
 refine (fun (_ : Cz zclN zvlN zklN zrlN Go.Proofs.Tryz.prog 0 [0, 1, 2, 4, 5, 6, 7, 21, 23, 24, 25, 26, 42] 87 ?a) => ?a) ?h
 case h =>
 intro zc zv zk zr hc hv hk hr
 conv => lhs; cbv; try simp only [hc, hv, hk, hr, zclN, zvlN, zklN, zrlN]
theorem f87_ok : compF Go.Proofs.Tryz.prog 0 [0, 1, 2, 4, 5, 6, 7, 21, 23, 24, 25, 26, 42] 87 = some f87 := by kernel_rfl
theorem f87_n : argsOK Go.Proofs.Tryz.prog 87 2 = true := by kernel_rfl
noncomputable def f100 : AFunc := by
 refine (fun (_ : Cz zclN zvlN zklN zrlN Go.Proofs.Tryz.prog 0 [0, 1, 4] 100 ?a) => ?a) ?h
 case h =>
 intro zc zv zk zr hc hv hk hr
 conv => lhs; cbv; try simp only [hc, hv, hk, hr, zclN, zvlN, zklN, zrlN]
theorem f100_ok : compF Go.Proofs.Tryz.prog 0 [0, 1, 4] 100 = some f100 := by kernel_rfl
theorem f100_n : argsOK Go.Proofs.Tryz.prog 100 2 = true := by kernel_rfl
noncomputable def f116 : AFunc := by
 refine (fun (_ : Cz zclN zvlN zklN zrlN Go.Proofs.Tryz.prog 0 [0, 1, 4, 5, 26] 116 ?a) => ?a) ?h
 case h =>
 intro zc zv zk zr hc hv hk hr
 conv => lhs; cbv; try simp only [hc, hv, hk, hr, zclN, zvlN, zklN, zrlN]
theorem f116_ok : compF Go.Proofs.Tryz.prog 0 [0, 1, 4, 5, 26] 116 = some f116 := by kernel_rfl
theorem f116_n : argsOK Go.Proofs.Tryz.prog 116 2 = true := by kernel_rfl
noncomputable def f135 : AFunc := by
 refine (fun (_ : Cz zclN zvlN zklN zrlN Go.Proofs.Tryz.prog 0 [0, 1, 4, 5, 6, 7, 8, 9, 10, 23] 135 ?a) => ?a) ?h
 case h =>
 intro zc zv zk zr hc hv hk hr
 conv => lhs; cbv; try simp only [hc, hv, hk, hr, zclN, zvlN, zklN, zrlN]
theorem f135_ok : compF Go.Proofs.Tryz.prog 0 [0, 1, 4, 5, 6, 7, 8, 9, 10, 23] 135 = some f135 := by kernel_rfl
theorem f135_n : argsOK Go.Proofs.Tryz.prog 135 2 = true := by kernel_rfl
noncomputable def f145 : AFunc := by
 refine (fun (_ : Cz zclN zvlN zklN zrlN Go.Proofs.Tryz.prog 0 [0, 2] 145 ?a) => ?a) ?h
 case h =>
 intro zc zv zk zr hc hv hk hr
 conv => lhs; cbv; try simp only [hc, hv, hk, hr, zclN, zvlN, zklN, zrlN]
theorem f145_ok : compF Go.Proofs.Tryz.prog 0 [0, 2] 145 = some f145 := by kernel_rfl
theorem f145_n : argsOK Go.Proofs.Tryz.prog 145 1 = true := by kernel_rfl
noncomputable def f163 : AFunc := by
 refine (fun (_ : Cz zclN zvlN zklN zrlN Go.Proofs.Tryz.prog 0 [0, 2, 3, 5, 6, 8, 9, 10, 11, 12, 20, 25, 26, 27, 28] 163 ?a) => ?a) ?h
 case h =>
 intro zc zv zk zr hc hv hk hr
 conv => lhs; cbv; try simp only [hc, hv, hk, hr, zclN, zvlN, zklN, zrlN]
theorem f163_ok : compF Go.Proofs.Tryz.prog 0 [0, 2, 3, 5, 6, 8, 9, 10, 11, 12, 20, 25, 26, 27, 28] 163 = some f163 := by kernel_rfl
theorem f163_n : argsOK Go.Proofs.Tryz.prog 163 1 = true := by kernel_rfl
noncomputable def f175 : AFunc := by
 refine (fun (_ : Cz zclN zvlN zklN zrlN Go.Proofs.Tryz.prog 0 [0, 1, 2, 3, 5, 9, 10, 11] 175 ?a) => ?a) ?h
 case h =>
 intro zc zv zk zr hc hv hk hr
 have e0A := (rfl : rfA Go.Proofs.Tryz.prog 175 0 = rfA Go.Proofs.Tryz.prog 175 0); conv at e0A => rhs; cbv
 have e0B := (rfl : rfB Go.Proofs.Tryz.prog 175 0 = rfB Go.Proofs.Tryz.prog 175 0); conv at e0B => rhs; cbv
 conv => lhs; cbv; try simp only [hc, hv, hk, hr, zclN, zvlN, zklN, zrlN]; simp only [← e0A, ← e0B]
theorem f175_ok : compF Go.Proofs.Tryz.prog 0 [0, 1, 2, 3, 5, 9, 10, 11] 175 = some f175 := by kernel_rfl
theorem f175_n : argsOK Go.Proofs.Tryz.prog 175 1 = true := by kernel_rfl
noncomputable def f175r0a : ACode := by
 refine (fun (_ : CzC zclN zvlN zklN zrlN Go.Proofs.Tryz.prog 0 18 [0, 1, 2, 3, 5, 9, 10, 11] (rfA Go.Proofs.Tryz.prog 175 0) ?a) => ?a) ?h
 case h => intro zc zv zk zr hc hv hk hr; conv => lhs; cbv; try simp only [hc, hv, hk, hr, zclN, zvlN, zklN, zrlN]
theorem f175r0a_ok : compC Go.Proofs.Tryz.prog 0 18 [0, 1, 2, 3, 5, 9, 10, 11] (rfA Go.Proofs.Tryz.prog 175 0) = some f175r0a := by kernel_rfl
noncomputable def f175r0b : ACode := by
 refine (fun (_ : CzC zclN zvlN zklN zrlN Go.Proofs.Tryz.prog 0 18 [0, 1, 2, 3, 5, 9, 10, 11] (rfB Go.Proofs.Tryz.prog 175 0) ?a) => ?a) ?h
 case h => intro zc zv zk zr hc hv hk hr; conv => lhs; cbv; try simp only [hc, hv, hk, hr, zclN, zvlN, zklN, zrlN]
theorem f175r0b_ok : compC Go.Proofs.Tryz.prog 0 18 [0, 1, 2, 3, 5, 9, 10, 11] (rfB Go.Proofs.Tryz.prog 175 0) = some f175r0b := by kernel_rfl
theorem f175r0_n : (noRF (rfA Go.Proofs.Tryz.prog 175 0) && noRF (rfB Go.Proofs.Tryz.prog 175 0)) = true := by kernel_rfl
noncomputable def f199 : AFunc := by
 refine (fun (_ : Cz zclN zvlN zklN zrlN Go.Proofs.Tryz.prog 0 [0, 2, 8] 199 ?a) => ?a) ?h
 case h =>
 intro zc zv zk zr hc hv hk hr
 conv => lhs; cbv; try simp only [hc, hv, hk, hr, zclN, zvlN, zklN, zrlN]
theorem f199_ok : compF Go.Proofs.Tryz.prog 0 [0, 2, 8] 199 = some f199 := by kernel_rfl
theorem f199_n : argsOK Go.Proofs.Tryz.prog 199 1 = true := by kernel_rfl
noncomputable def f229 : AFunc := by
 refine (fun (_ : Cz zclN zvlN zklN zrlN Go.Proofs.Tryz.prog 0 [0, 1, 2, 3] 229 ?a) => ?a) ?h
 case h =>
 intro zc zv zk zr hc hv hk hr
 conv => lhs; cbv; try simp only [hc, hv, hk, hr, zclN, zvlN, zklN, zrlN]
theorem f229_ok : compF Go.Proofs.Tryz.prog 0 [0, 1, 2, 3] 229 = some f229 := by kernel_rfl
theorem f229_n : argsOK Go.Proofs.Tryz.prog 229 1 = true := by kernel_rfl
noncomputable def f241 : AFunc := by
 refine (fun (_ : Cz zclN zvlN zklN zrlN Go.Proofs.Tryz.prog 0 [0, 1, 4, 5, 6, 7, 8, 9, 10, 11, 18] 241 ?a) => ?a) ?h
 case h =>
 intro zc zv zk zr hc hv hk hr
 conv => lhs; cbv; try simp only [hc, hv, hk, hr, zclN, zvlN, zklN, zrlN]
theorem f241_ok : compF Go.Proofs.Tryz.prog 0 [0, 1, 4, 5, 6, 7, 8, 9, 10, 11, 18] 241 = some f241 := by kernel_rfl
theorem f241_n : argsOK Go.Proofs.Tryz.prog 241 2 = true := by kernel_rfl
noncomputable def f251 : AFunc := by
 refine (fun (_ : Cz zclN zvlN zklN zrlN Go.Proofs.Tryz.prog 0 [0, 1, 2] 251 ?a) => ?a) ?h
 case h =>
 intro zc zv zk zr hc hv hk hr
 conv => lhs; cbv; try simp only [hc, hv, hk, hr, zclN, zvlN, zklN, zrlN]
theorem f251_ok : compF Go.Proofs.Tryz.prog 0 [0, 1, 2] 251 = some f251 := by kernel_rfl
theorem f251_n : argsOK Go.Proofs.Tryz.prog 251 1 = true := by kernel_rfl
end Go.AM.F

set_option maxRecDepth 100000
set_option maxHeartbeats 0
namespace Go.AM.F
def Z70O : List Value := [(.int .i64 0), (.int .i64 0), (.int .u64 0), (.int .u64 0), (.int .u64 0)] ++ List.replicate 64 (.int .u8 0) ++ [(.int .u32 0)]
def Z256O : List Value := List.replicate 256 (.int .u8 0)
def Z257O : List Value := [(.int .i64 0)] ++ List.replicate 256 (.int .u8 0)
def zclO : TypeId → List Value
 | 33 => [(.int .i64 0), (.int .i64 0), (.int .u64 0), (.int .u32 0), (.int .u32 0), (.slice none 0 0)]
 | 67 => [(.slice none 0 0), (.slice none 0 0), (.slice none 0 0), (.slice none 0 0), (.pointer none), (.pointer none), (.pointer none), (.pointer none), (.pointer none), (.int .i64 0), (.int .i64 0), (.bool false)]
 | 9 => [(.string ByteArray.empty)]
 | 134 => [(.string ByteArray.empty), (.int .i64 0)]
 | 137 => [(.string ByteArray.empty), (.int .i64 0), (.slice none 0 0), (.slice none 0 0), (.slice none 0 0), (.slice none 0 0)]
 | 60 => [(.slice none 0 0), (.slice none 0 0), (.slice none 0 0), (.slice none 0 0)]
 | 153 => [(.int .i64 0), (.int .i64 0), (.pointer none), (.pointer none), (.pointer none), (.bool false)]
 | 108 => [(.pointer none)]
 | 110 => [(.pointer none), .nilIface, (.int .i64 0)]
 | 103 => Z70O
 | 160 => [(.pointer none)]
 | 230 => [(.int .u8 0), (.int .i64 0), (.int .u64 0), (.int .u32 0), (.int .u32 0), (.slice none 0 0)]
 | 236 => [(.int .u8 0), (.int .i64 0), (.int .i64 0), (.int .u64 0), (.int .u32 0)]
 | 239 => [(.int .u8 0), (.int .u8 0), (.int .i64 0), (.int .i64 0), (.slice none 0 0)]
 | 286 => [(.slice none 0 0), (.slice none 0 0), (.int .u64 0), (.int .u32 0), (.int .u64 0)]
 | 290 => [(.slice none 0 0), (.slice none 0 0), (.int .u64 0), (.int .u32 0), (.int .u64 0)]
 | 3 => [(.int .i64 0)]
 | 293 => Z256O
 | 295 => Z257O
 | 328 => [(.int .u64 0), (.int .u64 0), (.int .u64 0), (.int .u32 0), (.int .u32 0), (.int .u64 0)]
 | _ => []
def zvlO : TypeId → Value
 | 230 => (.agg #[(.int .u8 0), (.int .i64 0), (.int .u64 0), (.int .u32 0), (.int .u32 0), (.slice none 0 0)])
 | 236 => (.agg #[(.int .u8 0), (.int .i64 0), (.int .i64 0), (.int .u64 0), (.int .u32 0)])
 | 103 => (.agg Z70O.toArray)
 | 239 => (.agg #[(.int .u8 0), (.int .u8 0), (.int .i64 0), (.int .i64 0), (.slice none 0 0)])
 | _ => undef
def zklO : TypeId → List Nat
 | _ => []
def zrlO : Nat → TypeId → List Value
 | 2, 2 => [(.int .i64 0), (.int .i64 0)]
 | 1, 2 => [(.int .i64 0)]
 | _, _ => []
noncomputable def f11 : AFunc := by
 refine (fun (_ : Cz zclO zvlO zklO zrlO Go.Proofs.Tryz.prog 0 [0, 1, 2, 3, 5, 8, 9, 12, 19] 11 ?a) => ?a) ?h
 case h =>
 intro zc zv zk zr hc hv hk hr
 conv => lhs; cbv; try simp only [hc, hv, hk, hr, zclO, zvlO, zklO, zrlO]
theorem f11_ok : compF Go.Proofs.Tryz.prog 0 [0, 1, 2, 3, 5, 8, 9, 12, 19] 11 = some f11 := by kernel_rfl
theorem f11_n : argsOK Go.Proofs.Tryz.prog 11 4 = true := by kernel_rfl
noncomputable def f21 : AFunc := by
 refine (fun (_ : Cz zclO zvlO zklO zrlO Go.Proofs.Tryz.prog 0 [0, 1, 2, 5, 6, 7, 8, 9, 10, 14, 46] 21 ?a) => ?a) ?h
 case h =>
 intro zc zv zk zr hc hv hk hr
 conv => lhs; cbv; try simp only [hc, hv, hk, hr, zclO, zvlO, zklO, zrlO]
theorem f21_ok : compF Go.Proofs.Tryz.prog 0 [0, 1, 2, 5, 6, 7, 8, 9, 10, 14, 46] 21 = some f21 := by kernel_rfl
theorem f21_n : argsOK Go.Proofs.Tryz.prog 21 3 = true := by kernel_rfl
noncomputable def f32 : AFunc := by
 refine (fun (_ : Cz zclO zvlO zklO zrlO Go.Proofs.Tryz.prog 0 [0, 1, 2, 3] 32 ?a) => ?a) ?h
 case h =>
 intro zc zv zk zr hc hv hk hr
 conv => lhs; cbv; try simp only [hc, hv, hk, hr, zclO, zvlO, zklO, zrlO]
theorem f32_ok : compF Go.Proofs.Tryz.prog 0 [0, 1, 2, 3] 32 = some f32 := by kernel_rfl
theorem f32_n : argsOK Go.Proofs.Tryz.prog 32 3 = true := by kernel_rfl
noncomputable def f42 : AFunc := by
 refine (fun (_ : Cz zclO zvlO zklO zrlO Go.Proofs.Tryz.prog 0 [0, 1, 2, 4, 5, 6, 7, 8, 9, 10, 17, 25, 34, 51, 52, 66] 42 ?a) => ?a) ?h
 case h =>
 intro zc zv zk zr hc hv hk hr
 conv => lhs; cbv; try simp only [hc, hv, hk, hr, zclO, zvlO, zklO, zrlO]
theorem f42_ok : compF Go.Proofs.Tryz.prog 0 [0, 1, 2, 4, 5, 6, 7, 8, 9, 10, 17, 25, 34, 51, 52, 66] 42 = some f42 := by kernel_rfl
theorem f42_n : argsOK Go.Proofs.Tryz.prog 42 2 = true := by kernel_rfl
noncomputable def f52 : AFunc := by
 refine (fun (_ : Cz zclO zvlO zklO zrlO Go.Proofs.Tryz.prog 0 [0, 2, 8] 52 ?a) => ?a) ?h
 case h =>
 intro zc zv zk zr hc hv hk hr
 conv => lhs; cbv; try simp only [hc, hv, hk, hr, zclO, zvlO, zklO, zrlO]
theorem f52_ok : compF Go.Proofs.Tryz.prog 0 [0, 2, 8] 52 = some f52 := by kernel_rfl
theorem f52_n : argsOK Go.Proofs.Tryz.prog 52 1 = true := by kernel_rfl
noncomputable def f62 : AFunc := by
 refine (fun (_ : Cz zclO zvlO zklO zrlO Go.Proofs.Tryz.prog 0 [0, 2, 3, 4, 5, 6, 7, 9, 10, 11, 18, 30, 37] 62 ?a) => ?a) ?h
 case h =>
 intro zc zv zk zr hc hv hk hr
 conv => lhs; cbv; try simp only [hc, hv, hk, hr, zclO, zvlO, zklO, zrlO]
theorem f62_ok : compF Go.Proofs.Tryz.prog 0 [0, 2, 3, 4, 5, 6, 7, 9, 10, 11, 18, 30, 37] 62 = some f62 := by kernel_rfl
theorem f62_n : argsOK Go.Proofs.Tryz.prog 62 1 = true := by kernel_rfl
noncomputable def f76 : AFunc := by
 refine (fun (_ : Cz zclO zvlO zklO zrlO Go.Proofs.Tryz.prog 0 [0, 1] 76 ?a) => ?a) ?h
 case h =>
 intro zc zv zk zr hc hv hk hr
 conv => lhs; cbv; try simp only [hc, hv, hk, hr, zclO, zvlO, zklO, zrlO]
theorem f76_ok : compF Go.Proofs.Tryz.prog 0 [0, 1] 76 = some f76 := by kernel_rfl
theorem f76_n : argsOK Go.Proofs.Tryz.prog 76 2 = true := by kernel_rfl
noncomputable def f88 : AFunc := by
 refine (fun (_ : Cz zclO zvlO zklO zrlO Go.Proofs.Tryz.prog 0 [0, 2, 3, 4, 5, 12] 88 ?a) => ?a) ?h
 case h =>
 intro zc zv zk zr hc hv hk hr
 conv => lhs; cbv; try simp only [hc, hv, hk, hr, zclO, zvlO, zklO, zrlO]
theorem f88_ok : compF Go.Proofs.Tryz.prog 0 [0, 2, 3, 4, 5, 12] 88 = some f88 := by kernel_rfl
theorem f88_n : argsOK Go.Proofs.Tryz.prog 88 1 = true := by kernel_rfl
noncomputable def f101 : AFunc := by
 refine (fun (_ : Cz zclO zvlO zklO zrlO Go.Proofs.Tryz.prog 0 [0, 2, 3, 4, 5, 6, 7, 8, 9, 10, 16, 40, 52] 101 ?a) => ?a) ?h
 case h =>
 intro zc zv zk zr hc hv hk hr
 conv => lhs; cbv; try simp only [hc, hv, hk, hr, zclO, zvlO, zklO, zrlO]
theorem f101_ok : compF Go.Proofs.Tryz.prog 0 [0, 2, 3, 4, 5, 6, 7, 8, 9, 10, 16, 40, 52] 101 = some f101 := by kernel_rfl
theorem f101_n : argsOK Go.Proofs.Tryz.prog 101 1 = true := by kernel_rfl
noncomputable def f121 : AFunc := by
 refine (fun (_ : Cz zclO zvlO zklO zrlO Go.Proofs.Tryz.prog 0 [0, 1, 2, 3, 4, 5, 12] 121 ?a) => ?a) ?h
 case h =>
 intro zc zv zk zr hc hv hk hr
 conv => lhs; cbv; try simp only [hc, hv, hk, hr, zclO, zvlO, zklO, zrlO]
theorem f121_ok : compF Go.Proofs.Tryz.prog 0 [0, 1, 2, 3, 4, 5, 12] 121 = some f121 := by kernel_rfl
theorem f121_n : argsOK Go.Proofs.Tryz.prog 121 1 = true := by kernel_rfl
noncomputable def f136 : AFunc := by
 refine (fun (_ : Cz zclO zvlO zklO zrlO Go.Proofs.Tryz.prog 0 [0, 1, 3, 4, 5, 6, 7, 8, 9, 10, 18] 136 ?a) => ?a) ?h
 case h =>
 intro zc zv zk zr hc hv hk hr
 conv => lhs; cbv; try simp only [hc, hv, hk, hr, zclO, zvlO, zklO, zrlO]
theorem f136_ok : compF Go.Proofs.Tryz.prog 0 [0, 1, 3, 4, 5, 6, 7, 8, 9, 10, 18] 136 = some f136 := by kernel_rfl
theorem f136_n : argsOK Go.Proofs.Tryz.prog 136 2 = true := by kernel_rfl
noncomputable def f146 : AFunc := by
 refine (fun (_ : Cz zclO zvlO zklO zrlO Go.Proofs.Tryz.prog 0 [0, 1, 3, 4, 5, 6, 7, 9, 14, 27, 28, 29, 33] 146 ?a) => ?a) ?h
 case h =>
 intro zc zv zk zr hc hv hk hr
 have e0A := (rfl : rfA Go.Proofs.Tryz.prog 146 0 = rfA Go.Proofs.Tryz.prog 146 0); conv at e0A => rhs; cbv
 have e0B := (rfl : rfB Go.Proofs.Tryz.prog 146 0 = rfB Go.Proofs.Tryz.prog 146 0); conv at e0B => rhs; cbv
 conv => lhs; cbv; try simp only [hc, hv, hk, hr, zclO, zvlO, zklO, zrlO]; simp only [← e0A, ← e0B]
theorem f146_ok : compF Go.Proofs.Tryz.prog 0 [0, 1, 3, 4, 5, 6, 7, 9, 14, 27, 28, 29, 33] 146 = some f146 := by kernel_rfl
theorem f146_n : argsOK Go.Proofs.Tryz.prog 146 2 = true := by kernel_rfl
noncomputable def f146r0a : ACode := by
 refine (fun (_ : CzC zclO zvlO zklO zrlO Go.Proofs.Tryz.prog 0 37 [0, 1, 3, 4, 5, 6, 7, 9, 14, 27, 28, 29, 33] (rfA Go.Proofs.Tryz.prog 146 0) ?a) => ?a) ?h
 case h => intro zc zv zk zr hc hv hk hr; conv => lhs; cbv; try simp only [hc, hv, hk, hr, zclO, zvlO, zklO, zrlO]
theorem f146r0a_ok : compC Go.Proofs.Tryz.prog 0 37 [0, 1, 3, 4, 5, 6, 7, 9, 14, 27, 28, 29, 33] (rfA Go.Proofs.Tryz.prog 146 0) = some f146r0a := by kernel_rfl
noncomputable def f146r0b : ACode := by
 refine (fun (_ : CzC zclO zvlO zklO zrlO Go.Proofs.Tryz.prog 0 37 [0, 1, 3, 4, 5, 6, 7, 9, 14, 27, 28, 29, 33] (rfB Go.Proofs.Tryz.prog 146 0) ?a) => ?a) ?h
 case h => intro zc zv zk zr hc hv hk hr; conv => lhs; cbv; try simp only [hc, hv, hk, hr, zclO, zvlO, zklO, zrlO]
theorem f146r0b_ok : compC Go.Proofs.Tryz.prog 0 37 [0, 1, 3, 4, 5, 6, 7, 9, 14, 27, 28, 29, 33] (rfB Go.Proofs.Tryz.prog 146 0) = some f146r0b := by kernel_rfl
theorem f146r0_n : (noRF (rfA Go.Proofs.Tryz.prog 146 0) && noRF (rfB Go.Proofs.Tryz.prog 146 0)) = true := by kernel_rfl
noncomputable def f164 : AFunc := by
 refine (fun (_ : Cz zclO zvlO zklO zrlO Go.Proofs.Tryz.prog 0 [0, 3, 7, 8, 9, 10] 164 ?a) => ?a) ?h
 case h =>
 intro zc zv zk zr hc hv hk hr
 conv => lhs; cbv; try simp only [hc, hv, hk, hr, zclO, zvlO, zklO, zrlO]
theorem f164_ok : compF Go.Proofs.Tryz.prog 0 [0, 3, 7, 8, 9, 10] 164 = some f164 := by kernel_rfl
theorem f164_n : argsOK Go.Proofs.Tryz.prog 164 1 = true := by kernel_rfl
noncomputable def f176 : AFunc := by
 refine (fun (_ : Cz zclO zvlO zklO zrlO Go.Proofs.Tryz.prog 0 [0, 1, 2] 176 ?a) => ?a) ?h
 case h =>
 intro zc zv zk zr hc hv hk hr
 conv => lhs; cbv; try simp only [hc, hv, hk, hr, zclO, zvlO, zklO, zrlO]
theorem f176_ok : compF Go.Proofs.Tryz.prog 0 [0, 1, 2] 176 = some f176 := by kernel_rfl
theorem f176_n : argsOK Go.Proofs.Tryz.prog 176 1 = true := by kernel_rfl
noncomputable def f200 : AFunc := by
 refine (fun (_ : Cz zclO zvlO zklO zrlO Go.Proofs.Tryz.prog 0 [0, 1, 3, 8, 18] 200 ?a) => ?a) ?h
 case h =>
 intro zc zv zk zr hc hv hk hr
 conv => lhs; cbv; try simp only [hc, hv, hk, hr, zclO, zvlO, zklO, zrlO]
theorem f200_ok : compF Go.Proofs.Tryz.prog 0 [0, 1, 3, 8, 18] 200 = some f200 := by kernel_rfl
theorem f200_n : argsOK Go.Proofs.Tryz.prog 200 2 = true := by kernel_rfl
noncomputable def f230 : AFunc := by
 refine (fun (_ : Cz zclO zvlO zklO zrlO Go.Proofs.Tryz.prog 0 [0, 1, 2, 3, 4, 6] 230 ?a) => ?a) ?h
 case h =>
 intro zc zv zk zr hc hv hk hr
 conv => lhs; cbv; try simp only [hc, hv, hk, hr, zclO, zvlO, zklO, zrlO]
theorem f230_ok : compF Go.Proofs.Tryz.prog 0 [0, 1, 2, 3, 4, 6] 230 = some f230 := by kernel_rfl
theorem f230_n : argsOK Go.Proofs.Tryz.prog 230 3 = true := by kernel_rfl
noncomputable def f242 : AFunc := by
 refine (fun (_ : Cz zclO zvlO zklO zrlO Go.Proofs.Tryz.prog 0 [0, 1, 2, 4, 5] 242 ?a) => ?a) ?h
 case h =>
 intro zc zv zk zr hc hv hk hr
 conv => lhs; cbv; try simp only [hc, hv, hk, hr, zclO, zvlO, zklO, zrlO]
theorem f242_ok : compF Go.Proofs.Tryz.prog 0 [0, 1, 2, 4, 5] 242 = some f242 := by kernel_rfl
theorem f242_n : argsOK Go.Proofs.Tryz.prog 242 3 = true := by kernel_rfl
noncomputable def f252 : AFunc := by
 refine (fun (_ : Cz zclO zvlO zklO zrlO Go.Proofs.Tryz.prog 0 [0, 1, 2, 3, 6, 7, 8, 9, 11, 12, 13, 14, 20] 252 ?a) => ?a) ?h
 case h =>
 intro zc zv zk zr hc hv hk hr
 conv => lhs; cbv; try simp only [hc, hv, hk, hr, zclO, zvlO, zklO, zrlO]
theorem f252_ok : compF Go.Proofs.Tryz.prog 0 [0, 1, 2, 3, 6, 7, 8, 9, 11, 12, 13, 14, 20] 252 = some f252 := by kernel_rfl
theorem f252_n : argsOK Go.Proofs.Tryz.prog 252 3 = true := by kernel_rfl
end Go.AM.F

set_option maxRecDepth 100000
set_option maxHeartbeats 0
namespace Go.AM.F
def Z256P : List Value := List.replicate 256 (.int .u8 0)
def Z68P : List Value := [(.int .u64 0), (.int .u64 0), (.int .u64 0)] ++ List.replicate 64 (.int .u8 0) ++ [(.int .u32 0)]
def Z74P : List Value := [(.pointer none), (.int .u64 0), (.int .u64 0), (.int .u64 0)] ++ List.replicate 64 (.int .u8 0) ++ [(.int .u32 0), (.int .u64 0), (.int .u32 0), (.int .u32 0), (.slice none 0 0), (.int .u64 0)]
def zclP : TypeId → List Value
 | 41 => [(.int .i64 0), (.int .i64 0), (.int .u64 0), (.int .u32 0)]
 | 293 => Z256P
 | 149 => [(.slice none 0 0), (.slice none 0 0), (.int .i64 0), (.pointer none), (.bool false)]
 | 29 => Z68P
 | 93 => [(.pointer none), (.pointer none), (.pointer none), (.int .i64 0), (.bool false)]
 | 249 => [(.slice none 0 0), (.slice none 0 0), (.slice none 0 0), (.slice none 0 0), (.map none)]
 | 134 => [(.string ByteArray.empty), (.int .i64 0)]
 | 135 => [(.string ByteArray.empty), (.int .i64 0)]
 | 137 => [(.string ByteArray.empty), (.int .i64 0), (.slice none 0 0), (.slice none 0 0), (.slice none 0 0), (.slice none 0 0)]
 | 22 => [(.int .u64 0)]
 | 39 => [(.int .u64 0), (.int .u32 0)]
 | 358 => Z74P
 | 89 => [(.int .u8 0), (.int .i64 0)]
 | _ => []
def zvlP : TypeId → Value
 | _ => undef
def zklP : TypeId → List Nat
 | _ => []
def zrlP : Nat → TypeId → List Value
 | 1, 3 => [(.int .i64 0)]
 | _, _ => []
noncomputable def f12 : AFunc := by
 refine (fun (_ : Cz zclP zvlP zklP zrlP Go.Proofs.Tryz.prog 0 [0, 1, 2, 6, 7, 10, 16] 12 ?a) => ?a) ?h
 case h =>
 intro zc zv zk zr hc hv hk hr
 conv => lhs; cbv; try simp only [hc, hv, hk, hr, zclP, zvlP, zklP, zrlP]
theorem f12_ok : compF Go.Proofs.Tryz.prog 0 [0, 1, 2, 6, 7, 10, 16] 12 = some f12 := by kernel_rfl
theorem f12_n : argsOK Go.Proofs.Tryz.prog 12 3 = true := by kernel_rfl
noncomputable def f22 : AFunc := by
 refine (fun (_ : Cz zclP zvlP zklP zrlP Go.Proofs.Tryz.prog 0 [0, 2, 3, 12] 22 ?a) => ?a) ?h
 case h =>
 intro zc zv zk zr hc hv hk hr
 conv => lhs; cbv; try simp only [hc, hv, hk, hr, zclP, zvlP, zklP, zrlP]
theorem f22_ok : compF Go.Proofs.Tryz.prog 0 [0, 2, 3, 12] 22 = some f22 := by kernel_rfl
theorem f22_n : argsOK Go.Proofs.Tryz.prog 22 1 = true := by kernel_rfl
noncomputable def f33 : AFunc := by
 refine (fun (_ : Cz zclP zvlP zklP zrlP Go.Proofs.Tryz.prog 0 [0, 1, 2, 6, 7, 8, 9, 13, 14, 15, 33] 33 ?a) => ?a) ?h
 case h =>
 intro zc zv zk zr hc hv hk hr
 conv => lhs; cbv; try simp only [hc, hv, hk, hr, zclP, zvlP, zklP, zrlP]
theorem f33_ok : compF Go.Proofs.Tryz.prog 0 [0, 1, 2, 6, 7, 8, 9, 13, 14, 15, 33] 33 = some f33 := by kernel_rfl
theorem f33_n : argsOK Go.Proofs.Tryz.prog 33 3 = true := by kernel_rfl
noncomputable def f43 : AFunc := by
 refine (fun (_ : Cz zclP zvlP zklP zrlP Go.Proofs.Tryz.prog 0 [0, 2] 43 ?a) => ?a) ?h
 case h =>
 intro zc zv zk zr hc hv hk hr
 conv => lhs; cbv; try simp only [hc, hv, hk, hr, zclP, zvlP, zklP, zrlP]
theorem f43_ok : compF Go.Proofs.Tryz.prog 0 [0, 2] 43 = some f43 := by kernel_rfl
theorem f43_n : argsOK Go.Proofs.Tryz.prog 43 1 = true := by kernel_rfl
noncomputable def f53 : AFunc := by
 refine (fun (_ : Cz zclP zvlP zklP zrlP Go.Proofs.Tryz.prog 0 [0, 1, 3, 4, 5, 6, 8, 22, 23, 24, 30, 40, 50] 53 ?a) => ?a) ?h
 case h =>
 intro zc zv zk zr hc hv hk hr
 conv => lhs; cbv; try simp only [hc, hv, hk, hr, zclP, zvlP, zklP, zrlP]
theorem f53_ok : compF Go.Proofs.Tryz.prog 0 [0, 1, 3, 4, 5, 6, 8, 22, 23, 24, 30, 40, 50] 53 = some f53 := by kernel_rfl
theorem f53_n : argsOK Go.Proofs.Tryz.prog 53 2 = true := by kernel_rfl
noncomputable def f63 : AFunc := by
 refine (fun (_ : Cz zclP zvlP zklP zrlP Go.Proofs.Tryz.prog 0 [0] 63 ?a) => ?a) ?h
 case h =>
 intro zc zv zk zr hc hv hk hr
 conv => lhs; cbv; try simp only [hc, hv, hk, hr, zclP, zvlP, zklP, zrlP]
theorem f63_ok : compF Go.Proofs.Tryz.prog 0 [0] 63 = some f63 := by kernel_rfl
theorem f63_n : argsOK Go.Proofs.Tryz.prog 63 0 = true := by kernel_rfl
noncomputable def f77 : AFunc := by
 refine (fun (_ : Cz zclP zvlP zklP zrlP Go.Proofs.Tryz.prog 0 [0, 1, 5, 6, 7, 8, 9] 77 ?a) => ?a) ?h
 case h =>
 intro zc zv zk zr hc hv hk hr
 conv => lhs; cbv; try simp only [hc, hv, hk, hr, zclP, zvlP, zklP, zrlP]
theorem f77_ok : compF Go.Proofs.Tryz.prog 0 [0, 1, 5, 6, 7, 8, 9] 77 = some f77 := by kernel_rfl
theorem f77_n : argsOK Go.Proofs.Tryz.prog 77 2 = true := by kernel_rfl
noncomputable def f89 : AFunc := by
 refine (fun (_ : Cz zclP zvlP zklP zrlP Go.Proofs.Tryz.prog 0 [0, 2, 3, 4, 5, 6, 13] 89 ?a) => ?a) ?h
 case h =>
 intro zc zv zk zr hc hv hk hr
 conv => lhs; cbv; try simp only [hc, hv, hk, hr, zclP, zvlP, zklP, zrlP]
theorem f89_ok : compF Go.Proofs.Tryz.prog 0 [0, 2, 3, 4, 5, 6, 13] 89 = some f89 := by kernel_rfl
theorem f89_n : argsOK Go.Proofs.Tryz.prog 89 1 = true := by kernel_rfl
noncomputable def f108 : AFunc := by
 refine (fun (_ : Cz zclP zvlP zklP zrlP Go.Proofs.Tryz.prog 0 [0, 1, 2, 3, 4, 5, 6, 7, 8, 9, 10, 11, 12, 13, 14, 15, 16, 42, 47, 48, 49, 50, 68, 69, 70, 71, 98, 99, 100, 101, 128, 129, 130, 131] 108 ?a) => ?a) ?h
 case h =>
 intro zc zv zk zr hc hv hk hr
 conv => lhs; cbv; try simp only [hc, hv, hk, hr, zclP, zvlP, zklP, zrlP]
theorem f108_ok : compF Go.Proofs.Tryz.prog 0 [0, 1, 2, 3, 4, 5, 6, 7, 8, 9, 10, 11, 12, 13, 14, 15, 16, 42, 47, 48, 49, 50, 68, 69, 70, 71, 98, 99, 100, 101, 128, 129, 130, 131] 108 = some f108 := by kernel_rfl
theorem f108_n : argsOK Go.Proofs.Tryz.prog 108 1 = true := by kernel_rfl
noncomputable def f122 : AFunc := by
 refine (fun (_ : Cz zclP zvlP zklP zrlP Go.Proofs.Tryz.prog 0 [0, 2, 4] 122 ?a) => ?a) ?h
 case h =>
 intro zc zv zk zr hc hv hk hr
 conv => lhs; cbv; try simp only [hc, hv, hk, hr, zclP, zvlP, zklP, zrlP]
theorem f122_ok : compF Go.Proofs.Tryz.prog 0 [0, 2, 4] 122 = some f122 := by kernel_rfl
theorem f122_n : argsOK Go.Proofs.Tryz.prog 122 1 = true := by kernel_rfl
noncomputable def f137 : AFunc := by
 refine (fun (_ : Cz zclP zvlP zklP zrlP Go.Proofs.Tryz.prog 0 [0, 2] 137 ?a) => ?a) ?h
 case h =>
 intro zc zv zk zr hc hv hk hr
 conv => lhs; cbv; try simp only [hc, hv, hk, hr, zclP, zvlP, zklP, zrlP]
theorem f137_ok : compF Go.Proofs.Tryz.prog 0 [0, 2] 137 = some f137 := by kernel_rfl
theorem f137_n : argsOK Go.Proofs.Tryz.prog 137 1 = true := by kernel_rfl
noncomputable def f147 : AFunc := by
 refine (fun (_ : Cz zclP zvlP zklP zrlP Go.Proofs.Tryz.prog 0 [0, 1, 4, 5, 6, 9, 15, 25] 147 ?a) => ?a) ?h
 case h =>
 intro zc zv zk zr hc hv hk hr
 conv => lhs; cbv; try simp only [hc, hv, hk, hr, zclP, zvlP, zklP, zrlP]
theorem f147_ok : compF Go.Proofs.Tryz.prog 0 [0, 1, 4, 5, 6, 9, 15, 25] 147 = some f147 := by kernel_rfl
theorem f147_n : argsOK Go.Proofs.Tryz.prog 147 2 = true := by kernel_rfl
noncomputable def f165 : AFunc := by
 refine (fun (_ : Cz zclP zvlP zklP zrlP Go.Proofs.Tryz.prog 0 [0, 1, 4] 165 ?a) => ?a) ?h
 case h =>
 intro zc zv zk zr hc hv hk hr
 conv => lhs; cbv; try simp only [hc, hv, hk, hr, zclP, zvlP, zklP, zrlP]
theorem f165_ok : compF Go.Proofs.Tryz.prog 0 [0, 1, 4] 165 = some f165 := by kernel_rfl
theorem f165_n : argsOK Go.Proofs.Tryz.prog 165 2 = true := by kernel_rfl
noncomputable def f186 : AFunc := by
 refine (fun (_ : Cz zclP zvlP zklP zrlP Go.Proofs.Tryz.prog 0 [0, 1, 2, 3, 4, 6, 7, 8, 9, 16, 23, 24, 25, 26, 30, 31, 32, 41] 186 ?a) => ?a) ?h
 case h =>
 intro zc zv zk zr hc hv hk hr
 conv => lhs; cbv; try simp only [hc, hv, hk, hr, zclP, zvlP, zklP, zrlP]
theorem f186_ok : compF Go.Proofs.Tryz.prog 0 [0, 1, 2, 3, 4, 6, 7, 8, 9, 16, 23, 24, 25, 26, 30, 31, 32, 41] 186 = some f186 := by kernel_rfl
theorem f186_n : argsOK Go.Proofs.Tryz.prog 186 1 = true := by kernel_rfl
noncomputable def f219 : AFunc := by
 refine (fun (_ : Cz zclP zvlP zklP zrlP Go.Proofs.Tryz.prog 0 [0, 1, 2, 4, 5, 6, 7, 8, 10, 11, 12, 13, 15, 39, 40, 41, 42, 53, 54, 55, 59, 74, 75, 76, 80] 219 ?a) => ?a) ?h
 case h =>
 intro zc zv zk zr hc hv hk hr
 conv => lhs; cbv; try simp only [hc, hv, hk, hr, zclP, zvlP, zklP, zrlP]
theorem f219_ok : compF Go.Proofs.Tryz.prog 0 [0, 1, 2, 4, 5, 6, 7, 8, 10, 11, 12, 13, 15, 39, 40, 41, 42, 53, 54, 55, 59, 74, 75, 76, 80] 219 = some f219 := by kernel_rfl
theorem f219_n : argsOK Go.Proofs.Tryz.prog 219 3 = true := by kernel_rfl
noncomputable def f232 : AFunc := by
 refine (fun (_ : Cz zclP zvlP zklP zrlP Go.Proofs.Tryz.prog 0 [0, 1, 3] 232 ?a) => ?a) ?h
 case h =>
 intro zc zv zk zr hc hv hk hr
 conv => lhs; cbv; try simp only [hc, hv, hk, hr, zclP, zvlP, zklP, zrlP]
theorem f232_ok : compF Go.Proofs.Tryz.prog 0 [0, 1, 3] 232 = some f232 := by kernel_rfl
theorem f232_n : argsOK Go.Proofs.Tryz.prog 232 2 = true := by kernel_rfl
noncomputable def f243 : AFunc := by
 refine (fun (_ : Cz zclP zvlP zklP zrlP Go.Proofs.Tryz.prog 0 [0, 1, 2, 4, 5] 243 ?a) => ?a) ?h
 case h =>
 intro zc zv zk zr hc hv hk hr
 conv => lhs; cbv; try simp only [hc, hv, hk, hr, zclP, zvlP, zklP, zrlP]
theorem f243_ok : compF Go.Proofs.Tryz.prog 0 [0, 1, 2, 4, 5] 243 = some f243 := by kernel_rfl
theorem f243_n : argsOK Go.Proofs.Tryz.prog 243 3 = true := by kernel_rfl
noncomputable def f253 : AFunc := by
 refine (fun (_ : Cz zclP zvlP zklP zrlP Go.Proofs.Tryz.prog 0 [0, 1, 2] 253 ?a) => ?a) ?h
 case h =>
 intro zc zv zk zr hc hv hk hr
 conv => lhs; cbv; try simp only [hc, hv, hk, hr, zclP, zvlP, zklP, zrlP]
theorem f253_ok : compF Go.Proofs.Tryz.prog 0 [0, 1, 2] 253 = some f253 := by kernel_rfl
theorem f253_n : argsOK Go.Proofs.Tryz.prog 253 1 = true := by kernel_rfl
end Go.AM.F

set_option maxRecDepth 100000
set_option maxHeartbeats 0
namespace Go.AM.TPn
open Go.Proofs Go.AM.F Go.AM.Ev
noncomputable def RT : List RDef := [⟨14, [0, 1, 2, 3, 4, 5, 6, 7, 11, 12, 13], #[12], rfA Go.Proofs.Tryz.prog 114 0, rfB Go.Proofs.Tryz.prog 114 0, f114r0a, f114r0b⟩,
 ⟨133, [0, 2, 3, 4, 5, 6, 7, 9, 10, 11, 12, 13, 14, 15, 18, 22, 28, 29, 62, 80, 82, 89, 93, 94, 95, 111, 125, 126, 131], #[126], rfA Go.Proofs.Tryz.prog 115 0, rfB Go.Proofs.Tryz.prog 115 0, f115r0a, f115r0b⟩,
 ⟨37, [0, 1, 3, 4, 5, 6, 7, 9, 14, 27, 28, 29, 33], #[28, 29], rfA Go.Proofs.Tryz.prog 146 0, rfB Go.Proofs.Tryz.prog 146 0, f146r0a, f146r0b⟩,
 ⟨18, [0, 1, 2, 3, 5, 9, 10, 11], #[10, 11], rfA Go.Proofs.Tryz.prog 175 0, rfB Go.Proofs.Tryz.prog 175 0, f175r0a, f175r0b⟩,
 ⟨21, [0, 1, 2, 4, 5, 6, 12, 13], #[13], rfA Go.Proofs.Tryz.prog 254 0, rfB Go.Proofs.Tryz.prog 254 0, f254r0a, f254r0b⟩,
 ⟨13, [0, 1, 2, 4, 5, 6, 7], #[7], rfA Go.Proofs.Tryz.prog 257 0, rfB Go.Proofs.Tryz.prog 257 0, f257r0a, f257r0b⟩]
theorem RT_ok : RTok Go.Proofs.Tryz.prog 0 RT := by
 intro d hd
 simp only [RT, List.mem_cons, List.not_mem_nil, or_false] at hd
 rcases hd with rfl | rfl | rfl | rfl | rfl | rfl
 · exact ⟨f114r0a_ok, f114r0b_ok, f114r0_n, by decide, by kernel_rfl, by kernel_rfl⟩
 · exact ⟨f115r0a_ok, f115r0b_ok, f115r0_n, by decide, by kernel_rfl, by kernel_rfl⟩
 · exact ⟨f146r0a_ok, f146r0b_ok, f146r0_n, by decide, by kernel_rfl, by kernel_rfl⟩
 · exact ⟨f175r0a_ok, f175r0b_ok, f175r0_n, by decide, by kernel_rfl, by kernel_rfl⟩
 · exact ⟨f254r0a_ok, f254r0b_ok, f254r0_n, by decide, by kernel_rfl, by kernel_rfl⟩
 · exact ⟨f257r0a_ok, f257r0b_ok, f257r0_n, by decide, by kernel_rfl, by kernel_rfl⟩
noncomputable def e3 : EF := ⟨2, f3.sl, f3.res, simpC f3.body⟩
theorem e3_ok : EFok RT Go.Proofs.Tryz.prog 0 3 e3 := ok_sf f3_ok rfl f3_n
noncomputable def e4 : EF := ⟨1, f4.sl, f4.res, simpC f4.body⟩
theorem e4_ok : EFok RT Go.Proofs.Tryz.prog 0 4 e4 := ok_sf f4_ok rfl f4_n
noncomputable def e5 : EF := ⟨3, f5.sl, f5.res, simpC f5.body⟩
theorem e5_ok : EFok RT Go.Proofs.Tryz.prog 0 5 e5 := ok_sf f5_ok rfl f5_n
noncomputable def e6 : EF := ⟨4, f6.sl, f6.res, simpC f6.body⟩
theorem e6_ok : EFok RT Go.Proofs.Tryz.prog 0 6 e6 := ok_sf f6_ok rfl f6_n
noncomputable def e7 : EF := ⟨1, f7.sl, f7.res, simpC f7.body⟩
theorem e7_ok : EFok RT Go.Proofs.Tryz.prog 0 7 e7 := ok_sf f7_ok rfl f7_n
noncomputable def e8 : EF := ⟨1, f8.sl, f8.res, simpC f8.body⟩
theorem e8_ok : EFok RT Go.Proofs.Tryz.prog 0 8 e8 := ok_sf f8_ok rfl f8_n
noncomputable def e9 : EF := ⟨1, f9.sl, f9.res, simpC f9.body⟩
theorem e9_ok : EFok RT Go.Proofs.Tryz.prog 0 9 e9 := ok_sf f9_ok rfl f9_n
noncomputable def e10 : EF := ⟨2, f10.sl, f10.res, simpC f10.body⟩
theorem e10_ok : EFok RT Go.Proofs.Tryz.prog 0 10 e10 := ok_sf f10_ok rfl f10_n
noncomputable def e11 : EF := ⟨4, f11.sl, f11.res, simpC f11.body⟩
theorem e11_ok : EFok RT Go.Proofs.Tryz.prog 0 11 e11 := ok_sf f11_ok rfl f11_n
noncomputable def e12 : EF := ⟨3, f12.sl, f12.res, simpC f12.body⟩
theorem e12_ok : EFok RT Go.Proofs.Tryz.prog 0 12 e12 := ok_sf f12_ok rfl f12_n
noncomputable def e13 : EF := ⟨1, f13.sl, f13.res, simpC f13.body⟩
theorem e13_ok : EFok RT Go.Proofs.Tryz.prog 0 13 e13 := ok_sf f13_ok rfl f13_n
noncomputable def e14 : EF := ⟨1, f14.sl, f14.res, simpC f14.body⟩
theorem e14_ok : EFok RT Go.Proofs.Tryz.prog 0 14 e14 := ok_sf f14_ok rfl f14_n
noncomputable def e15 : EF := ⟨1, f15.sl, f15.res, simpC f15.body⟩
theorem e15_ok : EFok RT Go.Proofs.Tryz.prog 0 15 e15 := ok_sf f15_ok rfl f15_n
noncomputable def e16 : EF := ⟨0, f16.sl, f16.res, simpC f16.body⟩
theorem e16_ok : EFok RT Go.Proofs.Tryz.prog 0 16 e16 := ok_sf f16_ok rfl f16_n
noncomputable def e17 : EF := ⟨1, f17.sl, f17.res, simpC f17.body⟩
theorem e17_ok : EFok RT Go.Proofs.Tryz.prog 0 17 e17 := ok_sf f17_ok rfl f17_n
noncomputable def e18 : EF := ⟨2, f18.sl, f18.res, simpC f18.body⟩
theorem e18_ok : EFok RT Go.Proofs.Tryz.prog 0 18 e18 := ok_sf f18_ok rfl f18_n
noncomputable def e19 : EF := ⟨1, f19.sl, f19.res, simpC f19.body⟩
theorem e19_ok : EFok RT Go.Proofs.Tryz.prog 0 19 e19 := ok_sf f19_ok rfl f19_n
noncomputable def e20 : EF := ⟨2, f20.sl, f20.res, simpC f20.body⟩
theorem e20_ok : EFok RT Go.Proofs.Tryz.prog 0 20 e20 := ok_sf f20_ok rfl f20_n
noncomputable def e21 : EF := ⟨3, f21.sl, f21.res, simpC f21.body⟩
theorem e21_ok : EFok RT Go.Proofs.Tryz.prog 0 21 e21 := ok_sf f21_ok rfl f21_n
noncomputable def e22 : EF := ⟨1, f22.sl, f22.res, simpC f22.body⟩
theorem e22_ok : EFok RT Go.Proofs.Tryz.prog 0 22 e22 := ok_sf f22_ok rfl f22_n
noncomputable def e23 : EF := ⟨1, f23.sl, f23.res, simpC f23.body⟩
theorem e23_ok : EFok RT Go.Proofs.Tryz.prog 0 23 e23 := ok_sf f23_ok rfl f23_n
noncomputable def e25 : EF := ⟨1, f25.sl, f25.res, simpC f25.body⟩
theorem e25_ok : EFok RT Go.Proofs.Tryz.prog 0 25 e25 := ok_sf f25_ok rfl f25_n
noncomputable def e26 : EF := ⟨1, f26.sl, f26.res, simpC f26.body⟩
theorem e26_ok : EFok RT Go.Proofs.Tryz.prog 0 26 e26 := ok_sf f26_ok rfl f26_n
noncomputable def e27 : EF := ⟨4, f27.sl, f27.res, simpC f27.body⟩
theorem e27_ok : EFok RT Go.Proofs.Tryz.prog 0 27 e27 := ok_sf f27_ok rfl f27_n
noncomputable def e28 : EF := ⟨4, f28.sl, f28.res, simpC f28.body⟩
theorem e28_ok : EFok RT Go.Proofs.Tryz.prog 0 28 e28 := ok_sf f28_ok rfl f28_n
noncomputable def e29 : EF := ⟨1, f29.sl, f29.res, simpC f29.body⟩
theorem e29_ok : EFok RT Go.Proofs.Tryz.prog 0 29 e29 := ok_sf f29_ok rfl f29_n
noncomputable def e30 : EF := ⟨2, f30.sl, f30.res, simpC f30.body⟩
theorem e30_ok : EFok RT Go.Proofs.Tryz.prog 0 30 e30 := ok_sf f30_ok rfl f30_n
noncomputable def e31 : EF := ⟨2, f31.sl, f31.res, simpC f31.body⟩
theorem e31_ok : EFok RT Go.Proofs.Tryz.prog 0 31 e31 := ok_sf f31_ok rfl f31_n
noncomputable def e32 : EF := ⟨3, f32.sl, f32.res, simpC f32.body⟩
theorem e32_ok : EFok RT Go.Proofs.Tryz.prog 0 32 e32 := ok_sf f32_ok rfl f32_n
noncomputable def e33 : EF := ⟨3, f33.sl, f33.res, simpC f33.body⟩
theorem e33_ok : EFok RT Go.Proofs.Tryz.prog 0 33 e33 := ok_sf f33_ok rfl f33_n
noncomputable def e34 : EF := ⟨2, f34.sl, f34.res, simpC f34.body⟩
theorem e34_ok : EFok RT Go.Proofs.Tryz.prog 0 34 e34 := ok_sf f34_ok rfl f34_n
noncomputable def e35 : EF := ⟨2, f35.sl, f35.res, simpC f35.body⟩
theorem e35_ok : EFok RT Go.Proofs.Tryz.prog 0 35 e35 := ok_sf f35_ok rfl f35_n
noncomputable def e36 : EF := ⟨2, f36.sl, f36.res, simpC f36.body⟩
theorem e36_ok : EFok RT Go.Proofs.Tryz.prog 0 36 e36 := ok_sf f36_ok rfl f36_n
noncomputable def e37 : EF := ⟨3, f37.sl, f37.res, simpC f37.body⟩
theorem e37_ok : EFok RT Go.Proofs.Tryz.prog 0 37 e37 := ok_sf f37_ok rfl f37_n
noncomputable def e38 : EF := ⟨1, f38.sl, f38.res, simpC f38.body⟩
theorem e38_ok : EFok RT Go.Proofs.Tryz.prog 0 38 e38 := ok_sf f38_ok rfl f38_n
noncomputable def e39 : EF := ⟨1, f39.sl, f39.res, simpC f39.body⟩
theorem e39_ok : EFok RT Go.Proofs.Tryz.prog 0 39 e39 := ok_sf f39_ok rfl f39_n
noncomputable def e40 : EF := ⟨1, f40.sl, f40.res, simpC f40.body⟩
theorem e40_ok : EFok RT Go.Proofs.Tryz.prog 0 40 e40 := ok_sf f40_ok rfl f40_n
noncomputable def e41 : EF := ⟨0, f41.sl, f41.res, simpC f41.body⟩
theorem e41_ok : EFok RT Go.Proofs.Tryz.prog 0 41 e41 := ok_sf f41_ok rfl f41_n
noncomputable def e42 : EF := ⟨2, f42.sl, f42.res, simpC f42.body⟩
theorem e42_ok : EFok RT Go.Proofs.Tryz.prog 0 42 e42 := ok_sf f42_ok rfl f42_n
noncomputable def e43 : EF := ⟨1, f43.sl, f43.res, simpC f43.body⟩
theorem e43_ok : EFok RT Go.Proofs.Tryz.prog 0 43 e43 := ok_sf f43_ok rfl f43_n
noncomputable def e44 : EF := ⟨2, f44.sl, f44.res, simpC f44.body⟩
theorem e44_ok : EFok RT Go.Proofs.Tryz.prog 0 44 e44 := ok_sf f44_ok rfl f44_n
noncomputable def e45 : EF := ⟨2, f45.sl, f45.res, simpC f45.body⟩
theorem e45_ok : EFok RT Go.Proofs.Tryz.prog 0 45 e45 := ok_sf f45_ok rfl f45_n
noncomputable def e46 : EF := ⟨3, f46.sl, f46.res, simpC f46.body⟩
theorem e46_ok : EFok RT Go.Proofs.Tryz.prog 0 46 e46 := ok_sf f46_ok rfl f46_n
noncomputable def e47 : EF := ⟨1, f47.sl, f47.res, simpC f47.body⟩
theorem e47_ok : EFok RT Go.Proofs.Tryz.prog 0 47 e47 := ok_sf f47_ok rfl f47_n
noncomputable def e48 : EF := ⟨1, f48.sl, f48.res, simpC f48.body⟩
theorem e48_ok : EFok RT Go.Proofs.Tryz.prog 0 48 e48 := ok_sf f48_ok rfl f48_n
noncomputable def e49 : EF := ⟨2, f49.sl, f49.res, simpC f49.body⟩
theorem e49_ok : EFok RT Go.Proofs.Tryz.prog 0 49 e49 := ok_sf f49_ok rfl f49_n
noncomputable def e50 : EF := ⟨1, f50.sl, f50.res, simpC f50.body⟩
theorem e50_ok : EFok RT Go.Proofs.Tryz.prog 0 50 e50 := ok_sf f50_ok rfl f50_n
noncomputable def e51 : EF := ⟨1, f51.sl, f51.res, simpC f51.body⟩
theorem e51_ok : EFok RT Go.Proofs.Tryz.prog 0 51 e51 := ok_sf f51_ok rfl f51_n
noncomputable def e52 : EF := ⟨1, f52.sl, f52.res, simpC f52.body⟩
theorem e52_ok : EFok RT Go.Proofs.Tryz.prog 0 52 e52 := ok_sf f52_ok rfl f52_n
noncomputable def e53 : EF := ⟨2, f53.sl, f53.res, simpC f53.body⟩
theorem e53_ok : EFok RT Go.Proofs.Tryz.prog 0 53 e53 := ok_sf f53_ok rfl f53_n
noncomputable def e54 : EF := ⟨2, f54.sl, f54.res, simpC f54.body⟩
theorem e54_ok : EFok RT Go.Proofs.Tryz.prog 0 54 e54 := ok_sf f54_ok rfl f54_n
noncomputable def e55 : EF := ⟨2, f55.sl, f55.res, simpC f55.body⟩
theorem e55_ok : EFok RT Go.Proofs.Tryz.prog 0 55 e55 := ok_sf f55_ok rfl f55_n
noncomputable def e56 : EF := ⟨2, f56.sl, f56.res, simpC f56.body⟩
theorem e56_ok : EFok RT Go.Proofs.Tryz.prog 0 56 e56 := ok_sf f56_ok rfl f56_n
noncomputable def e57 : EF := ⟨2, f57.sl, f57.res, simpC f57.body⟩
theorem e57_ok : EFok RT Go.Proofs.Tryz.prog 0 57 e57 := ok_sf f57_ok rfl f57_n
noncomputable def e58 : EF := ⟨2, f58.sl, f58.res, simpC f58.body⟩
theorem e58_ok : EFok RT Go.Proofs.Tryz.prog 0 58 e58 := ok_sf f58_ok rfl f58_n
noncomputable def e59 : EF := ⟨2, f59.sl, f59.res, simpC f59.body⟩
theorem e59_ok : EFok RT Go.Proofs.Tryz.prog 0 59 e59 := ok_sf f59_ok rfl f59_n
noncomputable def e60 : EF := ⟨1, f60.sl, f60.res, simpC f60.body⟩
theorem e60_ok : EFok RT Go.Proofs.Tryz.prog 0 60 e60 := ok_sf f60_ok rfl f60_n
noncomputable def e61 : EF := ⟨1, f61.sl, f61.res, simpC f61.body⟩
theorem e61_ok : EFok RT Go.Proofs.Tryz.prog 0 61 e61 := ok_sf f61_ok rfl f61_n
noncomputable def e62 : EF := ⟨1, f62.sl, f62.res, simpC f62.body⟩
theorem e62_ok : EFok RT Go.Proofs.Tryz.prog 0 62 e62 := ok_sf f62_ok rfl f62_n
noncomputable def e63 : EF := ⟨0, f63.sl, f63.res, simpC f63.body⟩
theorem e63_ok : EFok RT Go.Proofs.Tryz.prog 0 63 e63 := ok_sf f63_ok rfl f63_n
noncomputable def e64 : EF := ⟨2, f64.sl, f64.res, simpC f64.body⟩
theorem e64_ok : EFok RT Go.Proofs.Tryz.prog 0 64 e64 := ok_sf f64_ok rfl f64_n
noncomputable def e65 : EF := ⟨1, f65.sl, f65.res, simpC f65.body⟩
theorem e65_ok : EFok RT Go.Proofs.Tryz.prog 0 65 e65 := ok_sf f65_ok rfl f65_n
noncomputable def e66 : EF := ⟨2, f66.sl, f66.res, simpC f66.body⟩
theorem e66_ok : EFok RT Go.Proofs.Tryz.prog 0 66 e66 := ok_sf f66_ok rfl f66_n
noncomputable def e70 : EF := ⟨1, f70.sl, f70.res, simpC f70.body⟩
theorem e70_ok : EFok RT Go.Proofs.Tryz.prog 0 70 e70 := ok_sf f70_ok rfl f70_n
noncomputable def e71 : EF := ⟨1, f71.sl, f71.res, simpC f71.body⟩
theorem e71_ok : EFok RT Go.Proofs.Tryz.prog 0 71 e71 := ok_sf f71_ok rfl f71_n
noncomputable def e73 : EF := ⟨1, f73.sl, f73.res, simpC f73.body⟩
theorem e73_ok : EFok RT Go.Proofs.Tryz.prog 0 73 e73 := ok_sf f73_ok rfl f73_n
noncomputable def e74 : EF := ⟨2, f74.sl, f74.res, simpC f74.body⟩
theorem e74_ok : EFok RT Go.Proofs.Tryz.prog 0 74 e74 := ok_sf f74_ok rfl f74_n
noncomputable def e75 : EF := ⟨3, f75.sl, f75.res, simpC f75.body⟩
theorem e75_ok : EFok RT Go.Proofs.Tryz.prog 0 75 e75 := ok_sf f75_ok rfl f75_n
noncomputable def e76 : EF := ⟨2, f76.sl, f76.res, simpC f76.body⟩
theorem e76_ok : EFok RT Go.Proofs.Tryz.prog 0 76 e76 := ok_sf f76_ok rfl f76_n
noncomputable def e77 : EF := ⟨2, f77.sl, f77.res, simpC f77.body⟩
theorem e77_ok : EFok RT Go.Proofs.Tryz.prog 0 77 e77 := ok_sf f77_ok rfl f77_n
noncomputable def e78 : EF := ⟨2, f78.sl, f78.res, simpC f78.body⟩
theorem e78_ok : EFok RT Go.Proofs.Tryz.prog 0 78 e78 := ok_sf f78_ok rfl f78_n
noncomputable def e79 : EF := ⟨2, f79.sl, f79.res, simpC f79.body⟩
theorem e79_ok : EFok RT Go.Proofs.Tryz.prog 0 79 e79 := ok_sf f79_ok rfl f79_n
noncomputable def e80 : EF := ⟨2, f80.sl, f80.res, simpC f80.body⟩
theorem e80_ok : EFok RT Go.Proofs.Tryz.prog 0 80 e80 := ok_sf f80_ok rfl f80_n
noncomputable def e83 : EF := ⟨1, f83.sl, f83.res, simpC f83.body⟩
theorem e83_ok : EFok RT Go.Proofs.Tryz.prog 0 83 e83 := ok_sf f83_ok rfl f83_n
noncomputable def e84 : EF := ⟨1, f84.sl, f84.res, simpC f84.body⟩
theorem e84_ok : EFok RT Go.Proofs.Tryz.prog 0 84 e84 := ok_sf f84_ok rfl f84_n
noncomputable def e85 : EF := ⟨1, f85.sl, f85.res, simpC f85.body⟩
theorem e85_ok : EFok RT Go.Proofs.Tryz.prog 0 85 e85 := ok_sf f85_ok rfl f85_n
noncomputable def e86 : EF := ⟨1, f86.sl, f86.res, simpC f86.body⟩
theorem e86_ok : EFok RT Go.Proofs.Tryz.prog 0 86 e86 := ok_sf f86_ok rfl f86_n
noncomputable def e87 : EF := ⟨2, f87.sl, f87.res, simpC f87.body⟩
theorem e87_ok : EFok RT Go.Proofs.Tryz.prog 0 87 e87 := ok_sf f87_ok rfl f87_n
noncomputable def e88 : EF := ⟨1, f88.sl, f88.res, simpC f88.body⟩
theorem e88_ok : EFok RT Go.Proofs.Tryz.prog 0 88 e88 := ok_sf f88_ok rfl f88_n
noncomputable def e89 : EF := ⟨1, f89.sl, f89.res, simpC f89.body⟩
theorem e89_ok : EFok RT Go.Proofs.Tryz.prog 0 89 e89 := ok_sf f89_ok rfl f89_n
noncomputable def e91 : EF := ⟨2, f91.sl, f91.res, simpC f91.body⟩
theorem e91_ok : EFok RT Go.Proofs.Tryz.prog 0 91 e91 := ok_sf f91_ok rfl f91_n
noncomputable def e92 : EF := ⟨1, f92.sl, f92.res, simpC f92.body⟩
theorem e92_ok : EFok RT Go.Proofs.Tryz.prog 0 92 e92 := ok_sf f92_ok rfl f92_n
noncomputable def e93 : EF := ⟨2, f93.sl, f93.res, simpC f93.body⟩
theorem e93_ok : EFok RT Go.Proofs.Tryz.prog 0 93 e93 := ok_sf f93_ok rfl f93_n
noncomputable def e95 : EF := ⟨1, f95.sl, f95.res, simpC f95.body⟩
theorem e95_ok : EFok RT Go.Proofs.Tryz.prog 0 95 e95 := ok_sf f95_ok rfl f95_n
noncomputable def e96 : EF := ⟨1, f96.sl, f96.res, simpC f96.body⟩
theorem e96_ok : EFok RT Go.Proofs.Tryz.prog 0 96 e96 := ok_sf f96_ok rfl f96_n
noncomputable def e97 : EF := ⟨1, f97.sl, f97.res, simpC f97.body⟩
theorem e97_ok : EFok RT Go.Proofs.Tryz.prog 0 97 e97 := ok_sf f97_ok rfl f97_n
noncomputable def e98 : EF := ⟨3, f98.sl, f98.res, simpC f98.body⟩
theorem e98_ok : EFok RT Go.Proofs.Tryz.prog 0 98 e98 := ok_sf f98_ok rfl f98_n
noncomputable def e99 : EF := ⟨1, f99.sl, f99.res, simpC f99.body⟩
theorem e99_ok : EFok RT Go.Proofs.Tryz.prog 0 99 e99 := ok_sf f99_ok rfl f99_n
noncomputable def e100 : EF := ⟨2, f100.sl, f100.res, simpC f100.body⟩
theorem e100_ok : EFok RT Go.Proofs.Tryz.prog 0 100 e100 := ok_sf f100_ok rfl f100_n
noncomputable def e101 : EF := ⟨1, f101.sl, f101.res, simpC f101.body⟩
theorem e101_ok : EFok RT Go.Proofs.Tryz.prog 0 101 e101 := ok_sf f101_ok rfl f101_n
noncomputable def e102 : EF := ⟨2, f102.sl, f102.res, simpC f102.body⟩
theorem e102_ok : EFok RT Go.Proofs.Tryz.prog 0 102 e102 := ok_sf f102_ok rfl f102_n
noncomputable def e103 : EF := ⟨2, f103.sl, f103.res, simpC f103.body⟩
theorem e103_ok : EFok RT Go.Proofs.Tryz.prog 0 103 e103 := ok_sf f103_ok rfl f103_n
noncomputable def e105 : EF := ⟨1, f105.sl, f105.res, simpC f105.body⟩
theorem e105_ok : EFok RT Go.Proofs.Tryz.prog 0 105 e105 := ok_sf f105_ok rfl f105_n
noncomputable def e106 : EF := ⟨2, f106.sl, f106.res, simpC f106.body⟩
theorem e106_ok : EFok RT Go.Proofs.Tryz.prog 0 106 e106 := ok_sf f106_ok rfl f106_n
noncomputable def e107 : EF := ⟨2, f107.sl, f107.res, simpC f107.body⟩
theorem e107_ok : EFok RT Go.Proofs.Tryz.prog 0 107 e107 := ok_sf f107_ok rfl f107_n
noncomputable def e108 : EF := ⟨1, f108.sl, f108.res, simpC f108.body⟩
theorem e108_ok : EFok RT Go.Proofs.Tryz.prog 0 108 e108 := ok_sf f108_ok rfl f108_n
noncomputable def e109 : EF := ⟨2, f109.sl, f109.res, simpC f109.body⟩
theorem e109_ok : EFok RT Go.Proofs.Tryz.prog 0 109 e109 := ok_sf f109_ok rfl f109_n
noncomputable def e110 : EF := ⟨2, f110.sl, f110.res, simpC f110.body⟩
theorem e110_ok : EFok RT Go.Proofs.Tryz.prog 0 110 e110 := ok_sf f110_ok rfl f110_n
noncomputable def e111 : EF := ⟨2, f111.sl, f111.res, simpC f111.body⟩
theorem e111_ok : EFok RT Go.Proofs.Tryz.prog 0 111 e111 := ok_sf f111_ok rfl f111_n
noncomputable def e112 : EF := ⟨1, f112.sl, f112.res, simpC f112.body⟩
theorem e112_ok : EFok RT Go.Proofs.Tryz.prog 0 112 e112 := ok_sf f112_ok rfl f112_n
noncomputable def e113 : EF := ⟨1, f113.sl, f113.res, simpC f113.body⟩
theorem e113_ok : EFok RT Go.Proofs.Tryz.prog 0 113 e113 := ok_sf f113_ok rfl f113_n
noncomputable def e114 : EF := ⟨3, f114.sl, f114.res, encC f114.body 0⟩
theorem e114_ok : EFok RT Go.Proofs.Tryz.prog 0 114 e114 := ok_rf f114_ok rfl f114_n (by kernel_rfl)
noncomputable def e115 : EF := ⟨1, f115.sl, f115.res, encC f115.body 1⟩
theorem e115_ok : EFok RT Go.Proofs.Tryz.prog 0 115 e115 := ok_rf f115_ok rfl f115_n (by kernel_rfl)
noncomputable def e116 : EF := ⟨2, f116.sl, f116.res, simpC f116.body⟩
theorem e116_ok : EFok RT Go.Proofs.Tryz.prog 0 116 e116 := ok_sf f116_ok rfl f116_n
noncomputable def e121 : EF := ⟨1, f121.sl, f121.res, simpC f121.body⟩
theorem e121_ok : EFok RT Go.Proofs.Tryz.prog 0 121 e121 := ok_sf f121_ok rfl f121_n
noncomputable def e122 : EF := ⟨1, f122.sl, f122.res, simpC f122.body⟩
theorem e122_ok : EFok RT Go.Proofs.Tryz.prog 0 122 e122 := ok_sf f122_ok rfl f122_n
noncomputable def e123 : EF := ⟨3, f123.sl, f123.res, simpC f123.body⟩
theorem e123_ok : EFok RT Go.Proofs.Tryz.prog 0 123 e123 := ok_sf f123_ok rfl f123_n
noncomputable def e124 : EF := ⟨1, f124.sl, f124.res, simpC f124.body⟩
theorem e124_ok : EFok RT Go.Proofs.Tryz.prog 0 124 e124 := ok_sf f124_ok rfl f124_n
noncomputable def e125 : EF := ⟨1, f125.sl, f125.res, simpC f125.body⟩
theorem e125_ok : EFok RT Go.Proofs.Tryz.prog 0 125 e125 := ok_sf f125_ok rfl f125_n
noncomputable def e126 : EF := ⟨1, f126.sl, f126.res, simpC f126.body⟩
theorem e126_ok : EFok RT Go.Proofs.Tryz.prog 0 126 e126 := ok_sf f126_ok rfl f126_n
noncomputable def e129 : EF := ⟨2, f129.sl, f129.res, simpC f129.body⟩
theorem e129_ok : EFok RT Go.Proofs.Tryz.prog 0 129 e129 := ok_sf f129_ok rfl f129_n
noncomputable def e132 : EF := ⟨1, f132.sl, f132.res, simpC f132.body⟩
theorem e132_ok : EFok RT Go.Proofs.Tryz.prog 0 132 e132 := ok_sf f132_ok rfl f132_n
noncomputable def e133 : EF := ⟨3, f133.sl, f133.res, simpC f133.body⟩
theorem e133_ok : EFok RT Go.Proofs.Tryz.prog 0 133 e133 := ok_sf f133_ok rfl f133_n
noncomputable def e134 : EF := ⟨2, f134.sl, f134.res, simpC f134.body⟩
theorem e134_ok : EFok RT Go.Proofs.Tryz.prog 0 134 e134 := ok_sf f134_ok rfl f134_n
noncomputable def e135 : EF := ⟨2, f135.sl, f135.res, simpC f135.body⟩
theorem e135_ok : EFok RT Go.Proofs.Tryz.prog 0 135 e135 := ok_sf f135_ok rfl f135_n
noncomputable def e136 : EF := ⟨2, f136.sl, f136.res, simpC f136.body⟩
theorem e136_ok : EFok RT Go.Proofs.Tryz.prog 0 136 e136 := ok_sf f136_ok rfl f136_n
noncomputable def e137 : EF := ⟨1, f137.sl, f137.res, simpC f137.body⟩
theorem e137_ok : EFok RT Go.Proofs.Tryz.prog 0 137 e137 := ok_sf f137_ok rfl f137_n
noncomputable def e138 : EF := ⟨2, f138.sl, f138.res, simpC f138.body⟩
theorem e138_ok : EFok RT Go.Proofs.Tryz.prog 0 138 e138 := ok_sf f138_ok rfl f138_n
noncomputable def e139 : EF := ⟨2, f139.sl, f139.res, simpC f139.body⟩
theorem e139_ok : EFok RT Go.Proofs.Tryz.prog 0 139 e139 := ok_sf f139_ok rfl f139_n
noncomputable def e140 : EF := ⟨1, f140.sl, f140.res, simpC f140.body⟩
theorem e140_ok : EFok RT Go.Proofs.Tryz.prog 0 140 e140 := ok_sf f140_ok rfl f140_n
noncomputable def e141 : EF := ⟨2, f141.sl, f141.res, simpC f141.body⟩
theorem e141_ok : EFok RT Go.Proofs.Tryz.prog 0 141 e141 := ok_sf f141_ok rfl f141_n
noncomputable def e142 : EF := ⟨2, f142.sl, f142.res, simpC f142.body⟩
theorem e142_ok : EFok RT Go.Proofs.Tryz.prog 0 142 e142 := ok_sf f142_ok rfl f142_n
noncomputable def e143 : EF := ⟨2, f143.sl, f143.res, simpC f143.body⟩
theorem e143_ok : EFok RT Go.Proofs.Tryz.prog 0 143 e143 := ok_sf f143_ok rfl f143_n
noncomputable def e144 : EF := ⟨3, f144.sl, f144.res, simpC f144.body⟩
theorem e144_ok : EFok RT Go.Proofs.Tryz.prog 0 144 e144 := ok_sf f144_ok rfl f144_n
noncomputable def e145 : EF := ⟨1, f145.sl, f145.res, simpC f145.body⟩
theorem e145_ok : EFok RT Go.Proofs.Tryz.prog 0 145 e145 := ok_sf f145_ok rfl f145_n
noncomputable def e146 : EF := ⟨2, f146.sl, f146.res, encC f146.body 2⟩
theorem e146_ok : EFok RT Go.Proofs.Tryz.prog 0 146 e146 := ok_rf f146_ok rfl f146_n (by kernel_rfl)
noncomputable def e147 : EF := ⟨2, f147.sl, f147.res, simpC f147.body⟩
theorem e147_ok : EFok RT Go.Proofs.Tryz.prog 0 147 e147 := ok_sf f147_ok rfl f147_n
noncomputable def e148 : EF := ⟨1, f148.sl, f148.res, simpC f148.body⟩
theorem e148_ok : EFok RT Go.Proofs.Tryz.prog 0 148 e148 := ok_sf f148_ok rfl f148_n
noncomputable def e149 : EF := ⟨2, f149.sl, f149.res, simpC f149.body⟩
theorem e149_ok : EFok RT Go.Proofs.Tryz.prog 0 149 e149 := ok_sf f149_ok rfl f149_n
noncomputable def e150 : EF := ⟨2, f150.sl, f150.res, simpC f150.body⟩
theorem e150_ok : EFok RT Go.Proofs.Tryz.prog 0 150 e150 := ok_sf f150_ok rfl f150_n
noncomputable def e152 : EF := ⟨1, f152.sl, f152.res, simpC f152.body⟩
theorem e152_ok : EFok RT Go.Proofs.Tryz.prog 0 152 e152 := ok_sf f152_ok rfl f152_n
noncomputable def e156 : EF := ⟨2, f156.sl, f156.res, simpC f156.body⟩
theorem e156_ok : EFok RT Go.Proofs.Tryz.prog 0 156 e156 := ok_sf f156_ok rfl f156_n
noncomputable def e158 : EF := ⟨1, f158.sl, f158.res, simpC f158.body⟩
theorem e158_ok : EFok RT Go.Proofs.Tryz.prog 0 158 e158 := ok_sf f158_ok rfl f158_n
noncomputable def e159 : EF := ⟨2, f159.sl, f159.res, simpC f159.body⟩
theorem e159_ok : EFok RT Go.Proofs.Tryz.prog 0 159 e159 := ok_sf f159_ok rfl f159_n
noncomputable def e160 : EF := ⟨2, f160.sl, f160.res, simpC f160.body⟩
theorem e160_ok : EFok RT Go.Proofs.Tryz.prog 0 160 e160 := ok_sf f160_ok rfl f160_n
noncomputable def e161 : EF := ⟨0, f161.sl, f161.res, simpC f161.body⟩
theorem e161_ok : EFok RT Go.Proofs.Tryz.prog 0 161 e161 := ok_sf f161_ok rfl f161_n
noncomputable def e162 : EF := ⟨2, f162.sl, f162.res, simpC f162.body⟩
theorem e162_ok : EFok RT Go.Proofs.Tryz.prog 0 162 e162 := ok_sf f162_ok rfl f162_n
noncomputable def e163 : EF := ⟨1, f163.sl, f163.res, simpC f163.body⟩
theorem e163_ok : EFok RT Go.Proofs.Tryz.prog 0 163 e163 := ok_sf f163_ok rfl f163_n
noncomputable def e164 : EF := ⟨1, f164.sl, f164.res, simpC f164.body⟩
theorem e164_ok : EFok RT Go.Proofs.Tryz.prog 0 164 e164 := ok_sf f164_ok rfl f164_n
noncomputable def e165 : EF := ⟨2, f165.sl, f165.res, simpC f165.body⟩
theorem e165_ok : EFok RT Go.Proofs.Tryz.prog 0 165 e165 := ok_sf f165_ok rfl f165_n
noncomputable def e166 : EF := ⟨1, f166.sl, f166.res, simpC f166.body⟩
theorem e166_ok : EFok RT Go.Proofs.Tryz.prog 0 166 e166 := ok_sf f166_ok rfl f166_n
noncomputable def e168 : EF := ⟨1, f168.sl, f168.res, simpC f168.body⟩
theorem e168_ok : EFok RT Go.Proofs.Tryz.prog 0 168 e168 := ok_sf f168_ok rfl f168_n
noncomputable def e169 : EF := ⟨1, f169.sl, f169.res, simpC f169.body⟩
theorem e169_ok : EFok RT Go.Proofs.Tryz.prog 0 169 e169 := ok_sf f169_ok rfl f169_n
noncomputable def e170 : EF := ⟨3, f170.sl, f170.res, simpC f170.body⟩
theorem e170_ok : EFok RT Go.Proofs.Tryz.prog 0 170 e170 := ok_sf f170_ok rfl f170_n
noncomputable def e171 : EF := ⟨2, f171.sl, f171.res, simpC f171.body⟩
theorem e171_ok : EFok RT Go.Proofs.Tryz.prog 0 171 e171 := ok_sf f171_ok rfl f171_n
noncomputable def e172 : EF := ⟨3, f172.sl, f172.res, simpC f172.body⟩
theorem e172_ok : EFok RT Go.Proofs.Tryz.prog 0 172 e172 := ok_sf f172_ok rfl f172_n
noncomputable def e173 : EF := ⟨2, f173.sl, f173.res, simpC f173.body⟩
theorem e173_ok : EFok RT Go.Proofs.Tryz.prog 0 173 e173 := ok_sf f173_ok rfl f173_n
noncomputable def e174 : EF := ⟨4, f174.sl, f174.res, simpC f174.body⟩
theorem e174_ok : EFok RT Go.Proofs.Tryz.prog 0 174 e174 := ok_sf f174_ok rfl f174_n
noncomputable def e175 : EF := ⟨1, f175.sl, f175.res, encC f175.body 3⟩
theorem e175_ok : EFok RT Go.Proofs.Tryz.prog 0 175 e175 := ok_rf f175_ok rfl f175_n (by kernel_rfl)
noncomputable def e176 : EF := ⟨1, f176.sl, f176.res, simpC f176.body⟩
theorem e176_ok : EFok RT Go.Proofs.Tryz.prog 0 176 e176 := ok_sf f176_ok rfl f176_n
noncomputable def e180 : EF := ⟨1, f180.sl, f180.res, simpC f180.body⟩
theorem e180_ok : EFok RT Go.Proofs.Tryz.prog 0 180 e180 := ok_sf f180_ok rfl f180_n
noncomputable def e184 : EF := ⟨2, f184.sl, f184.res, simpC f184.body⟩
theorem e184_ok : EFok RT Go.Proofs.Tryz.prog 0 184 e184 := ok_sf f184_ok rfl f184_n
noncomputable def e185 : EF := ⟨2, f185.sl, f185.res, simpC f185.body⟩
theorem e185_ok : EFok RT Go.Proofs.Tryz.prog 0 185 e185 := ok_sf f185_ok rfl f185_n
noncomputable def e186 : EF := ⟨1, f186.sl, f186.res, simpC f186.body⟩
theorem e186_ok : EFok RT Go.Proofs.Tryz.prog 0 186 e186 := ok_sf f186_ok rfl f186_n
noncomputable def e187 : EF := ⟨1, f187.sl, f187.res, simpC f187.body⟩
theorem e187_ok : EFok RT Go.Proofs.Tryz.prog 0 187 e187 := ok_sf f187_ok rfl f187_n
noncomputable def e188 : EF := ⟨1, f188.sl, f188.res, simpC f188.body⟩
theorem e188_ok : EFok RT Go.Proofs.Tryz.prog 0 188 e188 := ok_sf f188_ok rfl f188_n
noncomputable def e189 : EF := ⟨2, f189.sl, f189.res, simpC f189.body⟩
theorem e189_ok : EFok RT Go.Proofs.Tryz.prog 0 189 e189 := ok_sf f189_ok rfl f189_n
noncomputable def e190 : EF := ⟨2, f190.sl, f190.res, simpC f190.body⟩
theorem e190_ok : EFok RT Go.Proofs.Tryz.prog 0 190 e190 := ok_sf f190_ok rfl f190_n
noncomputable def e191 : EF := ⟨2, f191.sl, f191.res, simpC f191.body⟩
theorem e191_ok : EFok RT Go.Proofs.Tryz.prog 0 191 e191 := ok_sf f191_ok rfl f191_n
noncomputable def e192 : EF := ⟨1, f192.sl, f192.res, simpC f192.body⟩
theorem e192_ok : EFok RT Go.Proofs.Tryz.prog 0 192 e192 := ok_sf f192_ok rfl f192_n
noncomputable def e193 : EF := ⟨2, f193.sl, f193.res, simpC f193.body⟩
theorem e193_ok : EFok RT Go.Proofs.Tryz.prog 0 193 e193 := ok_sf f193_ok rfl f193_n
noncomputable def e199 : EF := ⟨1, f199.sl, f199.res, simpC f199.body⟩
theorem e199_ok : EFok RT Go.Proofs.Tryz.prog 0 199 e199 := ok_sf f199_ok rfl f199_n
noncomputable def e200 : EF := ⟨2, f200.sl, f200.res, simpC f200.body⟩
theorem e200_ok : EFok RT Go.Proofs.Tryz.prog 0 200 e200 := ok_sf f200_ok rfl f200_n
noncomputable def e219 : EF := ⟨3, f219.sl, f219.res, simpC f219.body⟩
theorem e219_ok : EFok RT Go.Proofs.Tryz.prog 0 219 e219 := ok_sf f219_ok rfl f219_n
noncomputable def e220 : EF := ⟨2, f220.sl, f220.res, simpC f220.body⟩
theorem e220_ok : EFok RT Go.Proofs.Tryz.prog 0 220 e220 := ok_sf f220_ok rfl f220_n
noncomputable def e221 : EF := ⟨2, f221.sl, f221.res, simpC f221.body⟩
theorem e221_ok : EFok RT Go.Proofs.Tryz.prog 0 221 e221 := ok_sf f221_ok rfl f221_n
noncomputable def e222 : EF := ⟨2, f222.sl, f222.res, simpC f222.body⟩
theorem e222_ok : EFok RT Go.Proofs.Tryz.prog 0 222 e222 := ok_sf f222_ok rfl f222_n
noncomputable def e223 : EF := ⟨2, f223.sl, f223.res, simpC f223.body⟩
theorem e223_ok : EFok RT Go.Proofs.Tryz.prog 0 223 e223 := ok_sf f223_ok rfl f223_n
noncomputable def e224 : EF := ⟨2, f224.sl, f224.res, simpC f224.body⟩
theorem e224_ok : EFok RT Go.Proofs.Tryz.prog 0 224 e224 := ok_sf f224_ok rfl f224_n
noncomputable def e227 : EF := ⟨2, f227.sl, f227.res, simpC f227.body⟩
theorem e227_ok : EFok RT Go.Proofs.Tryz.prog 0 227 e227 := ok_sf f227_ok rfl f227_n
noncomputable def e228 : EF := ⟨2, f228.sl, f228.res, simpC f228.body⟩
theorem e228_ok : EFok RT Go.Proofs.Tryz.prog 0 228 e228 := ok_sf f228_ok rfl f228_n
noncomputable def e229 : EF := ⟨1, f229.sl, f229.res, simpC f229.body⟩
theorem e229_ok : EFok RT Go.Proofs.Tryz.prog 0 229 e229 := ok_sf f229_ok rfl f229_n
noncomputable def e230 : EF := ⟨3, f230.sl, f230.res, simpC f230.body⟩
theorem e230_ok : EFok RT Go.Proofs.Tryz.prog 0 230 e230 := ok_sf f230_ok rfl f230_n
noncomputable def e232 : EF := ⟨2, f232.sl, f232.res, simpC f232.body⟩
theorem e232_ok : EFok RT Go.Proofs.Tryz.prog 0 232 e232 := ok_sf f232_ok rfl f232_n
noncomputable def e234 : EF := ⟨2, f234.sl, f234.res, simpC f234.body⟩
theorem e234_ok : EFok RT Go.Proofs.Tryz.prog 0 234 e234 := ok_sf f234_ok rfl f234_n
noncomputable def e235 : EF := ⟨3, f235.sl, f235.res, simpC f235.body⟩
theorem e235_ok : EFok RT Go.Proofs.Tryz.prog 0 235 e235 := ok_sf f235_ok rfl f235_n
noncomputable def e236 : EF := ⟨2, f236.sl, f236.res, simpC f236.body⟩
theorem e236_ok : EFok RT Go.Proofs.Tryz.prog 0 236 e236 := ok_sf f236_ok rfl f236_n
noncomputable def e237 : EF := ⟨2, f237.sl, f237.res, simpC f237.body⟩
theorem e237_ok : EFok RT Go.Proofs.Tryz.prog 0 237 e237 := ok_sf f237_ok rfl f237_n
noncomputable def e238 : EF := ⟨2, f238.sl, f238.res, simpC f238.body⟩
theorem e238_ok : EFok RT Go.Proofs.Tryz.prog 0 238 e238 := ok_sf f238_ok rfl f238_n
noncomputable def e239 : EF := ⟨2, f239.sl, f239.res, simpC f239.body⟩
theorem e239_ok : EFok RT Go.Proofs.Tryz.prog 0 239 e239 := ok_sf f239_ok rfl f239_n
noncomputable def e240 : EF := ⟨4, f240.sl, f240.res, simpC f240.body⟩
theorem e240_ok : EFok RT Go.Proofs.Tryz.prog 0 240 e240 := ok_sf f240_ok rfl f240_n
noncomputable def e241 : EF := ⟨2, f241.sl, f241.res, simpC f241.body⟩
theorem e241_ok : EFok RT Go.Proofs.Tryz.prog 0 241 e241 := ok_sf f241_ok rfl f241_n
noncomputable def e242 : EF := ⟨3, f242.sl, f242.res, simpC f242.body⟩
theorem e242_ok : EFok RT Go.Proofs.Tryz.prog 0 242 e242 := ok_sf f242_ok rfl f242_n
noncomputable def e243 : EF := ⟨3, f243.sl, f243.res, simpC f243.body⟩
theorem e243_ok : EFok RT Go.Proofs.Tryz.prog 0 243 e243 := ok_sf f243_ok rfl f243_n
noncomputable def e244 : EF := ⟨2, f244.sl, f244.res, simpC f244.body⟩
theorem e244_ok : EFok RT Go.Proofs.Tryz.prog 0 244 e244 := ok_sf f244_ok rfl f244_n
noncomputable def e245 : EF := ⟨2, f245.sl, f245.res, simpC f245.body⟩
theorem e245_ok : EFok RT Go.Proofs.Tryz.prog 0 245 e245 := ok_sf f245_ok rfl f245_n
noncomputable def e246 : EF := ⟨1, f246.sl, f246.res, simpC f246.body⟩
theorem e246_ok : EFok RT Go.Proofs.Tryz.prog 0 246 e246 := ok_sf f246_ok rfl f246_n
noncomputable def e247 : EF := ⟨4, f247.sl, f247.res, simpC f247.body⟩
theorem e247_ok : EFok RT Go.Proofs.Tryz.prog 0 247 e247 := ok_sf f247_ok rfl f247_n
noncomputable def e248 : EF := ⟨2, f248.sl, f248.res, simpC f248.body⟩
theorem e248_ok : EFok RT Go.Proofs.Tryz.prog 0 248 e248 := ok_sf f248_ok rfl f248_n
noncomputable def e249 : EF := ⟨3, f249.sl, f249.res, simpC f249.body⟩
theorem e249_ok : EFok RT Go.Proofs.Tryz.prog 0 249 e249 := ok_sf f249_ok rfl f249_n
noncomputable def e250 : EF := ⟨1, f250.sl, f250.res, simpC f250.body⟩
theorem e250_ok : EFok RT Go.Proofs.Tryz.prog 0 250 e250 := ok_sf f250_ok rfl f250_n
noncomputable def e251 : EF := ⟨1, f251.sl, f251.res, simpC f251.body⟩
theorem e251_ok : EFok RT Go.Proofs.Tryz.prog 0 251 e251 := ok_sf f251_ok rfl f251_n
noncomputable def e252 : EF := ⟨3, f252.sl, f252.res, simpC f252.body⟩
theorem e252_ok : EFok RT Go.Proofs.Tryz.prog 0 252 e252 := ok_sf f252_ok rfl f252_n
noncomputable def e253 : EF := ⟨1, f253.sl, f253.res, simpC f253.body⟩
theorem e253_ok : EFok RT Go.Proofs.Tryz.prog 0 253 e253 := ok_sf f253_ok rfl f253_n
noncomputable def e254 : EF := ⟨2, f254.sl, f254.res, encC f254.body 4⟩
theorem e254_ok : EFok RT Go.Proofs.Tryz.prog 0 254 e254 := ok_rf f254_ok rfl f254_n (by kernel_rfl)
noncomputable def e255 : EF := ⟨1, f255.sl, f255.res, simpC f255.body⟩
theorem e255_ok : EFok RT Go.Proofs.Tryz.prog 0 255 e255 := ok_sf f255_ok rfl f255_n
noncomputable def e256 : EF := ⟨1, f256.sl, f256.res, simpC f256.body⟩
theorem e256_ok : EFok RT Go.Proofs.Tryz.prog 0 256 e256 := ok_sf f256_ok rfl f256_n
noncomputable def e257 : EF := ⟨2, f257.sl, f257.res, encC f257.body 5⟩
theorem e257_ok : EFok RT Go.Proofs.Tryz.prog 0 257 e257 := ok_rf f257_ok rfl f257_n (by kernel_rfl)
noncomputable def e258 : EF := ⟨2, f258.sl, f258.res, simpC f258.body⟩
theorem e258_ok : EFok RT Go.Proofs.Tryz.prog 0 258 e258 := ok_sf f258_ok rfl f258_n
noncomputable def tab : Ev.FT := (.meth 224 "Step" 235 (.meth 224 "Right" 234 (.meth 65 "Step" 219 (.meth 65 "Right" 30 (.node 112 e112 (.node 54 e54 (.node 29 e29 (.node 15 e15 (.node 9 e9 (.node 6 e6 (.node 4 e4 (.node 3 e3 .leaf .leaf) (.node 5 e5 .leaf .leaf)) (.node 8 e8 (.node 7 e7 .leaf .leaf) .leaf)) (.node 12 e12 (.node 11 e11 (.node 10 e10 .leaf .leaf) .leaf) (.node 14 e14 (.node 13 e13 .leaf .leaf) .leaf))) (.node 22 e22 (.node 19 e19 (.node 17 e17 (.node 16 e16 .leaf .leaf) (.node 18 e18 .leaf .leaf)) (.node 21 e21 (.node 20 e20 .leaf .leaf) .leaf)) (.node 26 e26 (.node 25 e25 (.node 23 e23 .leaf .leaf) .leaf) (.node 28 e28 (.node 27 e27 .leaf .leaf) .leaf)))) (.node 42 e42 (.node 36 e36 (.node 33 e33 (.node 31 e31 (.node 30 e30 .leaf .leaf) (.node 32 e32 .leaf .leaf)) (.node 35 e35 (.node 34 e34 .leaf .leaf) .leaf)) (.node 39 e39 (.node 38 e38 (.node 37 e37 .leaf .leaf) .leaf) (.node 41 e41 (.node 40 e40 .leaf .leaf) .leaf))) (.node 48 e48 (.node 45 e45 (.node 44 e44 (.node 43 e43 .leaf .leaf) .leaf) (.node 47 e47 (.node 46 e46 .leaf .leaf) .leaf)) (.node 51 e51 (.node 50 e50 (.node 49 e49 .leaf .leaf) .leaf) (.node 53 e53 (.node 52 e52 .leaf .leaf) .leaf))))) (.node 85 e85 (.hookR 67 (toldH pfs) (.node 61 e61 (.node 58 e58 (.node 56 e56 (.node 55 e55 .leaf .leaf) (.node 57 e57 .leaf .leaf)) (.node 60 e60 (.node 59 e59 .leaf .leaf) .leaf)) (.node 64 e64 (.node 63 e63 (.node 62 e62 .leaf .leaf) .leaf) (.node 66 e66 (.node 65 e65 .leaf .leaf) .leaf))) (.node 77 e77 (.node 74 e74 (.node 71 e71 (.node 70 e70 .leaf .leaf) (.node 73 e73 .leaf .leaf)) (.node 76 e76 (.node 75 e75 .leaf .leaf) .leaf)) (.node 80 e80 (.node 79 e79 (.node 78 e78 .leaf .leaf) .leaf) (.node 84 e84 (.node 83 e83 .leaf .leaf) .leaf)))) (.node 100 e100 (.node 93 e93 (.node 89 e89 (.node 87 e87 (.node 86 e86 .leaf .leaf) (.node 88 e88 .leaf .leaf)) (.node 92 e92 (.node 91 e91 .leaf .leaf) .leaf)) (.node 97 e97 (.node 96 e96 (.node 95 e95 .leaf .leaf) .leaf) (.node 99 e99 (.node 98 e98 .leaf .leaf) .leaf))) (.node 106 e106 (.node 103 e103 (.node 102 e102 (.node 101 e101 .leaf .leaf) .leaf) (.node 105 e105 (.hook 104 sumH .leaf .leaf) .leaf)) (.node 109 e109 (.node 108 e108 (.node 107 e107 .leaf .leaf) .leaf) (.node 111 e111 (.node 110 e110 .leaf .leaf) .leaf)))))) (.hook 178 cntH (.node 146 e146 (.node 133 e133 (.node 123 e123 (.node 116 e116 (.node 114 e114 (.node 113 e113 .leaf .leaf) (.node 115 e115 .leaf .leaf)) (.node 122 e122 (.node 121 e121 .leaf .leaf) .leaf)) (.node 126 e126 (.node 125 e125 (.node 124 e124 .leaf .leaf) .leaf) (.node 132 e132 (.node 129 e129 .leaf .leaf) .leaf))) (.node 140 e140 (.node 137 e137 (.node 135 e135 (.node 134 e134 .leaf .leaf) (.node 136 e136 .leaf .leaf)) (.node 139 e139 (.node 138 e138 .leaf .leaf) .leaf)) (.node 143 e143 (.node 142 e142 (.node 141 e141 .leaf .leaf) .leaf) (.node 145 e145 (.node 144 e144 .leaf .leaf) .leaf)))) (.node 164 e164 (.node 158 e158 (.node 150 e150 (.node 148 e148 (.node 147 e147 .leaf .leaf) (.node 149 e149 .leaf .leaf)) (.node 156 e156 (.node 152 e152 .leaf .leaf) .leaf)) (.node 161 e161 (.node 160 e160 (.node 159 e159 .leaf .leaf) .leaf) (.node 163 e163 (.node 162 e162 .leaf .leaf) .leaf))) (.node 171 e171 (.node 168 e168 (.node 166 e166 (.node 165 e165 .leaf .leaf) .leaf) (.node 170 e170 (.node 169 e169 .leaf .leaf) .leaf)) (.node 174 e174 (.node 173 e173 (.node 172 e172 .leaf .leaf) .leaf) (.node 176 e176 (.node 175 e175 .leaf .leaf) .leaf))))) (.node 234 e234 (.node 200 e200 (.node 189 e189 (.node 186 e186 (.node 184 e184 (.node 180 e180 .leaf .leaf) (.node 185 e185 .leaf .leaf)) (.node 188 e188 (.node 187 e187 .leaf .leaf) .leaf)) (.node 192 e192 (.node 191 e191 (.node 190 e190 .leaf .leaf) .leaf) (.node 199 e199 (.node 193 e193 .leaf .leaf) .leaf))) (.node 224 e224 (.node 221 e221 (.node 220 e220 (.node 219 e219 .leaf .leaf) .leaf) (.node 223 e223 (.node 222 e222 .leaf .leaf) .leaf)) (.node 229 e229 (.node 228 e228 (.node 227 e227 .leaf .leaf) .leaf) (.node 232 e232 (.node 230 e230 .leaf .leaf) .leaf)))) (.node 247 e247 (.node 241 e241 (.node 238 e238 (.node 236 e236 (.node 235 e235 .leaf .leaf) (.node 237 e237 .leaf .leaf)) (.node 240 e240 (.node 239 e239 .leaf .leaf) .leaf)) (.node 244 e244 (.node 243 e243 (.node 242 e242 .leaf .leaf) .leaf) (.node 246 e246 (.node 245 e245 .leaf .leaf) .leaf))) (.node 253 e253 (.node 250 e250 (.node 249 e249 (.node 248 e248 .leaf .leaf) .leaf) (.node 252 e252 (.node 251 e251 .leaf .leaf) .leaf)) (.node 256 e256 (.node 255 e255 (.node 254 e254 .leaf .leaf) .leaf) (.node 258 e258 (.node 257 e257 .leaf .leaf) .leaf)))))))))))
theorem tab_ok : tab.ok RT Go.Proofs.Tryz.prog 0 := ⟨by kernel_rfl, ⟨by kernel_rfl, ⟨by kernel_rfl, ⟨by kernel_rfl, ⟨e112_ok, ⟨e54_ok, ⟨e29_ok, ⟨e15_ok, ⟨e9_ok, ⟨e6_ok, ⟨e4_ok, ⟨e3_ok, trivial, trivial⟩, ⟨e5_ok, trivial, trivial⟩⟩, ⟨e8_ok, ⟨e7_ok, trivial, trivial⟩, trivial⟩⟩, ⟨e12_ok, ⟨e11_ok, ⟨e10_ok, trivial, trivial⟩, trivial⟩, ⟨e14_ok, ⟨e13_ok, trivial, trivial⟩, trivial⟩⟩⟩, ⟨e22_ok, ⟨e19_ok, ⟨e17_ok, ⟨e16_ok, trivial, trivial⟩, ⟨e18_ok, trivial, trivial⟩⟩, ⟨e21_ok, ⟨e20_ok, trivial, trivial⟩, trivial⟩⟩, ⟨e26_ok, ⟨e25_ok, ⟨e23_ok, trivial, trivial⟩, trivial⟩, ⟨e28_ok, ⟨e27_ok, trivial, trivial⟩, trivial⟩⟩⟩⟩, ⟨e42_ok, ⟨e36_ok, ⟨e33_ok, ⟨e31_ok, ⟨e30_ok, trivial, trivial⟩, ⟨e32_ok, trivial, trivial⟩⟩, ⟨e35_ok, ⟨e34_ok, trivial, trivial⟩, trivial⟩⟩, ⟨e39_ok, ⟨e38_ok, ⟨e37_ok, trivial, trivial⟩, trivial⟩, ⟨e41_ok, ⟨e40_ok, trivial, trivial⟩, trivial⟩⟩⟩, ⟨e48_ok, ⟨e45_ok, ⟨e44_ok, ⟨e43_ok, trivial, trivial⟩, trivial⟩, ⟨e47_ok, ⟨e46_ok, trivial, trivial⟩, trivial⟩⟩, ⟨e51_ok, ⟨e50_ok, ⟨e49_ok, trivial, trivial⟩, trivial⟩, ⟨e53_ok, ⟨e52_ok, trivial, trivial⟩, trivial⟩⟩⟩⟩⟩, ⟨e85_ok, ⟨toldR, ⟨e61_ok, ⟨e58_ok, ⟨e56_ok, ⟨e55_ok, trivial, trivial⟩, ⟨e57_ok, trivial, trivial⟩⟩, ⟨e60_ok, ⟨e59_ok, trivial, trivial⟩, trivial⟩⟩, ⟨e64_ok, ⟨e63_ok, ⟨e62_ok, trivial, trivial⟩, trivial⟩, ⟨e66_ok, ⟨e65_ok, trivial, trivial⟩, trivial⟩⟩⟩, ⟨e77_ok, ⟨e74_ok, ⟨e71_ok, ⟨e70_ok, trivial, trivial⟩, ⟨e73_ok, trivial, trivial⟩⟩, ⟨e76_ok, ⟨e75_ok, trivial, trivial⟩, trivial⟩⟩, ⟨e80_ok, ⟨e79_ok, ⟨e78_ok, trivial, trivial⟩, trivial⟩, ⟨e84_ok, ⟨e83_ok, trivial, trivial⟩, trivial⟩⟩⟩⟩, ⟨e100_ok, ⟨e93_ok, ⟨e89_ok, ⟨e87_ok, ⟨e86_ok, trivial, trivial⟩, ⟨e88_ok, trivial, trivial⟩⟩, ⟨e92_ok, ⟨e91_ok, trivial, trivial⟩, trivial⟩⟩, ⟨e97_ok, ⟨e96_ok, ⟨e95_ok, trivial, trivial⟩, trivial⟩, ⟨e99_ok, ⟨e98_ok, trivial, trivial⟩, trivial⟩⟩⟩, ⟨e106_ok, ⟨e103_ok, ⟨e102_ok, ⟨e101_ok, trivial, trivial⟩, trivial⟩, ⟨e105_ok, ⟨sum104, trivial, trivial⟩, trivial⟩⟩, ⟨e109_ok, ⟨e108_ok, ⟨e107_ok, trivial, trivial⟩, trivial⟩, ⟨e111_ok, ⟨e110_ok, trivial, trivial⟩, trivial⟩⟩⟩⟩⟩⟩, ⟨cnt178, ⟨e146_ok, ⟨e133_ok, ⟨e123_ok, ⟨e116_ok, ⟨e114_ok, ⟨e113_ok, trivial, trivial⟩, ⟨e115_ok, trivial, trivial⟩⟩, ⟨e122_ok, ⟨e121_ok, trivial, trivial⟩, trivial⟩⟩, ⟨e126_ok, ⟨e125_ok, ⟨e124_ok, trivial, trivial⟩, trivial⟩, ⟨e132_ok, ⟨e129_ok, trivial, trivial⟩, trivial⟩⟩⟩, ⟨e140_ok, ⟨e137_ok, ⟨e135_ok, ⟨e134_ok, trivial, trivial⟩, ⟨e136_ok, trivial, trivial⟩⟩, ⟨e139_ok, ⟨e138_ok, trivial, trivial⟩, trivial⟩⟩, ⟨e143_ok, ⟨e142_ok, ⟨e141_ok, trivial, trivial⟩, trivial⟩, ⟨e145_ok, ⟨e144_ok, trivial, trivial⟩, trivial⟩⟩⟩⟩, ⟨e164_ok, ⟨e158_ok, ⟨e150_ok, ⟨e148_ok, ⟨e147_ok, trivial, trivial⟩, ⟨e149_ok, trivial, trivial⟩⟩, ⟨e156_ok, ⟨e152_ok, trivial, trivial⟩, trivial⟩⟩, ⟨e161_ok, ⟨e160_ok, ⟨e159_ok, trivial, trivial⟩, trivial⟩, ⟨e163_ok, ⟨e162_ok, trivial, trivial⟩, trivial⟩⟩⟩, ⟨e171_ok, ⟨e168_ok, ⟨e166_ok, ⟨e165_ok, trivial, trivial⟩, trivial⟩, ⟨e170_ok, ⟨e169_ok, trivial, trivial⟩, trivial⟩⟩, ⟨e174_ok, ⟨e173_ok, ⟨e172_ok, trivial, trivial⟩, trivial⟩, ⟨e176_ok, ⟨e175_ok, trivial, trivial⟩, trivial⟩⟩⟩⟩⟩, ⟨e234_ok, ⟨e200_ok, ⟨e189_ok, ⟨e186_ok, ⟨e184_ok, ⟨e180_ok, trivial, trivial⟩, ⟨e185_ok, trivial, trivial⟩⟩, ⟨e188_ok, ⟨e187_ok, trivial, trivial⟩, trivial⟩⟩, ⟨e192_ok, ⟨e191_ok, ⟨e190_ok, trivial, trivial⟩, trivial⟩, ⟨e199_ok, ⟨e193_ok, trivial, trivial⟩, trivial⟩⟩⟩, ⟨e224_ok, ⟨e221_ok, ⟨e220_ok, ⟨e219_ok, trivial, trivial⟩, trivial⟩, ⟨e223_ok, ⟨e222_ok, trivial, trivial⟩, trivial⟩⟩, ⟨e229_ok, ⟨e228_ok, ⟨e227_ok, trivial, trivial⟩, trivial⟩, ⟨e232_ok, ⟨e230_ok, trivial, trivial⟩, trivial⟩⟩⟩⟩, ⟨e247_ok, ⟨e241_ok, ⟨e238_ok, ⟨e236_ok, ⟨e235_ok, trivial, trivial⟩, ⟨e237_ok, trivial, trivial⟩⟩, ⟨e240_ok, ⟨e239_ok, trivial, trivial⟩, trivial⟩⟩, ⟨e244_ok, ⟨e243_ok, ⟨e242_ok, trivial, trivial⟩, trivial⟩, ⟨e246_ok, ⟨e245_ok, trivial, trivial⟩, trivial⟩⟩⟩, ⟨e253_ok, ⟨e250_ok, ⟨e249_ok, ⟨e248_ok, trivial, trivial⟩, trivial⟩, ⟨e252_ok, ⟨e251_ok, trivial, trivial⟩, trivial⟩⟩, ⟨e256_ok, ⟨e255_ok, ⟨e254_ok, trivial, trivial⟩, trivial⟩, ⟨e258_ok, ⟨e257_ok, trivial, trivial⟩, trivial⟩⟩⟩⟩⟩⟩⟩⟩⟩⟩⟩
end Go.AM.TPn
