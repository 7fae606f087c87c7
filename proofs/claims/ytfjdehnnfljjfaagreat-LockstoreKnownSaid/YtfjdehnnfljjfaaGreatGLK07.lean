/- Part of the proof. -/
import Derived.Test.YtfjdehnnfljjfaaGreatGLK06
set_option linter.unusedSimpArgs false
set_option linter.unusedVariables false
set_option maxRecDepth 100000
set_option maxHeartbeats 0
namespace Go.AM.F
def Z70O : List Value := [(.int .i64 0), (.int .i64 0), (.int .u64 0), (.int .u64 0), (.int .u64 0)] ++ List.replicate 64 (.int .u8 0) ++ [(.int .u32 0)]
def O68O : List Nat := List.replicate 68 1
def Z68O : List Value := [(.int .u64 0), (.int .u64 0), (.int .u64 0)] ++ List.replicate 64 (.int .u8 0) ++ [(.int .u32 0)]
def Z72O : List Value := [(.int .u8 0), (.int .u64 0), (.int .u64 0), (.int .u64 0)] ++ List.replicate 64 (.int .u8 0) ++ [(.int .u32 0), (.int .i64 0), (.int .i64 0), (.slice none 0 0)]
def zclO : TypeId → List Value
 | 162 => Z70O
 | 94 => Z70O
 | 89 => Z68O
 | 91 => Z72O
 | _ => []
def zvlO : TypeId → Value
 | _ => undef
def zklO : TypeId → List Nat
 | 89 => O68O
 | _ => []
def zrlO : Nat → TypeId → List Value
 | _, _ => []
noncomputable def f57 : AFunc := by
 refine (fun (_ : Cz zclO zvlO zklO zrlO Go.Proofs.Tryz.prog 0 [0, 2, 4] 57 ?a) => ?a) ?h
 case h =>
 intro zc zv zk zr hc hv hk hr
 conv => lhs; cbv; try simp only [hc, hv, hk, hr, zclO, zvlO, zklO, zrlO]
theorem f57_ok : compF Go.Proofs.Tryz.prog 0 [0, 2, 4] 57 = some f57 := by kernel_rfl
theorem f57_n : argsOK Go.Proofs.Tryz.prog 57 1 = true := by kernel_rfl
noncomputable def f58 : AFunc := by
 refine (fun (_ : Cz zclO zvlO zklO zrlO Go.Proofs.Tryz.prog 0 [0, 1, 2, 3, 5, 8, 9, 10, 11, 17, 20, 31, 39, 66] 58 ?a) => ?a) ?h
 case h =>
 intro zc zv zk zr hc hv hk hr
 conv => lhs; cbv; try simp only [hc, hv, hk, hr, zclO, zvlO, zklO, zrlO]
theorem f58_ok : compF Go.Proofs.Tryz.prog 0 [0, 1, 2, 3, 5, 8, 9, 10, 11, 17, 20, 31, 39, 66] 58 = some f58 := by kernel_rfl
theorem f58_n : argsOK Go.Proofs.Tryz.prog 58 4 = true := by kernel_rfl
noncomputable def f59 : AFunc := by
 refine (fun (_ : Cz zclO zvlO zklO zrlO Go.Proofs.Tryz.prog 0 [0, 1, 2, 3, 5, 8, 9, 10, 11, 20, 34, 70] 59 ?a) => ?a) ?h
 case h =>
 intro zc zv zk zr hc hv hk hr
 conv => lhs; cbv; try simp only [hc, hv, hk, hr, zclO, zvlO, zklO, zrlO]
theorem f59_ok : compF Go.Proofs.Tryz.prog 0 [0, 1, 2, 3, 5, 8, 9, 10, 11, 20, 34, 70] 59 = some f59 := by kernel_rfl
theorem f59_n : argsOK Go.Proofs.Tryz.prog 59 4 = true := by kernel_rfl
noncomputable def f60 : AFunc := by
 refine (fun (_ : Cz zclO zvlO zklO zrlO Go.Proofs.Tryz.prog 0 [0, 2, 3, 4, 5, 6, 7] 60 ?a) => ?a) ?h
 case h =>
 intro zc zv zk zr hc hv hk hr
 conv => lhs; cbv; try simp only [hc, hv, hk, hr, zclO, zvlO, zklO, zrlO]
theorem f60_ok : compF Go.Proofs.Tryz.prog 0 [0, 2, 3, 4, 5, 6, 7] 60 = some f60 := by kernel_rfl
theorem f60_n : argsOK Go.Proofs.Tryz.prog 60 1 = true := by kernel_rfl
noncomputable def f61 : AFunc := by
 refine (fun (_ : Cz zclO zvlO zklO zrlO Go.Proofs.Tryz.prog 0 [0, 1, 3, 4, 5] 61 ?a) => ?a) ?h
 case h =>
 intro zc zv zk zr hc hv hk hr
 conv => lhs; cbv; try simp only [hc, hv, hk, hr, zclO, zvlO, zklO, zrlO]
theorem f61_ok : compF Go.Proofs.Tryz.prog 0 [0, 1, 3, 4, 5] 61 = some f61 := by kernel_rfl
theorem f61_n : argsOK Go.Proofs.Tryz.prog 61 2 = true := by kernel_rfl
noncomputable def f62 : AFunc := by
 refine (fun (_ : Cz zclO zvlO zklO zrlO Go.Proofs.Tryz.prog 0 [0, 2, 4] 62 ?a) => ?a) ?h
 case h =>
 intro zc zv zk zr hc hv hk hr
 conv => lhs; cbv; try simp only [hc, hv, hk, hr, zclO, zvlO, zklO, zrlO]
theorem f62_ok : compF Go.Proofs.Tryz.prog 0 [0, 2, 4] 62 = some f62 := by kernel_rfl
theorem f62_n : argsOK Go.Proofs.Tryz.prog 62 1 = true := by kernel_rfl
noncomputable def f63 : AFunc := by
 refine (fun (_ : Cz zclO zvlO zklO zrlO Go.Proofs.Tryz.prog 0 [0, 1, 2, 6, 7, 8, 9, 10, 11, 12, 13, 14, 15, 16, 18, 19, 20, 21, 23, 24, 32, 47, 51, 55, 90, 91, 113, 117, 132, 133, 141, 152, 193, 203] 63 ?a) => ?a) ?h
 case h =>
 intro zc zv zk zr hc hv hk hr
 conv => lhs; cbv; try simp only [hc, hv, hk, hr, zclO, zvlO, zklO, zrlO]
theorem f63_ok : compF Go.Proofs.Tryz.prog 0 [0, 1, 2, 6, 7, 8, 9, 10, 11, 12, 13, 14, 15, 16, 18, 19, 20, 21, 23, 24, 32, 47, 51, 55, 90, 91, 113, 117, 132, 133, 141, 152, 193, 203] 63 = some f63 := by kernel_rfl
theorem f63_n : argsOK Go.Proofs.Tryz.prog 63 3 = true := by kernel_rfl
end Go.AM.F

set_option maxRecDepth 100000
set_option maxHeartbeats 0
namespace Go.AM.F
def Z70Q : List Value := [(.int .i64 0), (.int .i64 0), (.int .u64 0), (.int .u64 0), (.int .u64 0)] ++ List.replicate 64 (.int .u8 0) ++ [(.int .u32 0)]
def Z68Q : List Value := [(.int .u64 0), (.int .u64 0), (.int .u64 0)] ++ List.replicate 64 (.int .u8 0) ++ [(.int .u32 0)]
def zclQ : TypeId → List Value
 | 162 => Z70Q
 | 94 => Z70Q
 | 89 => Z68Q
 | 210 => [(.slice none 0 0)]
 | _ => []
def zvlQ : TypeId → Value
 | 162 => (.agg Z70Q.toArray)
 | _ => undef
def zklQ : TypeId → List Nat
 | _ => []
def zrlQ : Nat → TypeId → List Value
 | 1, 5 => [(.int .u8 0)]
 | 2, 2 => [(.int .i64 0), (.int .i64 0)]
 | _, _ => []
noncomputable def f104 : AFunc := by
 refine (fun (_ : Cz zclQ zvlQ zklQ zrlQ Go.Proofs.Tryz.prog 0 [0, 2, 3, 4, 5] 104 ?a) => ?a) ?h
 case h =>
 intro zc zv zk zr hc hv hk hr
 conv => lhs; cbv; try simp only [hc, hv, hk, hr, zclQ, zvlQ, zklQ, zrlQ]
theorem f104_ok : compF Go.Proofs.Tryz.prog 0 [0, 2, 3, 4, 5] 104 = some f104 := by kernel_rfl
theorem f104_n : argsOK Go.Proofs.Tryz.prog 104 1 = true := by kernel_rfl
noncomputable def f105 : AFunc := by
 refine (fun (_ : Cz zclQ zvlQ zklQ zrlQ Go.Proofs.Tryz.prog 0 [0, 2, 3, 4, 24] 105 ?a) => ?a) ?h
 case h =>
 intro zc zv zk zr hc hv hk hr
 conv => lhs; cbv; try simp only [hc, hv, hk, hr, zclQ, zvlQ, zklQ, zrlQ]
theorem f105_ok : compF Go.Proofs.Tryz.prog 0 [0, 2, 3, 4, 24] 105 = some f105 := by kernel_rfl
theorem f105_n : argsOK Go.Proofs.Tryz.prog 105 1 = true := by kernel_rfl
noncomputable def f106 : AFunc := by
 refine (fun (_ : Cz zclQ zvlQ zklQ zrlQ Go.Proofs.Tryz.prog 0 [0, 2, 3, 4, 5, 7] 106 ?a) => ?a) ?h
 case h =>
 intro zc zv zk zr hc hv hk hr
 conv => lhs; cbv; try simp only [hc, hv, hk, hr, zclQ, zvlQ, zklQ, zrlQ]
theorem f106_ok : compF Go.Proofs.Tryz.prog 0 [0, 2, 3, 4, 5, 7] 106 = some f106 := by kernel_rfl
theorem f106_n : argsOK Go.Proofs.Tryz.prog 106 1 = true := by kernel_rfl
noncomputable def f107 : AFunc := by
 refine (fun (_ : Cz zclQ zvlQ zklQ zrlQ Go.Proofs.Tryz.prog 0 [0, 1, 2] 107 ?a) => ?a) ?h
 case h =>
 intro zc zv zk zr hc hv hk hr
 conv => lhs; cbv; try simp only [hc, hv, hk, hr, zclQ, zvlQ, zklQ, zrlQ]
theorem f107_ok : compF Go.Proofs.Tryz.prog 0 [0, 1, 2] 107 = some f107 := by kernel_rfl
theorem f107_n : argsOK Go.Proofs.Tryz.prog 107 1 = true := by kernel_rfl
noncomputable def f108 : AFunc := by
 refine (fun (_ : Cz zclQ zvlQ zklQ zrlQ Go.Proofs.Tryz.prog 0 [0, 2] 108 ?a) => ?a) ?h
 case h =>
 intro zc zv zk zr hc hv hk hr
 conv => lhs; cbv; try simp only [hc, hv, hk, hr, zclQ, zvlQ, zklQ, zrlQ]
theorem f108_ok : compF Go.Proofs.Tryz.prog 0 [0, 2] 108 = some f108 := by kernel_rfl
theorem f108_n : argsOK Go.Proofs.Tryz.prog 108 1 = true := by kernel_rfl
noncomputable def f109 : AFunc := by
 refine (fun (_ : Cz zclQ zvlQ zklQ zrlQ Go.Proofs.Tryz.prog 0 [0, 1, 2, 3, 13] 109 ?a) => ?a) ?h
 case h =>
 intro zc zv zk zr hc hv hk hr
 conv => lhs; cbv; try simp only [hc, hv, hk, hr, zclQ, zvlQ, zklQ, zrlQ]
theorem f109_ok : compF Go.Proofs.Tryz.prog 0 [0, 1, 2, 3, 13] 109 = some f109 := by kernel_rfl
theorem f109_n : argsOK Go.Proofs.Tryz.prog 109 1 = true := by kernel_rfl
noncomputable def f128 : AFunc := by
 refine (fun (_ : Cz zclQ zvlQ zklQ zrlQ Go.Proofs.Tryz.prog 0 [0, 1, 4, 5, 6, 16] 128 ?a) => ?a) ?h
 case h =>
 intro zc zv zk zr hc hv hk hr
 conv => lhs; cbv; try simp only [hc, hv, hk, hr, zclQ, zvlQ, zklQ, zrlQ]
theorem f128_ok : compF Go.Proofs.Tryz.prog 0 [0, 1, 4, 5, 6, 16] 128 = some f128 := by kernel_rfl
theorem f128_n : argsOK Go.Proofs.Tryz.prog 128 2 = true := by kernel_rfl
noncomputable def f129 : AFunc := by
 refine (fun (_ : Cz zclQ zvlQ zklQ zrlQ Go.Proofs.Tryz.prog 0 [0, 1, 2, 5, 6, 7, 8, 25] 129 ?a) => ?a) ?h
 case h =>
 intro zc zv zk zr hc hv hk hr
 conv => lhs; cbv; try simp only [hc, hv, hk, hr, zclQ, zvlQ, zklQ, zrlQ]
theorem f129_ok : compF Go.Proofs.Tryz.prog 0 [0, 1, 2, 5, 6, 7, 8, 25] 129 = some f129 := by kernel_rfl
theorem f129_n : argsOK Go.Proofs.Tryz.prog 129 3 = true := by kernel_rfl
noncomputable def f130 : AFunc := by
 refine (fun (_ : Cz zclQ zvlQ zklQ zrlQ Go.Proofs.Tryz.prog 0 [0, 2, 3] 130 ?a) => ?a) ?h
 case h =>
 intro zc zv zk zr hc hv hk hr
 conv => lhs; cbv; try simp only [hc, hv, hk, hr, zclQ, zvlQ, zklQ, zrlQ]
theorem f130_ok : compF Go.Proofs.Tryz.prog 0 [0, 2, 3] 130 = some f130 := by kernel_rfl
theorem f130_n : argsOK Go.Proofs.Tryz.prog 130 1 = true := by kernel_rfl
noncomputable def f131 : AFunc := by
 refine (fun (_ : Cz zclQ zvlQ zklQ zrlQ Go.Proofs.Tryz.prog 0 [0, 1, 2, 6, 12] 131 ?a) => ?a) ?h
 case h =>
 intro zc zv zk zr hc hv hk hr
 conv => lhs; cbv; try simp only [hc, hv, hk, hr, zclQ, zvlQ, zklQ, zrlQ]
theorem f131_ok : compF Go.Proofs.Tryz.prog 0 [0, 1, 2, 6, 12] 131 = some f131 := by kernel_rfl
theorem f131_n : argsOK Go.Proofs.Tryz.prog 131 3 = true := by kernel_rfl
noncomputable def f132 : AFunc := by
 refine (fun (_ : Cz zclQ zvlQ zklQ zrlQ Go.Proofs.Tryz.prog 0 [0, 1, 4, 5, 6, 25] 132 ?a) => ?a) ?h
 case h =>
 intro zc zv zk zr hc hv hk hr
 conv => lhs; cbv; try simp only [hc, hv, hk, hr, zclQ, zvlQ, zklQ, zrlQ]
theorem f132_ok : compF Go.Proofs.Tryz.prog 0 [0, 1, 4, 5, 6, 25] 132 = some f132 := by kernel_rfl
theorem f132_n : argsOK Go.Proofs.Tryz.prog 132 2 = true := by kernel_rfl
noncomputable def f133 : AFunc := by
 refine (fun (_ : Cz zclQ zvlQ zklQ zrlQ Go.Proofs.Tryz.prog 0 [0, 1, 2, 6, 7, 10] 133 ?a) => ?a) ?h
 case h =>
 intro zc zv zk zr hc hv hk hr
 conv => lhs; cbv; try simp only [hc, hv, hk, hr, zclQ, zvlQ, zklQ, zrlQ]
theorem f133_ok : compF Go.Proofs.Tryz.prog 0 [0, 1, 2, 6, 7, 10] 133 = some f133 := by kernel_rfl
theorem f133_n : argsOK Go.Proofs.Tryz.prog 133 3 = true := by kernel_rfl
noncomputable def f134 : AFunc := by
 refine (fun (_ : Cz zclQ zvlQ zklQ zrlQ Go.Proofs.Tryz.prog 0 [0, 1] 134 ?a) => ?a) ?h
 case h =>
 intro zc zv zk zr hc hv hk hr
 conv => lhs; cbv; try simp only [hc, hv, hk, hr, zclQ, zvlQ, zklQ, zrlQ]
theorem f134_ok : compF Go.Proofs.Tryz.prog 0 [0, 1] 134 = some f134 := by kernel_rfl
theorem f134_n : argsOK Go.Proofs.Tryz.prog 134 2 = true := by kernel_rfl
noncomputable def f135 : AFunc := by
 refine (fun (_ : Cz zclQ zvlQ zklQ zrlQ Go.Proofs.Tryz.prog 0 [0, 1, 5, 6, 7, 8, 9] 135 ?a) => ?a) ?h
 case h =>
 intro zc zv zk zr hc hv hk hr
 conv => lhs; cbv; try simp only [hc, hv, hk, hr, zclQ, zvlQ, zklQ, zrlQ]
theorem f135_ok : compF Go.Proofs.Tryz.prog 0 [0, 1, 5, 6, 7, 8, 9] 135 = some f135 := by kernel_rfl
theorem f135_n : argsOK Go.Proofs.Tryz.prog 135 2 = true := by kernel_rfl
noncomputable def f136 : AFunc := by
 refine (fun (_ : Cz zclQ zvlQ zklQ zrlQ Go.Proofs.Tryz.prog 0 [0, 1, 3] 136 ?a) => ?a) ?h
 case h =>
 intro zc zv zk zr hc hv hk hr
 conv => lhs; cbv; try simp only [hc, hv, hk, hr, zclQ, zvlQ, zklQ, zrlQ]
theorem f136_ok : compF Go.Proofs.Tryz.prog 0 [0, 1, 3] 136 = some f136 := by kernel_rfl
theorem f136_n : argsOK Go.Proofs.Tryz.prog 136 2 = true := by kernel_rfl
noncomputable def f137 : AFunc := by
 refine (fun (_ : Cz zclQ zvlQ zklQ zrlQ Go.Proofs.Tryz.prog 0 [0, 2] 137 ?a) => ?a) ?h
 case h =>
 intro zc zv zk zr hc hv hk hr
 conv => lhs; cbv; try simp only [hc, hv, hk, hr, zclQ, zvlQ, zklQ, zrlQ]
theorem f137_ok : compF Go.Proofs.Tryz.prog 0 [0, 2] 137 = some f137 := by kernel_rfl
theorem f137_n : argsOK Go.Proofs.Tryz.prog 137 1 = true := by kernel_rfl
noncomputable def f138 : AFunc := by
 refine (fun (_ : Cz zclQ zvlQ zklQ zrlQ Go.Proofs.Tryz.prog 0 [0, 1, 4] 138 ?a) => ?a) ?h
 case h =>
 intro zc zv zk zr hc hv hk hr
 conv => lhs; cbv; try simp only [hc, hv, hk, hr, zclQ, zvlQ, zklQ, zrlQ]
theorem f138_ok : compF Go.Proofs.Tryz.prog 0 [0, 1, 4] 138 = some f138 := by kernel_rfl
theorem f138_n : argsOK Go.Proofs.Tryz.prog 138 2 = true := by kernel_rfl
noncomputable def f139 : AFunc := by
 refine (fun (_ : Cz zclQ zvlQ zklQ zrlQ Go.Proofs.Tryz.prog 0 [0, 2] 139 ?a) => ?a) ?h
 case h =>
 intro zc zv zk zr hc hv hk hr
 conv => lhs; cbv; try simp only [hc, hv, hk, hr, zclQ, zvlQ, zklQ, zrlQ]
theorem f139_ok : compF Go.Proofs.Tryz.prog 0 [0, 2] 139 = some f139 := by kernel_rfl
theorem f139_n : argsOK Go.Proofs.Tryz.prog 139 1 = true := by kernel_rfl
noncomputable def f140 : AFunc := by
 refine (fun (_ : Cz zclQ zvlQ zklQ zrlQ Go.Proofs.Tryz.prog 0 [0, 1, 2, 3, 4, 19] 140 ?a) => ?a) ?h
 case h =>
 intro zc zv zk zr hc hv hk hr
 conv => lhs; cbv; try simp only [hc, hv, hk, hr, zclQ, zvlQ, zklQ, zrlQ]
theorem f140_ok : compF Go.Proofs.Tryz.prog 0 [0, 1, 2, 3, 4, 19] 140 = some f140 := by kernel_rfl
theorem f140_n : argsOK Go.Proofs.Tryz.prog 140 1 = true := by kernel_rfl
end Go.AM.F

set_option maxRecDepth 100000
set_option maxHeartbeats 0
namespace Go.AM.F
def Z70R : List Value := [(.int .i64 0), (.int .i64 0), (.int .u64 0), (.int .u64 0), (.int .u64 0)] ++ List.replicate 64 (.int .u8 0) ++ [(.int .u32 0)]
def zclR : TypeId → List Value
 | 235 => [(.int .u8 0), (.int .i64 0), (.int .u64 0), (.int .u32 0), (.int .u32 0), (.slice none 0 0)]
 | 245 => [(.int .u8 0), (.int .i64 0), (.int .i64 0), (.int .u64 0), (.int .u32 0)]
 | 162 => Z70R
 | 248 => [(.int .u8 0), (.int .u8 0), (.int .i64 0), (.int .i64 0), (.slice none 0 0)]
 | _ => []
def zvlR : TypeId → Value
 | 235 => (.agg #[(.int .u8 0), (.int .i64 0), (.int .u64 0), (.int .u32 0), (.int .u32 0), (.slice none 0 0)])
 | 245 => (.agg #[(.int .u8 0), (.int .i64 0), (.int .i64 0), (.int .u64 0), (.int .u32 0)])
 | 162 => (.agg Z70R.toArray)
 | 248 => (.agg #[(.int .u8 0), (.int .u8 0), (.int .i64 0), (.int .i64 0), (.slice none 0 0)])
 | _ => undef
def zklR : TypeId → List Nat
 | _ => []
def zrlR : Nat → TypeId → List Value
 | 1, 2 => [(.int .i64 0)]
 | 2, 2 => [(.int .i64 0), (.int .i64 0)]
 | _, _ => []
noncomputable def f161 : AFunc := by
 refine (fun (_ : Cz zclR zvlR zklR zrlR Go.Proofs.Tryz.prog 0 [0, 2, 3, 4, 5, 6, 7, 8, 9, 10, 16, 40, 52] 161 ?a) => ?a) ?h
 case h =>
 intro zc zv zk zr hc hv hk hr
 conv => lhs; cbv; try simp only [hc, hv, hk, hr, zclR, zvlR, zklR, zrlR]
theorem f161_ok : compF Go.Proofs.Tryz.prog 0 [0, 2, 3, 4, 5, 6, 7, 8, 9, 10, 16, 40, 52] 161 = some f161 := by kernel_rfl
theorem f161_n : argsOK Go.Proofs.Tryz.prog 161 1 = true := by kernel_rfl
noncomputable def f169 : AFunc := by
 refine (fun (_ : Cz zclR zvlR zklR zrlR Go.Proofs.Tryz.prog 0 [0, 2] 169 ?a) => ?a) ?h
 case h =>
 intro zc zv zk zr hc hv hk hr
 conv => lhs; cbv; try simp only [hc, hv, hk, hr, zclR, zvlR, zklR, zrlR]
theorem f169_ok : compF Go.Proofs.Tryz.prog 0 [0, 2] 169 = some f169 := by kernel_rfl
theorem f169_n : argsOK Go.Proofs.Tryz.prog 169 1 = true := by kernel_rfl
noncomputable def f170 : AFunc := by
 refine (fun (_ : Cz zclR zvlR zklR zrlR Go.Proofs.Tryz.prog 0 [0, 1, 4] 170 ?a) => ?a) ?h
 case h =>
 intro zc zv zk zr hc hv hk hr
 conv => lhs; cbv; try simp only [hc, hv, hk, hr, zclR, zvlR, zklR, zrlR]
theorem f170_ok : compF Go.Proofs.Tryz.prog 0 [0, 1, 4] 170 = some f170 := by kernel_rfl
theorem f170_n : argsOK Go.Proofs.Tryz.prog 170 2 = true := by kernel_rfl
noncomputable def f171 : AFunc := by
 refine (fun (_ : Cz zclR zvlR zklR zrlR Go.Proofs.Tryz.prog 0 [0, 1, 2] 171 ?a) => ?a) ?h
 case h =>
 intro zc zv zk zr hc hv hk hr
 conv => lhs; cbv; try simp only [hc, hv, hk, hr, zclR, zvlR, zklR, zrlR]
theorem f171_ok : compF Go.Proofs.Tryz.prog 0 [0, 1, 2] 171 = some f171 := by kernel_rfl
theorem f171_n : argsOK Go.Proofs.Tryz.prog 171 1 = true := by kernel_rfl
noncomputable def f173 : AFunc := by
 refine (fun (_ : Cz zclR zvlR zklR zrlR Go.Proofs.Tryz.prog 0 [0, 1, 4] 173 ?a) => ?a) ?h
 case h =>
 intro zc zv zk zr hc hv hk hr
 conv => lhs; cbv; try simp only [hc, hv, hk, hr, zclR, zvlR, zklR, zrlR]
theorem f173_ok : compF Go.Proofs.Tryz.prog 0 [0, 1, 4] 173 = some f173 := by kernel_rfl
theorem f173_n : argsOK Go.Proofs.Tryz.prog 173 2 = true := by kernel_rfl
noncomputable def f174 : AFunc := by
 refine (fun (_ : Cz zclR zvlR zklR zrlR Go.Proofs.Tryz.prog 0 [0, 2] 174 ?a) => ?a) ?h
 case h =>
 intro zc zv zk zr hc hv hk hr
 conv => lhs; cbv; try simp only [hc, hv, hk, hr, zclR, zvlR, zklR, zrlR]
theorem f174_ok : compF Go.Proofs.Tryz.prog 0 [0, 2] 174 = some f174 := by kernel_rfl
theorem f174_n : argsOK Go.Proofs.Tryz.prog 174 1 = true := by kernel_rfl
noncomputable def f175 : AFunc := by
 refine (fun (_ : Cz zclR zvlR zklR zrlR Go.Proofs.Tryz.prog 0 [0, 1, 4, 5, 7, 8, 9, 16] 175 ?a) => ?a) ?h
 case h =>
 intro zc zv zk zr hc hv hk hr
 conv => lhs; cbv; try simp only [hc, hv, hk, hr, zclR, zvlR, zklR, zrlR]
theorem f175_ok : compF Go.Proofs.Tryz.prog 0 [0, 1, 4, 5, 7, 8, 9, 16] 175 = some f175 := by kernel_rfl
theorem f175_n : argsOK Go.Proofs.Tryz.prog 175 2 = true := by kernel_rfl
noncomputable def f176 : AFunc := by
 refine (fun (_ : Cz zclR zvlR zklR zrlR Go.Proofs.Tryz.prog 0 [0, 1, 4, 5, 7, 8, 9, 16] 176 ?a) => ?a) ?h
 case h =>
 intro zc zv zk zr hc hv hk hr
 conv => lhs; cbv; try simp only [hc, hv, hk, hr, zclR, zvlR, zklR, zrlR]
theorem f176_ok : compF Go.Proofs.Tryz.prog 0 [0, 1, 4, 5, 7, 8, 9, 16] 176 = some f176 := by kernel_rfl
theorem f176_n : argsOK Go.Proofs.Tryz.prog 176 2 = true := by kernel_rfl
end Go.AM.F

set_option maxRecDepth 100000
set_option maxHeartbeats 0
namespace Go.AM.TLk
open Go.Proofs Go.AM.F Go.AM.Ev
noncomputable def RT : List RDef := [⟨133, [0, 2, 3, 4, 5, 6, 7, 9, 10, 11, 12, 13, 14, 15, 18, 22, 28, 29, 62, 80, 82, 89, 93, 94, 95, 111, 125, 126, 131], #[126], rfA Go.Proofs.Tryz.prog 13 0, rfB Go.Proofs.Tryz.prog 13 0, f13r0a, f13r0b⟩,
 ⟨37, [0, 1, 3, 4, 5, 6, 7, 9, 14, 27, 28, 29, 33], #[28, 29], rfA Go.Proofs.Tryz.prog 67 0, rfB Go.Proofs.Tryz.prog 67 0, f67r0a, f67r0b⟩]
theorem RT_ok : RTok Go.Proofs.Tryz.prog 0 RT := by
 intro d hd
 simp only [RT, List.mem_cons, List.not_mem_nil, or_false] at hd
 rcases hd with rfl | rfl
 · exact ⟨f13r0a_ok, f13r0b_ok, f13r0_n, by decide, by kernel_rfl, by kernel_rfl⟩
 · exact ⟨f67r0a_ok, f67r0b_ok, f67r0_n, by decide, by kernel_rfl, by kernel_rfl⟩
noncomputable def e7 : EF := ⟨2, f7.sl, f7.res, simpC f7.body⟩
theorem e7_ok : EFok RT Go.Proofs.Tryz.prog 0 7 e7 := ok_sf f7_ok rfl f7_n
noncomputable def e8 : EF := ⟨0, f8.sl, f8.res, simpC f8.body⟩
theorem e8_ok : EFok RT Go.Proofs.Tryz.prog 0 8 e8 := ok_sf f8_ok rfl f8_n
noncomputable def e11 : EF := ⟨1, f11.sl, f11.res, simpC f11.body⟩
theorem e11_ok : EFok RT Go.Proofs.Tryz.prog 0 11 e11 := ok_sf f11_ok rfl f11_n
noncomputable def e12 : EF := ⟨1, f12.sl, f12.res, simpC f12.body⟩
theorem e12_ok : EFok RT Go.Proofs.Tryz.prog 0 12 e12 := ok_sf f12_ok rfl f12_n
noncomputable def e13 : EF := ⟨1, f13.sl, f13.res, encC f13.body 0⟩
theorem e13_ok : EFok RT Go.Proofs.Tryz.prog 0 13 e13 := ok_rf f13_ok rfl f13_n (by kernel_rfl)
noncomputable def e14 : EF := ⟨1, f14.sl, f14.res, simpC f14.body⟩
theorem e14_ok : EFok RT Go.Proofs.Tryz.prog 0 14 e14 := ok_sf f14_ok rfl f14_n
noncomputable def e17 : EF := ⟨2, f17.sl, f17.res, simpC f17.body⟩
theorem e17_ok : EFok RT Go.Proofs.Tryz.prog 0 17 e17 := ok_sf f17_ok rfl f17_n
noncomputable def e18 : EF := ⟨2, f18.sl, f18.res, simpC f18.body⟩
theorem e18_ok : EFok RT Go.Proofs.Tryz.prog 0 18 e18 := ok_sf f18_ok rfl f18_n
noncomputable def e19 : EF := ⟨1, f19.sl, f19.res, simpC f19.body⟩
theorem e19_ok : EFok RT Go.Proofs.Tryz.prog 0 19 e19 := ok_sf f19_ok rfl f19_n
noncomputable def e20 : EF := ⟨1, f20.sl, f20.res, simpC f20.body⟩
theorem e20_ok : EFok RT Go.Proofs.Tryz.prog 0 20 e20 := ok_sf f20_ok rfl f20_n
noncomputable def e21 : EF := ⟨2, f21.sl, f21.res, simpC f21.body⟩
theorem e21_ok : EFok RT Go.Proofs.Tryz.prog 0 21 e21 := ok_sf f21_ok rfl f21_n
noncomputable def e22 : EF := ⟨2, f22.sl, f22.res, simpC f22.body⟩
theorem e22_ok : EFok RT Go.Proofs.Tryz.prog 0 22 e22 := ok_sf f22_ok rfl f22_n
noncomputable def e23 : EF := ⟨3, f23.sl, f23.res, simpC f23.body⟩
theorem e23_ok : EFok RT Go.Proofs.Tryz.prog 0 23 e23 := ok_sf f23_ok rfl f23_n
noncomputable def e24 : EF := ⟨3, f24.sl, f24.res, simpC f24.body⟩
theorem e24_ok : EFok RT Go.Proofs.Tryz.prog 0 24 e24 := ok_sf f24_ok rfl f24_n
noncomputable def e26 : EF := ⟨2, f26.sl, f26.res, simpC f26.body⟩
theorem e26_ok : EFok RT Go.Proofs.Tryz.prog 0 26 e26 := ok_sf f26_ok rfl f26_n
noncomputable def e27 : EF := ⟨1, f27.sl, f27.res, simpC f27.body⟩
theorem e27_ok : EFok RT Go.Proofs.Tryz.prog 0 27 e27 := ok_sf f27_ok rfl f27_n
noncomputable def e28 : EF := ⟨1, f28.sl, f28.res, simpC f28.body⟩
theorem e28_ok : EFok RT Go.Proofs.Tryz.prog 0 28 e28 := ok_sf f28_ok rfl f28_n
noncomputable def e29 : EF := ⟨1, f29.sl, f29.res, simpC f29.body⟩
theorem e29_ok : EFok RT Go.Proofs.Tryz.prog 0 29 e29 := ok_sf f29_ok rfl f29_n
noncomputable def e30 : EF := ⟨1, f30.sl, f30.res, simpC f30.body⟩
theorem e30_ok : EFok RT Go.Proofs.Tryz.prog 0 30 e30 := ok_sf f30_ok rfl f30_n
noncomputable def e31 : EF := ⟨2, f31.sl, f31.res, simpC f31.body⟩
theorem e31_ok : EFok RT Go.Proofs.Tryz.prog 0 31 e31 := ok_sf f31_ok rfl f31_n
noncomputable def e32 : EF := ⟨2, f32.sl, f32.res, simpC f32.body⟩
theorem e32_ok : EFok RT Go.Proofs.Tryz.prog 0 32 e32 := ok_sf f32_ok rfl f32_n
noncomputable def e33 : EF := ⟨2, f33.sl, f33.res, simpC f33.body⟩
theorem e33_ok : EFok RT Go.Proofs.Tryz.prog 0 33 e33 := ok_sf f33_ok rfl f33_n
noncomputable def e34 : EF := ⟨2, f34.sl, f34.res, simpC f34.body⟩
theorem e34_ok : EFok RT Go.Proofs.Tryz.prog 0 34 e34 := ok_sf f34_ok rfl f34_n
noncomputable def e39 : EF := ⟨1, f39.sl, f39.res, simpC f39.body⟩
theorem e39_ok : EFok RT Go.Proofs.Tryz.prog 0 39 e39 := ok_sf f39_ok rfl f39_n
noncomputable def e40 : EF := ⟨1, f40.sl, f40.res, simpC f40.body⟩
theorem e40_ok : EFok RT Go.Proofs.Tryz.prog 0 40 e40 := ok_sf f40_ok rfl f40_n
noncomputable def e43 : EF := ⟨1, f43.sl, f43.res, simpC f43.body⟩
theorem e43_ok : EFok RT Go.Proofs.Tryz.prog 0 43 e43 := ok_sf f43_ok rfl f43_n
noncomputable def e44 : EF := ⟨1, f44.sl, f44.res, simpC f44.body⟩
theorem e44_ok : EFok RT Go.Proofs.Tryz.prog 0 44 e44 := ok_sf f44_ok rfl f44_n
noncomputable def e45 : EF := ⟨2, f45.sl, f45.res, simpC f45.body⟩
theorem e45_ok : EFok RT Go.Proofs.Tryz.prog 0 45 e45 := ok_sf f45_ok rfl f45_n
noncomputable def e46 : EF := ⟨2, f46.sl, f46.res, simpC f46.body⟩
theorem e46_ok : EFok RT Go.Proofs.Tryz.prog 0 46 e46 := ok_sf f46_ok rfl f46_n
noncomputable def e47 : EF := ⟨1, f47.sl, f47.res, simpC f47.body⟩
theorem e47_ok : EFok RT Go.Proofs.Tryz.prog 0 47 e47 := ok_sf f47_ok rfl f47_n
noncomputable def e48 : EF := ⟨2, f48.sl, f48.res, simpC f48.body⟩
theorem e48_ok : EFok RT Go.Proofs.Tryz.prog 0 48 e48 := ok_sf f48_ok rfl f48_n
noncomputable def e49 : EF := ⟨1, f49.sl, f49.res, simpC f49.body⟩
theorem e49_ok : EFok RT Go.Proofs.Tryz.prog 0 49 e49 := ok_sf f49_ok rfl f49_n
noncomputable def e51 : EF := ⟨1, f51.sl, f51.res, simpC f51.body⟩
theorem e51_ok : EFok RT Go.Proofs.Tryz.prog 0 51 e51 := ok_sf f51_ok rfl f51_n
noncomputable def e52 : EF := ⟨0, f52.sl, f52.res, simpC f52.body⟩
theorem e52_ok : EFok RT Go.Proofs.Tryz.prog 0 52 e52 := ok_sf f52_ok rfl f52_n
noncomputable def e53 : EF := ⟨1, f53.sl, f53.res, simpC f53.body⟩
theorem e53_ok : EFok RT Go.Proofs.Tryz.prog 0 53 e53 := ok_sf f53_ok rfl f53_n
noncomputable def e54 : EF := ⟨1, f54.sl, f54.res, simpC f54.body⟩
theorem e54_ok : EFok RT Go.Proofs.Tryz.prog 0 54 e54 := ok_sf f54_ok rfl f54_n
noncomputable def e55 : EF := ⟨2, f55.sl, f55.res, simpC f55.body⟩
theorem e55_ok : EFok RT Go.Proofs.Tryz.prog 0 55 e55 := ok_sf f55_ok rfl f55_n
noncomputable def e56 : EF := ⟨3, f56.sl, f56.res, simpC f56.body⟩
theorem e56_ok : EFok RT Go.Proofs.Tryz.prog 0 56 e56 := ok_sf f56_ok rfl f56_n
noncomputable def e57 : EF := ⟨1, f57.sl, f57.res, simpC f57.body⟩
theorem e57_ok : EFok RT Go.Proofs.Tryz.prog 0 57 e57 := ok_sf f57_ok rfl f57_n
noncomputable def e58 : EF := ⟨4, f58.sl, f58.res, simpC f58.body⟩
theorem e58_ok : EFok RT Go.Proofs.Tryz.prog 0 58 e58 := ok_sf f58_ok rfl f58_n
noncomputable def e59 : EF := ⟨4, f59.sl, f59.res, simpC f59.body⟩
theorem e59_ok : EFok RT Go.Proofs.Tryz.prog 0 59 e59 := ok_sf f59_ok rfl f59_n
noncomputable def e60 : EF := ⟨1, f60.sl, f60.res, simpC f60.body⟩
theorem e60_ok : EFok RT Go.Proofs.Tryz.prog 0 60 e60 := ok_sf f60_ok rfl f60_n
noncomputable def e61 : EF := ⟨2, f61.sl, f61.res, simpC f61.body⟩
theorem e61_ok : EFok RT Go.Proofs.Tryz.prog 0 61 e61 := ok_sf f61_ok rfl f61_n
noncomputable def e62 : EF := ⟨1, f62.sl, f62.res, simpC f62.body⟩
theorem e62_ok : EFok RT Go.Proofs.Tryz.prog 0 62 e62 := ok_sf f62_ok rfl f62_n
noncomputable def e63 : EF := ⟨3, f63.sl, f63.res, simpC f63.body⟩
theorem e63_ok : EFok RT Go.Proofs.Tryz.prog 0 63 e63 := ok_sf f63_ok rfl f63_n
noncomputable def e64 : EF := ⟨1, f64.sl, f64.res, simpC f64.body⟩
theorem e64_ok : EFok RT Go.Proofs.Tryz.prog 0 64 e64 := ok_sf f64_ok rfl f64_n
noncomputable def e65 : EF := ⟨1, f65.sl, f65.res, simpC f65.body⟩
theorem e65_ok : EFok RT Go.Proofs.Tryz.prog 0 65 e65 := ok_sf f65_ok rfl f65_n
noncomputable def e66 : EF := ⟨1, f66.sl, f66.res, simpC f66.body⟩
theorem e66_ok : EFok RT Go.Proofs.Tryz.prog 0 66 e66 := ok_sf f66_ok rfl f66_n
noncomputable def e67 : EF := ⟨2, f67.sl, f67.res, encC f67.body 1⟩
theorem e67_ok : EFok RT Go.Proofs.Tryz.prog 0 67 e67 := ok_rf f67_ok rfl f67_n (by kernel_rfl)
noncomputable def e68 : EF := ⟨2, f68.sl, f68.res, simpC f68.body⟩
theorem e68_ok : EFok RT Go.Proofs.Tryz.prog 0 68 e68 := ok_sf f68_ok rfl f68_n
noncomputable def e69 : EF := ⟨1, f69.sl, f69.res, simpC f69.body⟩
theorem e69_ok : EFok RT Go.Proofs.Tryz.prog 0 69 e69 := ok_sf f69_ok rfl f69_n
noncomputable def e70 : EF := ⟨3, f70.sl, f70.res, simpC f70.body⟩
theorem e70_ok : EFok RT Go.Proofs.Tryz.prog 0 70 e70 := ok_sf f70_ok rfl f70_n
noncomputable def e71 : EF := ⟨2, f71.sl, f71.res, simpC f71.body⟩
theorem e71_ok : EFok RT Go.Proofs.Tryz.prog 0 71 e71 := ok_sf f71_ok rfl f71_n
noncomputable def e72 : EF := ⟨2, f72.sl, f72.res, simpC f72.body⟩
theorem e72_ok : EFok RT Go.Proofs.Tryz.prog 0 72 e72 := ok_sf f72_ok rfl f72_n
noncomputable def e73 : EF := ⟨2, f73.sl, f73.res, simpC f73.body⟩
theorem e73_ok : EFok RT Go.Proofs.Tryz.prog 0 73 e73 := ok_sf f73_ok rfl f73_n
noncomputable def e74 : EF := ⟨1, f74.sl, f74.res, simpC f74.body⟩
theorem e74_ok : EFok RT Go.Proofs.Tryz.prog 0 74 e74 := ok_sf f74_ok rfl f74_n
noncomputable def e75 : EF := ⟨1, f75.sl, f75.res, simpC f75.body⟩
theorem e75_ok : EFok RT Go.Proofs.Tryz.prog 0 75 e75 := ok_sf f75_ok rfl f75_n
noncomputable def e76 : EF := ⟨1, f76.sl, f76.res, simpC f76.body⟩
theorem e76_ok : EFok RT Go.Proofs.Tryz.prog 0 76 e76 := ok_sf f76_ok rfl f76_n
noncomputable def e77 : EF := ⟨1, f77.sl, f77.res, simpC f77.body⟩
theorem e77_ok : EFok RT Go.Proofs.Tryz.prog 0 77 e77 := ok_sf f77_ok rfl f77_n
noncomputable def e78 : EF := ⟨2, f78.sl, f78.res, simpC f78.body⟩
theorem e78_ok : EFok RT Go.Proofs.Tryz.prog 0 78 e78 := ok_sf f78_ok rfl f78_n
noncomputable def e79 : EF := ⟨1, f79.sl, f79.res, simpC f79.body⟩
theorem e79_ok : EFok RT Go.Proofs.Tryz.prog 0 79 e79 := ok_sf f79_ok rfl f79_n
noncomputable def e80 : EF := ⟨1, f80.sl, f80.res, simpC f80.body⟩
theorem e80_ok : EFok RT Go.Proofs.Tryz.prog 0 80 e80 := ok_sf f80_ok rfl f80_n
noncomputable def e81 : EF := ⟨1, f81.sl, f81.res, simpC f81.body⟩
theorem e81_ok : EFok RT Go.Proofs.Tryz.prog 0 81 e81 := ok_sf f81_ok rfl f81_n
noncomputable def e82 : EF := ⟨1, f82.sl, f82.res, simpC f82.body⟩
theorem e82_ok : EFok RT Go.Proofs.Tryz.prog 0 82 e82 := ok_sf f82_ok rfl f82_n
noncomputable def e83 : EF := ⟨2, f83.sl, f83.res, simpC f83.body⟩
theorem e83_ok : EFok RT Go.Proofs.Tryz.prog 0 83 e83 := ok_sf f83_ok rfl f83_n
noncomputable def e84 : EF := ⟨2, f84.sl, f84.res, simpC f84.body⟩
theorem e84_ok : EFok RT Go.Proofs.Tryz.prog 0 84 e84 := ok_sf f84_ok rfl f84_n
noncomputable def e85 : EF := ⟨0, f85.sl, f85.res, simpC f85.body⟩
theorem e85_ok : EFok RT Go.Proofs.Tryz.prog 0 85 e85 := ok_sf f85_ok rfl f85_n
noncomputable def e86 : EF := ⟨2, f86.sl, f86.res, simpC f86.body⟩
theorem e86_ok : EFok RT Go.Proofs.Tryz.prog 0 86 e86 := ok_sf f86_ok rfl f86_n
noncomputable def e87 : EF := ⟨1, f87.sl, f87.res, simpC f87.body⟩
theorem e87_ok : EFok RT Go.Proofs.Tryz.prog 0 87 e87 := ok_sf f87_ok rfl f87_n
noncomputable def e89 : EF := ⟨2, f89.sl, f89.res, simpC f89.body⟩
theorem e89_ok : EFok RT Go.Proofs.Tryz.prog 0 89 e89 := ok_sf f89_ok rfl f89_n
noncomputable def e90 : EF := ⟨2, f90.sl, f90.res, simpC f90.body⟩
theorem e90_ok : EFok RT Go.Proofs.Tryz.prog 0 90 e90 := ok_sf f90_ok rfl f90_n
noncomputable def e91 : EF := ⟨1, f91.sl, f91.res, simpC f91.body⟩
theorem e91_ok : EFok RT Go.Proofs.Tryz.prog 0 91 e91 := ok_sf f91_ok rfl f91_n
noncomputable def e92 : EF := ⟨2, f92.sl, f92.res, simpC f92.body⟩
theorem e92_ok : EFok RT Go.Proofs.Tryz.prog 0 92 e92 := ok_sf f92_ok rfl f92_n
noncomputable def e93 : EF := ⟨2, f93.sl, f93.res, simpC f93.body⟩
theorem e93_ok : EFok RT Go.Proofs.Tryz.prog 0 93 e93 := ok_sf f93_ok rfl f93_n
noncomputable def e94 : EF := ⟨2, f94.sl, f94.res, simpC f94.body⟩
theorem e94_ok : EFok RT Go.Proofs.Tryz.prog 0 94 e94 := ok_sf f94_ok rfl f94_n
noncomputable def e96 : EF := ⟨1, f96.sl, f96.res, simpC f96.body⟩
theorem e96_ok : EFok RT Go.Proofs.Tryz.prog 0 96 e96 := ok_sf f96_ok rfl f96_n
noncomputable def e97 : EF := ⟨2, f97.sl, f97.res, simpC f97.body⟩
theorem e97_ok : EFok RT Go.Proofs.Tryz.prog 0 97 e97 := ok_sf f97_ok rfl f97_n
noncomputable def e98 : EF := ⟨1, f98.sl, f98.res, simpC f98.body⟩
theorem e98_ok : EFok RT Go.Proofs.Tryz.prog 0 98 e98 := ok_sf f98_ok rfl f98_n
noncomputable def e103 : EF := ⟨1, f103.sl, f103.res, simpC f103.body⟩
theorem e103_ok : EFok RT Go.Proofs.Tryz.prog 0 103 e103 := ok_sf f103_ok rfl f103_n
noncomputable def e104 : EF := ⟨1, f104.sl, f104.res, simpC f104.body⟩
theorem e104_ok : EFok RT Go.Proofs.Tryz.prog 0 104 e104 := ok_sf f104_ok rfl f104_n
noncomputable def e105 : EF := ⟨1, f105.sl, f105.res, simpC f105.body⟩
theorem e105_ok : EFok RT Go.Proofs.Tryz.prog 0 105 e105 := ok_sf f105_ok rfl f105_n
noncomputable def e106 : EF := ⟨1, f106.sl, f106.res, simpC f106.body⟩
theorem e106_ok : EFok RT Go.Proofs.Tryz.prog 0 106 e106 := ok_sf f106_ok rfl f106_n
noncomputable def e107 : EF := ⟨1, f107.sl, f107.res, simpC f107.body⟩
theorem e107_ok : EFok RT Go.Proofs.Tryz.prog 0 107 e107 := ok_sf f107_ok rfl f107_n
noncomputable def e108 : EF := ⟨1, f108.sl, f108.res, simpC f108.body⟩
theorem e108_ok : EFok RT Go.Proofs.Tryz.prog 0 108 e108 := ok_sf f108_ok rfl f108_n
noncomputable def e109 : EF := ⟨1, f109.sl, f109.res, simpC f109.body⟩
theorem e109_ok : EFok RT Go.Proofs.Tryz.prog 0 109 e109 := ok_sf f109_ok rfl f109_n
noncomputable def e110 : EF := ⟨1, f110.sl, f110.res, simpC f110.body⟩
theorem e110_ok : EFok RT Go.Proofs.Tryz.prog 0 110 e110 := ok_sf f110_ok rfl f110_n
noncomputable def e114 : EF := ⟨1, f114.sl, f114.res, simpC f114.body⟩
theorem e114_ok : EFok RT Go.Proofs.Tryz.prog 0 114 e114 := ok_sf f114_ok rfl f114_n
noncomputable def e115 : EF := ⟨1, f115.sl, f115.res, simpC f115.body⟩
theorem e115_ok : EFok RT Go.Proofs.Tryz.prog 0 115 e115 := ok_sf f115_ok rfl f115_n
noncomputable def e116 : EF := ⟨1, f116.sl, f116.res, simpC f116.body⟩
theorem e116_ok : EFok RT Go.Proofs.Tryz.prog 0 116 e116 := ok_sf f116_ok rfl f116_n
noncomputable def e117 : EF := ⟨1, f117.sl, f117.res, simpC f117.body⟩
theorem e117_ok : EFok RT Go.Proofs.Tryz.prog 0 117 e117 := ok_sf f117_ok rfl f117_n
noncomputable def e118 : EF := ⟨1, f118.sl, f118.res, simpC f118.body⟩
theorem e118_ok : EFok RT Go.Proofs.Tryz.prog 0 118 e118 := ok_sf f118_ok rfl f118_n
noncomputable def e119 : EF := ⟨2, f119.sl, f119.res, simpC f119.body⟩
theorem e119_ok : EFok RT Go.Proofs.Tryz.prog 0 119 e119 := ok_sf f119_ok rfl f119_n
noncomputable def e120 : EF := ⟨2, f120.sl, f120.res, simpC f120.body⟩
theorem e120_ok : EFok RT Go.Proofs.Tryz.prog 0 120 e120 := ok_sf f120_ok rfl f120_n
noncomputable def e121 : EF := ⟨1, f121.sl, f121.res, simpC f121.body⟩
theorem e121_ok : EFok RT Go.Proofs.Tryz.prog 0 121 e121 := ok_sf f121_ok rfl f121_n
noncomputable def e122 : EF := ⟨2, f122.sl, f122.res, simpC f122.body⟩
theorem e122_ok : EFok RT Go.Proofs.Tryz.prog 0 122 e122 := ok_sf f122_ok rfl f122_n
noncomputable def e123 : EF := ⟨1, f123.sl, f123.res, simpC f123.body⟩
theorem e123_ok : EFok RT Go.Proofs.Tryz.prog 0 123 e123 := ok_sf f123_ok rfl f123_n
noncomputable def e124 : EF := ⟨3, f124.sl, f124.res, simpC f124.body⟩
theorem e124_ok : EFok RT Go.Proofs.Tryz.prog 0 124 e124 := ok_sf f124_ok rfl f124_n
noncomputable def e126 : EF := ⟨1, f126.sl, f126.res, simpC f126.body⟩
theorem e126_ok : EFok RT Go.Proofs.Tryz.prog 0 126 e126 := ok_sf f126_ok rfl f126_n
noncomputable def e128 : EF := ⟨2, f128.sl, f128.res, simpC f128.body⟩
theorem e128_ok : EFok RT Go.Proofs.Tryz.prog 0 128 e128 := ok_sf f128_ok rfl f128_n
noncomputable def e129 : EF := ⟨3, f129.sl, f129.res, simpC f129.body⟩
theorem e129_ok : EFok RT Go.Proofs.Tryz.prog 0 129 e129 := ok_sf f129_ok rfl f129_n
noncomputable def e130 : EF := ⟨1, f130.sl, f130.res, simpC f130.body⟩
theorem e130_ok : EFok RT Go.Proofs.Tryz.prog 0 130 e130 := ok_sf f130_ok rfl f130_n
noncomputable def e131 : EF := ⟨3, f131.sl, f131.res, simpC f131.body⟩
theorem e131_ok : EFok RT Go.Proofs.Tryz.prog 0 131 e131 := ok_sf f131_ok rfl f131_n
noncomputable def e132 : EF := ⟨2, f132.sl, f132.res, simpC f132.body⟩
theorem e132_ok : EFok RT Go.Proofs.Tryz.prog 0 132 e132 := ok_sf f132_ok rfl f132_n
noncomputable def e133 : EF := ⟨3, f133.sl, f133.res, simpC f133.body⟩
theorem e133_ok : EFok RT Go.Proofs.Tryz.prog 0 133 e133 := ok_sf f133_ok rfl f133_n
noncomputable def e134 : EF := ⟨2, f134.sl, f134.res, simpC f134.body⟩
theorem e134_ok : EFok RT Go.Proofs.Tryz.prog 0 134 e134 := ok_sf f134_ok rfl f134_n
noncomputable def e135 : EF := ⟨2, f135.sl, f135.res, simpC f135.body⟩
theorem e135_ok : EFok RT Go.Proofs.Tryz.prog 0 135 e135 := ok_sf f135_ok rfl f135_n
noncomputable def e136 : EF := ⟨2, f136.sl, f136.res, simpC f136.body⟩
theorem e136_ok : EFok RT Go.Proofs.Tryz.prog 0 136 e136 := ok_sf f136_ok rfl f136_n
noncomputable def e137 : EF := ⟨1, f137.sl, f137.res, simpC f137.body⟩
theorem e137_ok : EFok RT Go.Proofs.Tryz.prog 0 137 e137 := ok_sf f137_ok rfl f137_n
noncomputable def e138 : EF := ⟨2, f138.sl, f138.res, simpC f138.body⟩
theorem e138_ok : EFok RT Go.Proofs.Tryz.prog 0 138 e138 := ok_sf f138_ok rfl f138_n
noncomputable def e139 : EF := ⟨1, f139.sl, f139.res, simpC f139.body⟩
theorem e139_ok : EFok RT Go.Proofs.Tryz.prog 0 139 e139 := ok_sf f139_ok rfl f139_n
noncomputable def e140 : EF := ⟨1, f140.sl, f140.res, simpC f140.body⟩
theorem e140_ok : EFok RT Go.Proofs.Tryz.prog 0 140 e140 := ok_sf f140_ok rfl f140_n
noncomputable def e141 : EF := ⟨2, f141.sl, f141.res, simpC f141.body⟩
theorem e141_ok : EFok RT Go.Proofs.Tryz.prog 0 141 e141 := ok_sf f141_ok rfl f141_n
noncomputable def e147 : EF := ⟨2, f147.sl, f147.res, simpC f147.body⟩
theorem e147_ok : EFok RT Go.Proofs.Tryz.prog 0 147 e147 := ok_sf f147_ok rfl f147_n
noncomputable def e148 : EF := ⟨2, f148.sl, f148.res, simpC f148.body⟩
theorem e148_ok : EFok RT Go.Proofs.Tryz.prog 0 148 e148 := ok_sf f148_ok rfl f148_n
noncomputable def e149 : EF := ⟨2, f149.sl, f149.res, simpC f149.body⟩
theorem e149_ok : EFok RT Go.Proofs.Tryz.prog 0 149 e149 := ok_sf f149_ok rfl f149_n
noncomputable def e150 : EF := ⟨2, f150.sl, f150.res, simpC f150.body⟩
theorem e150_ok : EFok RT Go.Proofs.Tryz.prog 0 150 e150 := ok_sf f150_ok rfl f150_n
noncomputable def e151 : EF := ⟨2, f151.sl, f151.res, simpC f151.body⟩
theorem e151_ok : EFok RT Go.Proofs.Tryz.prog 0 151 e151 := ok_sf f151_ok rfl f151_n
noncomputable def e152 : EF := ⟨2, f152.sl, f152.res, simpC f152.body⟩
theorem e152_ok : EFok RT Go.Proofs.Tryz.prog 0 152 e152 := ok_sf f152_ok rfl f152_n
noncomputable def e153 : EF := ⟨2, f153.sl, f153.res, simpC f153.body⟩
theorem e153_ok : EFok RT Go.Proofs.Tryz.prog 0 153 e153 := ok_sf f153_ok rfl f153_n
noncomputable def e155 : EF := ⟨1, f155.sl, f155.res, simpC f155.body⟩
theorem e155_ok : EFok RT Go.Proofs.Tryz.prog 0 155 e155 := ok_sf f155_ok rfl f155_n
noncomputable def e156 : EF := ⟨1, f156.sl, f156.res, simpC f156.body⟩
theorem e156_ok : EFok RT Go.Proofs.Tryz.prog 0 156 e156 := ok_sf f156_ok rfl f156_n
noncomputable def e158 : EF := ⟨1, f158.sl, f158.res, simpC f158.body⟩
theorem e158_ok : EFok RT Go.Proofs.Tryz.prog 0 158 e158 := ok_sf f158_ok rfl f158_n
noncomputable def e159 : EF := ⟨1, f159.sl, f159.res, simpC f159.body⟩
theorem e159_ok : EFok RT Go.Proofs.Tryz.prog 0 159 e159 := ok_sf f159_ok rfl f159_n
noncomputable def e160 : EF := ⟨1, f160.sl, f160.res, simpC f160.body⟩
theorem e160_ok : EFok RT Go.Proofs.Tryz.prog 0 160 e160 := ok_sf f160_ok rfl f160_n
noncomputable def e161 : EF := ⟨1, f161.sl, f161.res, simpC f161.body⟩
theorem e161_ok : EFok RT Go.Proofs.Tryz.prog 0 161 e161 := ok_sf f161_ok rfl f161_n
noncomputable def e164 : EF := ⟨2, f164.sl, f164.res, simpC f164.body⟩
theorem e164_ok : EFok RT Go.Proofs.Tryz.prog 0 164 e164 := ok_sf f164_ok rfl f164_n
noncomputable def e165 : EF := ⟨2, f165.sl, f165.res, simpC f165.body⟩
theorem e165_ok : EFok RT Go.Proofs.Tryz.prog 0 165 e165 := ok_sf f165_ok rfl f165_n
noncomputable def e168 : EF := ⟨2, f168.sl, f168.res, simpC f168.body⟩
theorem e168_ok : EFok RT Go.Proofs.Tryz.prog 0 168 e168 := ok_sf f168_ok rfl f168_n
noncomputable def e169 : EF := ⟨1, f169.sl, f169.res, simpC f169.body⟩
theorem e169_ok : EFok RT Go.Proofs.Tryz.prog 0 169 e169 := ok_sf f169_ok rfl f169_n
noncomputable def e170 : EF := ⟨2, f170.sl, f170.res, simpC f170.body⟩
theorem e170_ok : EFok RT Go.Proofs.Tryz.prog 0 170 e170 := ok_sf f170_ok rfl f170_n
noncomputable def e171 : EF := ⟨1, f171.sl, f171.res, simpC f171.body⟩
theorem e171_ok : EFok RT Go.Proofs.Tryz.prog 0 171 e171 := ok_sf f171_ok rfl f171_n
noncomputable def e172 : EF := ⟨1, f172.sl, f172.res, simpC f172.body⟩
theorem e172_ok : EFok RT Go.Proofs.Tryz.prog 0 172 e172 := ok_sf f172_ok rfl f172_n
noncomputable def e173 : EF := ⟨2, f173.sl, f173.res, simpC f173.body⟩
theorem e173_ok : EFok RT Go.Proofs.Tryz.prog 0 173 e173 := ok_sf f173_ok rfl f173_n
noncomputable def e174 : EF := ⟨1, f174.sl, f174.res, simpC f174.body⟩
theorem e174_ok : EFok RT Go.Proofs.Tryz.prog 0 174 e174 := ok_sf f174_ok rfl f174_n
noncomputable def e175 : EF := ⟨2, f175.sl, f175.res, simpC f175.body⟩
theorem e175_ok : EFok RT Go.Proofs.Tryz.prog 0 175 e175 := ok_sf f175_ok rfl f175_n
noncomputable def e176 : EF := ⟨2, f176.sl, f176.res, simpC f176.body⟩
theorem e176_ok : EFok RT Go.Proofs.Tryz.prog 0 176 e176 := ok_sf f176_ok rfl f176_n
noncomputable def tab : Ev.FT := (.node 90 e90 (.node 54 e54 (.node 29 e29 (.node 19 e19 (.node 13 e13 (.node 11 e11 (.node 8 e8 (.node 7 e7 .leaf .leaf) .leaf) (.node 12 e12 .leaf .leaf)) (.node 17 e17 (.node 14 e14 .leaf .leaf) (.node 18 e18 .leaf .leaf))) (.node 24 e24 (.node 22 e22 (.node 21 e21 (.node 20 e20 .leaf .leaf) .leaf) (.node 23 e23 .leaf .leaf)) (.node 27 e27 (.node 26 e26 .leaf .leaf) (.node 28 e28 .leaf .leaf)))) (.node 44 e44 (.node 34 e34 (.node 32 e32 (.node 31 e31 (.node 30 e30 .leaf .leaf) .leaf) (.node 33 e33 .leaf .leaf)) (.node 40 e40 (.node 39 e39 .leaf .leaf) (.node 43 e43 .leaf .leaf))) (.node 49 e49 (.node 47 e47 (.node 46 e46 (.node 45 e45 .leaf .leaf) .leaf) (.node 48 e48 .leaf .leaf)) (.node 52 e52 (.node 51 e51 .leaf .leaf) (.node 53 e53 .leaf .leaf))))) (.node 72 e72 (.node 63 e63 (.node 59 e59 (.node 57 e57 (.node 56 e56 (.node 55 e55 .leaf .leaf) .leaf) (.node 58 e58 .leaf .leaf)) (.node 61 e61 (.node 60 e60 .leaf .leaf) (.node 62 e62 .leaf .leaf))) (.node 68 e68 (.node 66 e66 (.node 65 e65 (.node 64 e64 .leaf .leaf) .leaf) (.node 67 e67 .leaf .leaf)) (.node 70 e70 (.node 69 e69 .leaf .leaf) (.node 71 e71 .leaf .leaf)))) (.node 81 e81 (.node 77 e77 (.node 75 e75 (.node 74 e74 (.node 73 e73 .leaf .leaf) .leaf) (.node 76 e76 .leaf .leaf)) (.node 79 e79 (.node 78 e78 .leaf .leaf) (.node 80 e80 .leaf .leaf))) (.node 85 e85 (.node 83 e83 (.node 82 e82 .leaf .leaf) (.node 84 e84 .leaf .leaf)) (.node 87 e87 (.node 86 e86 .leaf .leaf) (.node 89 e89 .leaf .leaf)))))) (.node 132 e132 (.node 114 e114 (.node 103 e103 (.node 96 e96 (.node 93 e93 (.node 92 e92 (.node 91 e91 .leaf .leaf) .leaf) (.node 94 e94 .leaf .leaf)) (.node 98 e98 (.node 97 e97 .leaf .leaf) (.hookR 99 (Ev.toldH pfs) .leaf .leaf))) (.node 108 e108 (.node 106 e106 (.node 105 e105 (.node 104 e104 .leaf .leaf) .leaf) (.node 107 e107 .leaf .leaf)) (.node 110 e110 (.node 109 e109 .leaf .leaf) (.hook 112 cntH .leaf .leaf)))) (.node 123 e123 (.node 119 e119 (.node 117 e117 (.node 116 e116 (.node 115 e115 .leaf .leaf) .leaf) (.node 118 e118 .leaf .leaf)) (.node 121 e121 (.node 120 e120 .leaf .leaf) (.node 122 e122 .leaf .leaf))) (.node 128 e128 (.hook 125 sumH (.node 124 e124 .leaf .leaf) (.node 126 e126 .leaf .leaf)) (.node 130 e130 (.node 129 e129 .leaf .leaf) (.node 131 e131 .leaf .leaf))))) (.node 155 e155 (.node 141 e141 (.node 137 e137 (.node 135 e135 (.node 134 e134 (.node 133 e133 .leaf .leaf) .leaf) (.node 136 e136 .leaf .leaf)) (.node 139 e139 (.node 138 e138 .leaf .leaf) (.node 140 e140 .leaf .leaf))) (.node 151 e151 (.node 149 e149 (.node 148 e148 (.node 147 e147 .leaf .leaf) .leaf) (.node 150 e150 .leaf .leaf)) (.node 153 e153 (.node 152 e152 .leaf .leaf) (.hook 154 sumH .leaf .leaf)))) (.node 169 e169 (.node 161 e161 (.node 159 e159 (.node 158 e158 (.node 156 e156 .leaf .leaf) .leaf) (.node 160 e160 .leaf .leaf)) (.node 165 e165 (.node 164 e164 .leaf .leaf) (.node 168 e168 .leaf .leaf))) (.node 173 e173 (.node 171 e171 (.node 170 e170 .leaf .leaf) (.node 172 e172 .leaf .leaf)) (.node 175 e175 (.node 174 e174 .leaf .leaf) (.node 176 e176 .leaf .leaf)))))))
theorem tab_ok : tab.ok RT Go.Proofs.Tryz.prog 0 := ⟨e90_ok, ⟨e54_ok, ⟨e29_ok, ⟨e19_ok, ⟨e13_ok, ⟨e11_ok, ⟨e8_ok, ⟨e7_ok, trivial, trivial⟩, trivial⟩, ⟨e12_ok, trivial, trivial⟩⟩, ⟨e17_ok, ⟨e14_ok, trivial, trivial⟩, ⟨e18_ok, trivial, trivial⟩⟩⟩, ⟨e24_ok, ⟨e22_ok, ⟨e21_ok, ⟨e20_ok, trivial, trivial⟩, trivial⟩, ⟨e23_ok, trivial, trivial⟩⟩, ⟨e27_ok, ⟨e26_ok, trivial, trivial⟩, ⟨e28_ok, trivial, trivial⟩⟩⟩⟩, ⟨e44_ok, ⟨e34_ok, ⟨e32_ok, ⟨e31_ok, ⟨e30_ok, trivial, trivial⟩, trivial⟩, ⟨e33_ok, trivial, trivial⟩⟩, ⟨e40_ok, ⟨e39_ok, trivial, trivial⟩, ⟨e43_ok, trivial, trivial⟩⟩⟩, ⟨e49_ok, ⟨e47_ok, ⟨e46_ok, ⟨e45_ok, trivial, trivial⟩, trivial⟩, ⟨e48_ok, trivial, trivial⟩⟩, ⟨e52_ok, ⟨e51_ok, trivial, trivial⟩, ⟨e53_ok, trivial, trivial⟩⟩⟩⟩⟩, ⟨e72_ok, ⟨e63_ok, ⟨e59_ok, ⟨e57_ok, ⟨e56_ok, ⟨e55_ok, trivial, trivial⟩, trivial⟩, ⟨e58_ok, trivial, trivial⟩⟩, ⟨e61_ok, ⟨e60_ok, trivial, trivial⟩, ⟨e62_ok, trivial, trivial⟩⟩⟩, ⟨e68_ok, ⟨e66_ok, ⟨e65_ok, ⟨e64_ok, trivial, trivial⟩, trivial⟩, ⟨e67_ok, trivial, trivial⟩⟩, ⟨e70_ok, ⟨e69_ok, trivial, trivial⟩, ⟨e71_ok, trivial, trivial⟩⟩⟩⟩, ⟨e81_ok, ⟨e77_ok, ⟨e75_ok, ⟨e74_ok, ⟨e73_ok, trivial, trivial⟩, trivial⟩, ⟨e76_ok, trivial, trivial⟩⟩, ⟨e79_ok, ⟨e78_ok, trivial, trivial⟩, ⟨e80_ok, trivial, trivial⟩⟩⟩, ⟨e85_ok, ⟨e83_ok, ⟨e82_ok, trivial, trivial⟩, ⟨e84_ok, trivial, trivial⟩⟩, ⟨e87_ok, ⟨e86_ok, trivial, trivial⟩, ⟨e89_ok, trivial, trivial⟩⟩⟩⟩⟩⟩, ⟨e132_ok, ⟨e114_ok, ⟨e103_ok, ⟨e96_ok, ⟨e93_ok, ⟨e92_ok, ⟨e91_ok, trivial, trivial⟩, trivial⟩, ⟨e94_ok, trivial, trivial⟩⟩, ⟨e98_ok, ⟨e97_ok, trivial, trivial⟩, ⟨toldR, trivial, trivial⟩⟩⟩, ⟨e108_ok, ⟨e106_ok, ⟨e105_ok, ⟨e104_ok, trivial, trivial⟩, trivial⟩, ⟨e107_ok, trivial, trivial⟩⟩, ⟨e110_ok, ⟨e109_ok, trivial, trivial⟩, ⟨cnt112, trivial, trivial⟩⟩⟩⟩, ⟨e123_ok, ⟨e119_ok, ⟨e117_ok, ⟨e116_ok, ⟨e115_ok, trivial, trivial⟩, trivial⟩, ⟨e118_ok, trivial, trivial⟩⟩, ⟨e121_ok, ⟨e120_ok, trivial, trivial⟩, ⟨e122_ok, trivial, trivial⟩⟩⟩, ⟨e128_ok, ⟨sum125, ⟨e124_ok, trivial, trivial⟩, ⟨e126_ok, trivial, trivial⟩⟩, ⟨e130_ok, ⟨e129_ok, trivial, trivial⟩, ⟨e131_ok, trivial, trivial⟩⟩⟩⟩⟩, ⟨e155_ok, ⟨e141_ok, ⟨e137_ok, ⟨e135_ok, ⟨e134_ok, ⟨e133_ok, trivial, trivial⟩, trivial⟩, ⟨e136_ok, trivial, trivial⟩⟩, ⟨e139_ok, ⟨e138_ok, trivial, trivial⟩, ⟨e140_ok, trivial, trivial⟩⟩⟩, ⟨e151_ok, ⟨e149_ok, ⟨e148_ok, ⟨e147_ok, trivial, trivial⟩, trivial⟩, ⟨e150_ok, trivial, trivial⟩⟩, ⟨e153_ok, ⟨e152_ok, trivial, trivial⟩, ⟨sum154, trivial, trivial⟩⟩⟩⟩, ⟨e169_ok, ⟨e161_ok, ⟨e159_ok, ⟨e158_ok, ⟨e156_ok, trivial, trivial⟩, trivial⟩, ⟨e160_ok, trivial, trivial⟩⟩, ⟨e165_ok, ⟨e164_ok, trivial, trivial⟩, ⟨e168_ok, trivial, trivial⟩⟩⟩, ⟨e173_ok, ⟨e171_ok, ⟨e170_ok, trivial, trivial⟩, ⟨e172_ok, trivial, trivial⟩⟩, ⟨e175_ok, ⟨e174_ok, trivial, trivial⟩, ⟨e176_ok, trivial, trivial⟩⟩⟩⟩⟩⟩⟩
end Go.AM.TLk

set_option linter.unusedSimpArgs false
set_option linter.unusedVariables false
namespace Go.AM
namespace Ev
open Go.Proofs Go.AM.F Go.AM.Fd
variable {RT : List RDef}
noncomputable def numK (l : List UInt8) : Nat → (Nat → Bool) → Bool := List.rec (motive := fun _ => Nat → (Nat → Bool) → Bool) (fun r K => K r) (fun c _ ih r K => forceN (Nat.mod (Nat.add (Nat.mul r 256) c.toNat) 18446744073709551616) fun r1 => ih r1 K) l
theorem numK_eq : ∀ (l : List UInt8) (r : Nat) (K : Nat → Bool), numK l r K = K (l.foldl (fun n b => (n * 256 + b.toNat) % 18446744073709551616) r)
  | [], r, K => rfl
  | c :: l, r, K => by
    show forceN (Nat.mod (Nat.add (Nat.mul r 256) c.toNat) 18446744073709551616) (fun r1 => numK l r1 K) = _
    rw [forceN_eq, numK_eq l]; rfl
noncomputable def numH : HF := fun xs n t K => match xs with
  | [v] => Hk.bqK v t fun l => asT (Nat.ble l.length 1000000) (numK l 0 fun r => K (.int .u64 (.ofNat r)) n t)
  | _ => false
theorem num123 : HFok RT Tryz.prog 0 123 numH := HFok.of fun xs n t K h H r => by
  unfold numH at h
  split at h
  · obtain ⟨l, h1, h2⟩ := bqK_true r h
    obtain ⟨h3, h4⟩ := asT_true h2
    rw [numK_eq] at h4
    have := Nat.le_of_ble_eq_true h3
    exact ⟨_, t123 h1.bs (by omega), h4⟩
  · cases h
noncomputable def joinH : HF := fun xs n t K => match xs with
  | [v, .int .i64 (.ofNat w)] => Hk.bqK v t fun l => asT (Nat.ble l.length w) (numK l 0 fun r => match Nat.beq w 1, Nat.beq w 2, Nat.beq w 4, Nat.beq w 8 with
    | true, _, _, _ => K (.iface 5 (.int .u8 (.ofNat r))) n t
    | false, true, _, _ => K (.iface 181 (.int .u16 (.ofNat r))) n t
    | false, false, true, _ => K (.iface 87 (.int .u32 (.ofNat r))) n t
    | false, false, false, true => K (.iface 85 (.int .u64 (.ofNat r))) n t
    | _, _, _, _ => false)
  | _ => false
theorem join164 : HFok RT Tryz.prog 0 164 joinH := HFok.of fun xs n t K h H r => by
  unfold joinH at h
  split at h
  · rename_i v w
    obtain ⟨l, h1, h2⟩ := bqK_true r h
    obtain ⟨h3, h4⟩ := asT_true h2
    have hl := Nat.le_of_ble_eq_true h3
    rw [numK_eq] at h4
    have key : ∀ k, k < 4 → w = 2 ^ k → ARun Tryz.prog 0 164 [v, .int .i64 (.ofNat w)] H (.iface (tyR k) (.int (kdR k) (num l))) H := by
      rintro k hk rfl
      obtain ⟨v', H', a, rfl, rfl⟩ := t164 h1.bs k hk hl
      exact a
    split at h4
    · rename_i e; exact ⟨_, key 0 (by omega) (Nat.eq_of_beq_eq_true e), h4⟩
    · rename_i e; exact ⟨_, key 1 (by omega) (Nat.eq_of_beq_eq_true e), h4⟩
    · rename_i e; exact ⟨_, key 2 (by omega) (Nat.eq_of_beq_eq_true e), h4⟩
    · rename_i e; exact ⟨_, key 3 (by omega) (Nat.eq_of_beq_eq_true e), h4⟩
    · cases h4
  · cases h
noncomputable def splitH : HF := fun xs n t K => match xs with
  | [.iface ty (.int k (.ofNat m))] => match Nat.beq ty 5, Nat.beq ty 181, Nat.beq ty 87, Nat.beq ty 85 with
    | true, _, _, _ => asT (Nat.beq (kNum k) 4) (asT (Nat.ble (Nat.succ m) 256) (K (.tuple #[.int .u64 (.ofNat m), .int .i64 (.ofNat 1)]) n t))
    | false, true, _, _ => asT (Nat.beq (kNum k) 5) (asT (Nat.ble (Nat.succ m) 65536) (K (.tuple #[.int .u64 (.ofNat m), .int .i64 (.ofNat 2)]) n t))
    | false, false, true, _ => asT (Nat.beq (kNum k) 6) (asT (Nat.ble (Nat.succ m) 4294967296) (K (.tuple #[.int .u64 (.ofNat m), .int .i64 (.ofNat 4)]) n t))
    | false, false, false, true => asT (Nat.beq (kNum k) 7) (asT (Nat.ble (Nat.succ m) 18446744073709551616) (K (.tuple #[.int .u64 (.ofNat m), .int .i64 (.ofNat 8)]) n t))
    | _, _, _, _ => false
  | _ => false
theorem split172 : HFok RT Tryz.prog 0 172 splitH := HFok.of fun xs n t K h H r => by
  unfold splitH at h
  split at h
  · rename_i ty k m
    split at h
    · rename_i e
      obtain ⟨h1, h2⟩ := asT_true h
      obtain ⟨h3, h4⟩ := asT_true h2
      have := Nat.eq_of_beq_eq_true e
      have := kNum_inj (a := k) (b := .u8) h1
      have hm := Nat.le_of_ble_eq_true h3
      subst_vars
      exact ⟨_, t172 5 m (.inl rfl) (by show m < 256; omega) H, h4⟩
    · rename_i e
      obtain ⟨h1, h2⟩ := asT_true h
      obtain ⟨h3, h4⟩ := asT_true h2
      have := Nat.eq_of_beq_eq_true e
      have := kNum_inj (a := k) (b := .u16) h1
      have hm := Nat.le_of_ble_eq_true h3
      subst_vars
      exact ⟨_, t172 181 m (.inr (.inl rfl)) (by show m < 65536; omega) H, h4⟩
    · rename_i e
      obtain ⟨h1, h2⟩ := asT_true h
      obtain ⟨h3, h4⟩ := asT_true h2
      have := Nat.eq_of_beq_eq_true e
      have := kNum_inj (a := k) (b := .u32) h1
      have hm := Nat.le_of_ble_eq_true h3
      subst_vars
      exact ⟨_, t172 87 m (.inr (.inr (.inl rfl))) (by show m < 4294967296; omega) H, h4⟩
    · rename_i e
      obtain ⟨h1, h2⟩ := asT_true h
      obtain ⟨h3, h4⟩ := asT_true h2
      have := Nat.eq_of_beq_eq_true e
      have := kNum_inj (a := k) (b := .u64) h1
      have hm := Nat.le_of_ble_eq_true h3
      subst_vars
      exact ⟨_, t172 85 m (.inr (.inr (.inr rfl))) (by show m < 18446744073709551616; omega) H, h4⟩
    · cases h
  · cases h
noncomputable def yesH : HF := fun xs n t K => match xs with
  | [] => K (.bool true) n t
  | _ => false
theorem yes_ok {P : Program} {k : Nat} (h : ∀ H, ARun P 0 k [] H (.bool true) H) : HFok RT P 0 k yesH := HFok.of fun xs n t K h1 H r => by
  unfold yesH at h1
  split at h1
  · exact ⟨_, h H, h1⟩
  · cases h1
end Ev
end Go.AM

set_option linter.unusedSimpArgs false
set_option linter.unusedVariables false
namespace Go.AM.Fd
open Nat (reduceAdd reduceEqDiff reduceLT reduceLeDiff reduceMul reduceSub)
open Go.Proofs Go.AM.F
def padB (l : List UInt8) (n : Nat) : List UInt8 := l ++ List.replicate (n - l.length) 0
theorem pad_step (l : List UInt8) (m : Nat) : (l ++ List.replicate m 0) ++ [0] = l ++ List.replicate (m + 1) 0 := by rw [List.append_assoc, ← List.replicate_succ']
theorem t64 {H : AHeap} (s : List UInt8) (hs : s.length ≤ 1000000) : ∃ w K, ARun Tryz.prog 0 64 [.string ⟨s.toArray⟩] H w K ∧ w = .string ⟨(padB s 256).toArray⟩ ∧ Keeps H K := by
  refine walk2 f64_ok f64_n ?_
  intro Q hq1 hq2
  simp (disch := first | assumption | omega | (simp only [LN] <;> omega) | (simp (disch := first | assumption | omega | (simp only [LN] <;> omega)) only [row_alloc, row_set]; assumption)) only [f64, W_block, P3, ↓reduceIte, reduceAdd, reduceEqDiff, reduceCtorEq, initFr, reduceLT, clsA, reduceLeDiff, reduceMul, reduceSub, reduceIte]
  refine (OB.nil 5 H).appsR (m := s) (by simp; omega) ?_
  intro v1 K1 o1
  rw [List.nil_append] at o1
  simp (disch := first | assumption | omega | (simp only [LN] <;> omega) | (simp (disch := first | assumption | omega | (simp only [LN] <;> omega)) only [row_alloc, row_set]; assumption)) only [W_block, P3, ↓reduceIte, reduceAdd, reduceEqDiff, reduceCtorEq, initFr, reduceLT, clsA, reduceLeDiff, reduceMul, reduceSub, reduceIte]
  refine W_loop2 (fun q fr K => ∃ (m : Nat) (v e : Value), q = 256 - (s.length + m) ∧ (m = 0 ∨ s.length + m ≤ 256) ∧ OB 5 H K v (s ++ List.replicate m 0) ∧ fr = [.string ⟨s.toArray⟩, .string ByteArray.empty, v, e]) (256 - s.length) ⟨0, v1, undef, by omega, .inl rfl, by simpa using o1, rfl⟩ ?_
  rintro Q' q fr K ⟨m, v, e, rfl, hm, o, rfl⟩ hn he hrt
  have his := o.is
  have hlen := o.len
  rw [List.length_append, List.length_replicate] at hlen
  by_cases hc : s.length + m < 256
  · have hc' : ((s.length + m : Nat) : Int) < 256 := by omega
    simp (disch := first | assumption | omega | (simp only [LN] <;> omega) | (simp (disch := first | assumption | omega | (simp only [LN] <;> omega)) only [row_alloc, row_set]; assumption)) only [W_block, P3, ↓reduceIte, reduceAdd, reduceEqDiff, reduceCtorEq, initFr, reduceLT, clsA, reduceLeDiff, reduceMul, reduceSub, reduceIte, his, hlen, hc']
    have o5 : OB 5 H (K.alloc (.cells true false 1 [.int .u8 0] 5)) (slc K.n 0 1 1) [0] := OB.lit (l := [0]) (c := [.int .u8 0]) (n := 1) o.k rfl rfl rfl false
    refine (o.keeps ((Keeps.refl K).alloc _)).appR o5.bs (by simp; omega) ?_
    intro v6 K6 o6
    rw [pad_step] at o6
    simp (disch := first | assumption | omega | (simp only [LN] <;> omega) | (simp (disch := first | assumption | omega | (simp only [LN] <;> omega)) only [row_alloc, row_set]; assumption)) only [W_block, P3, ↓reduceIte, reduceAdd, reduceEqDiff, reduceCtorEq, initFr, reduceLT, clsA, reduceLeDiff, reduceMul, reduceSub, reduceIte]
    exact hn _ _ _ ⟨m + 1, v6, _, rfl, .inr (by omega), o6, rfl⟩ (by omega)
  · have hc' : ¬ ((s.length + m : Nat) : Int) < 256 := by omega
    simp (disch := first | assumption | omega | (simp only [LN] <;> omega) | (simp (disch := first | assumption | omega | (simp only [LN] <;> omega)) only [row_alloc, row_set]; assumption)) only [W_block, P3, ↓reduceIte, reduceAdd, reduceEqDiff, reduceCtorEq, initFr, reduceLT, clsA, reduceLeDiff, reduceMul, reduceSub, reduceIte, his, hlen, hc']
    refine he _ _ _ ?_
    simp (disch := first | assumption | omega | (simp only [LN] <;> omega) | (simp (disch := first | assumption | omega | (simp only [LN] <;> omega)) only [row_alloc, row_set]; assumption)) only [W_block, P3, ↓reduceIte, reduceAdd, reduceEqDiff, reduceCtorEq, initFr, reduceLT, clsA, reduceLeDiff, reduceMul, reduceSub, reduceIte, a_b2sB o.bs]
    refine hq2 _ _ ⟨_, rfl, ?_, o.k⟩
    have : m = 256 - s.length := by omega
    rw [this]; rfl
theorem bytesO {H K K' : AHeap} {n w : Nat} {v : Value} (a : AP K' 5 1 v w (cellsOf (be w n))) (k : Keeps K K') (f : Fresh K.n v) : OB 5 K K' v (be w n) := ⟨by rw [be_length]; exact a, k, f⟩
def blkB (l : List UInt8) (n : Nat) : List UInt8 := padB (l ++ be 4 (crc l)) 248 ++ be 8 n
theorem t94 {H K : AHeap} {v : Value} {l : List UInt8} (h : OB 5 H K v l) (hl : l.length ≤ 1000000) (n : Nat) (hn : n < 9223372036854775808) : ∃ w K', ARun Tryz.prog 0 94 [v, .int .i64 n] K w K' ∧ w = .string ⟨(blkB l n).toArray⟩ ∧ Keeps H K' := by
  refine walk2 f94_ok f94_n ?_
  intro Q hq1 hq2
  simp (disch := first | assumption | omega | (simp only [LN] <;> omega) | (simp (disch := first | assumption | omega | (simp only [LN] <;> omega)) only [row_alloc, row_set]; assumption)) only [f94, W_block, P3, ↓reduceIte, reduceAdd, reduceEqDiff, reduceCtorEq, initFr, reduceLT, clsA, reduceLeDiff, reduceMul, reduceSub, reduceIte]
  refine callK (t125 h.bs (by omega)) ?_
  rintro _ K1 ⟨rfl, k1⟩
  have hc := crc_lt l
  have hw : IntKind.u64.wrap (crc l : Nat) = (crc l : Nat) := by rw [wrap_u64]; omega
  have hwn : IntKind.u64.wrap (n : Int) = (n : Nat) := by rw [wrap_u64]; omega
  simp (disch := first | assumption | omega | (simp only [LN] <;> omega) | (simp (disch := first | assumption | omega | (simp only [LN] <;> omega)) only [row_alloc, row_set]; assumption)) only [W_block, P3, ↓reduceIte, reduceAdd, reduceEqDiff, reduceCtorEq, initFr, reduceLT, clsA, reduceLeDiff, reduceMul, reduceSub, reduceIte, hw]
  refine callK (t93 (crc l) 4 (by omega) K1) ?_
  rintro v2 K2 ⟨a2, k2, f2⟩
  have o2 := bytesO (H := H) a2 k2 f2
  simp (disch := first | assumption | omega | (simp only [LN] <;> omega) | (simp (disch := first | assumption | omega | (simp only [LN] <;> omega)) only [row_alloc, row_set]; assumption)) only [W_block, P3, ↓reduceIte, reduceAdd, reduceEqDiff, reduceCtorEq, initFr, reduceLT, clsA, reduceLeDiff, reduceMul, reduceSub, reduceIte]
  refine (h.keeps (k1.trans k2)).appR o2.bs (by rw [be_length]; omega) ?_
  intro v3 K3 o3
  simp (disch := first | assumption | omega | (simp only [LN] <;> omega) | (simp (disch := first | assumption | omega | (simp only [LN] <;> omega)) only [row_alloc, row_set]; assumption)) only [W_block, P3, ↓reduceIte, reduceAdd, reduceEqDiff, reduceCtorEq, initFr, reduceLT, clsA, reduceLeDiff, reduceMul, reduceSub, reduceIte]
  generalize hL : l ++ be 4 (crc l) = L at o3
  have hLl : L.length = l.length + 4 := by rw [← hL, List.length_append, be_length]
  refine W_loop2 (fun q fr K => ∃ (m : Nat) (v e : Value), q = 248 - (L.length + m) ∧ (m = 0 ∨ L.length + m ≤ 248) ∧ OB 5 H K v (L ++ List.replicate m 0) ∧ fr = [v, .int .i64 n, .string ByteArray.empty, e]) (248 - L.length) ⟨0, v3, undef, by omega, .inl rfl, by simpa using o3, rfl⟩ ?_
  rintro Q' q fr K ⟨m, v, e, rfl, hm, o, rfl⟩ hn' he hrt
  have his := o.is
  have hlen := o.len
  rw [List.length_append, List.length_replicate] at hlen
  by_cases hc : L.length + m < 248
  · have hc' : ((L.length + m : Nat) : Int) < 248 := by omega
    simp (disch := first | assumption | omega | (simp only [LN] <;> omega) | (simp (disch := first | assumption | omega | (simp only [LN] <;> omega)) only [row_alloc, row_set]; assumption)) only [W_block, P3, ↓reduceIte, reduceAdd, reduceEqDiff, reduceCtorEq, initFr, reduceLT, clsA, reduceLeDiff, reduceMul, reduceSub, reduceIte, his, hlen, hc']
    have o5 : OB 5 H (K.alloc (.cells true false 1 [.int .u8 0] 5)) (slc K.n 0 1 1) [0] := OB.lit (l := [0]) (c := [.int .u8 0]) (n := 1) o.k rfl rfl rfl false
    refine (o.keeps ((Keeps.refl K).alloc _)).appR o5.bs (by simp; omega) ?_
    intro v6 K6 o6
    rw [pad_step] at o6
    simp (disch := first | assumption | omega | (simp only [LN] <;> omega) | (simp (disch := first | assumption | omega | (simp only [LN] <;> omega)) only [row_alloc, row_set]; assumption)) only [W_block, P3, ↓reduceIte, reduceAdd, reduceEqDiff, reduceCtorEq, initFr, reduceLT, clsA, reduceLeDiff, reduceMul, reduceSub, reduceIte]
    exact hn' _ _ _ ⟨m + 1, v6, _, rfl, .inr (by omega), o6, rfl⟩ (by omega)
  · have hc' : ¬ ((L.length + m : Nat) : Int) < 248 := by omega
    simp (disch := first | assumption | omega | (simp only [LN] <;> omega) | (simp (disch := first | assumption | omega | (simp only [LN] <;> omega)) only [row_alloc, row_set]; assumption)) only [W_block, P3, ↓reduceIte, reduceAdd, reduceEqDiff, reduceCtorEq, initFr, reduceLT, clsA, reduceLeDiff, reduceMul, reduceSub, reduceIte, his, hlen, hc']
    refine he _ _ _ ?_
    simp (disch := first | assumption | omega | (simp only [LN] <;> omega) | (simp (disch := first | assumption | omega | (simp only [LN] <;> omega)) only [row_alloc, row_set]; assumption)) only [W_block, P3, ↓reduceIte, reduceAdd, reduceEqDiff, reduceCtorEq, initFr, reduceLT, clsA, reduceLeDiff, reduceMul, reduceSub, reduceIte, hwn]
    refine callK (t93 n 8 (by omega) K) ?_
    rintro v7 K7 ⟨a7, k7, f7⟩
    have o7 := bytesO (H := H) a7 k7 f7
    simp (disch := first | assumption | omega | (simp only [LN] <;> omega) | (simp (disch := first | assumption | omega | (simp only [LN] <;> omega)) only [row_alloc, row_set]; assumption)) only [W_block, P3, ↓reduceIte, reduceAdd, reduceEqDiff, reduceCtorEq, initFr, reduceLT, clsA, reduceLeDiff, reduceMul, reduceSub, reduceIte]
    refine (o.keeps k7).appR o7.bs (by rw [be_length]; simp; omega) ?_
    intro v8 K8 o8
    simp (disch := first | assumption | omega | (simp only [LN] <;> omega) | (simp (disch := first | assumption | omega | (simp only [LN] <;> omega)) only [row_alloc, row_set]; assumption)) only [W_block, P3, ↓reduceIte, reduceAdd, reduceEqDiff, reduceCtorEq, initFr, reduceLT, clsA, reduceLeDiff, reduceMul, reduceSub, reduceIte, a_b2sB o8.bs]
    refine hq2 _ _ ⟨_, rfl, ?_, o8.k⟩
    have : m = 248 - L.length := by omega
    rw [this]; unfold blkB padB; rw [hL]; rfl
def headB (t f : Nat) : List UInt8 := blkB ([72] ++ be 8 t ++ be 8 f) t
def recB (k : Nat) (s : List UInt8) : List UInt8 := blkB ([82] ++ be 8 k ++ be 2 s.length ++ s) k
theorem t33 {H : AHeap} (t f : Nat) (ht : t < 9223372036854775808) (hf : f < 9223372036854775808) : ∃ w K, ARun Tryz.prog 0 33 [.int .i64 t, .int .i64 f] H w K ∧ w = .string ⟨(headB t f).toArray⟩ ∧ Keeps H K := by
  refine walk2 f33_ok f33_n ?_
  intro Q hq1 hq2
  have hwt : IntKind.u64.wrap (t : Int) = (t : Nat) := by rw [wrap_u64]; omega
  have hwf : IntKind.u64.wrap (f : Int) = (f : Nat) := by rw [wrap_u64]; omega
  simp (disch := first | assumption | omega | (simp only [LN] <;> omega) | (simp (disch := first | assumption | omega | (simp only [LN] <;> omega)) only [row_alloc, row_set]; assumption)) only [f33, W_block, P3, ↓reduceIte, reduceAdd, reduceEqDiff, reduceCtorEq, initFr, reduceLT, clsA, reduceLeDiff, reduceMul, reduceSub, reduceIte, hwt]
  have o1 : OB 5 H (H.alloc (.cells true false 1 [.int .u8 72] 5)) (slc H.n 0 1 1) [72] := OB.lit (l := [72]) (c := [.int .u8 72]) (n := 1) (Keeps.refl H) rfl rfl rfl false
  refine callK (t93 t 8 (by omega) _) ?_
  rintro v2 K2 ⟨a2, k2, f2⟩
  have o2 := bytesO (H := H) a2 k2 f2
  simp (disch := first | assumption | omega | (simp only [LN] <;> omega) | (simp (disch := first | assumption | omega | (simp only [LN] <;> omega)) only [row_alloc, row_set]; assumption)) only [W_block, P3, ↓reduceIte, reduceAdd, reduceEqDiff, reduceCtorEq, initFr, reduceLT, clsA, reduceLeDiff, reduceMul, reduceSub, reduceIte]
  refine (o1.keeps k2).appR o2.bs (by rw [be_length]; simp) ?_
  intro v3 K3 o3
  simp (disch := first | assumption | omega | (simp only [LN] <;> omega) | (simp (disch := first | assumption | omega | (simp only [LN] <;> omega)) only [row_alloc, row_set]; assumption)) only [W_block, P3, ↓reduceIte, reduceAdd, reduceEqDiff, reduceCtorEq, initFr, reduceLT, clsA, reduceLeDiff, reduceMul, reduceSub, reduceIte, hwf]
  refine callK (t93 f 8 (by omega) _) ?_
  rintro v4 K4 ⟨a4, k4, f4⟩
  have o4 := bytesO (H := H) a4 k4 f4
  simp (disch := first | assumption | omega | (simp only [LN] <;> omega) | (simp (disch := first | assumption | omega | (simp only [LN] <;> omega)) only [row_alloc, row_set]; assumption)) only [W_block, P3, ↓reduceIte, reduceAdd, reduceEqDiff, reduceCtorEq, initFr, reduceLT, clsA, reduceLeDiff, reduceMul, reduceSub, reduceIte]
  refine (o3.keeps k4).appR o4.bs (by simp only [List.length_append, be_length, List.length_cons, List.length_nil]; omega) ?_
  intro v5 K5 o5
  simp (disch := first | assumption | omega | (simp only [LN] <;> omega) | (simp (disch := first | assumption | omega | (simp only [LN] <;> omega)) only [row_alloc, row_set]; assumption)) only [W_block, P3, ↓reduceIte, reduceAdd, reduceEqDiff, reduceCtorEq, initFr, reduceLT, clsA, reduceLeDiff, reduceMul, reduceSub, reduceIte]
  refine callK (t94 o5 (by simp only [List.length_append, be_length, List.length_cons, List.length_nil]; omega) t ht) ?_
  rintro _ K6 ⟨rfl, k6⟩
  simp (disch := first | assumption | omega | (simp only [LN] <;> omega) | (simp (disch := first | assumption | omega | (simp only [LN] <;> omega)) only [row_alloc, row_set]; assumption)) only [W_block, P3, ↓reduceIte, reduceAdd, reduceEqDiff, reduceCtorEq, initFr, reduceLT, clsA, reduceLeDiff, reduceMul, reduceSub, reduceIte]
  exact hq2 _ _ ⟨_, rfl, rfl, k6⟩
theorem t34 {H : AHeap} (k : Nat) (s : List UInt8) (hk : k < 9223372036854775808) (hs : s.length ≤ 60000) : ∃ w K, ARun Tryz.prog 0 34 [.int .i64 k, .string ⟨s.toArray⟩] H w K ∧ w = .string ⟨(recB k s).toArray⟩ ∧ Keeps H K := by
  refine walk2 f34_ok f34_n ?_
  intro Q hq1 hq2
  have hwk : IntKind.u64.wrap (k : Int) = (k : Nat) := by rw [wrap_u64]; omega
  have hws : IntKind.u64.wrap (s.length : Int) = (s.length : Nat) := by rw [wrap_u64]; omega
  simp (disch := first | assumption | omega | (simp only [LN] <;> omega) | (simp (disch := first | assumption | omega | (simp only [LN] <;> omega)) only [row_alloc, row_set]; assumption)) only [f34, W_block, P3, ↓reduceIte, reduceAdd, reduceEqDiff, reduceCtorEq, initFr, reduceLT, clsA, reduceLeDiff, reduceMul, reduceSub, reduceIte, hwk]
  have o1 : OB 5 H (H.alloc (.cells true false 1 [.int .u8 82] 5)) (slc H.n 0 1 1) [82] := OB.lit (l := [82]) (c := [.int .u8 82]) (n := 1) (Keeps.refl H) rfl rfl rfl false
  refine callK (t93 k 8 (by omega) _) ?_
  rintro v2 K2 ⟨a2, k2, f2⟩
  have o2 := bytesO (H := H) a2 k2 f2
  simp (disch := first | assumption | omega | (simp only [LN] <;> omega) | (simp (disch := first | assumption | omega | (simp only [LN] <;> omega)) only [row_alloc, row_set]; assumption)) only [W_block, P3, ↓reduceIte, reduceAdd, reduceEqDiff, reduceCtorEq, initFr, reduceLT, clsA, reduceLeDiff, reduceMul, reduceSub, reduceIte]
  refine (o1.keeps k2).appR o2.bs (by rw [be_length]; simp) ?_
  intro v3 K3 o3
  simp (disch := first | assumption | omega | (simp only [LN] <;> omega) | (simp (disch := first | assumption | omega | (simp only [LN] <;> omega)) only [row_alloc, row_set]; assumption)) only [W_block, P3, ↓reduceIte, reduceAdd, reduceEqDiff, reduceCtorEq, initFr, reduceLT, clsA, reduceLeDiff, reduceMul, reduceSub, reduceIte, str_size, hws]
  refine callK (t93 s.length 2 (by omega) _) ?_
  rintro v4 K4 ⟨a4, k4, f4⟩
  have o4 := bytesO (H := H) a4 k4 f4
  simp (disch := first | assumption | omega | (simp only [LN] <;> omega) | (simp (disch := first | assumption | omega | (simp only [LN] <;> omega)) only [row_alloc, row_set]; assumption)) only [W_block, P3, ↓reduceIte, reduceAdd, reduceEqDiff, reduceCtorEq, initFr, reduceLT, clsA, reduceLeDiff, reduceMul, reduceSub, reduceIte]
  refine (o3.keeps k4).appR o4.bs (by simp only [List.length_append, be_length, List.length_cons, List.length_nil]; omega) ?_
  intro v5 K5 o5
  simp (disch := first | assumption | omega | (simp only [LN] <;> omega) | (simp (disch := first | assumption | omega | (simp only [LN] <;> omega)) only [row_alloc, row_set]; assumption)) only [W_block, P3, ↓reduceIte, reduceAdd, reduceEqDiff, reduceCtorEq, initFr, reduceLT, clsA, reduceLeDiff, reduceMul, reduceSub, reduceIte]
  refine o5.appsR (m := s) (by simp only [List.length_append, be_length, List.length_cons, List.length_nil]; omega) ?_
  intro v6 K6 o6
  simp (disch := first | assumption | omega | (simp only [LN] <;> omega) | (simp (disch := first | assumption | omega | (simp only [LN] <;> omega)) only [row_alloc, row_set]; assumption)) only [W_block, P3, ↓reduceIte, reduceAdd, reduceEqDiff, reduceCtorEq, initFr, reduceLT, clsA, reduceLeDiff, reduceMul, reduceSub, reduceIte]
  refine callK (t94 o6 (by simp only [List.length_append, be_length, List.length_cons, List.length_nil]; omega) k hk) ?_
  rintro _ K7 ⟨rfl, k7⟩
  simp (disch := first | assumption | omega | (simp only [LN] <;> omega) | (simp (disch := first | assumption | omega | (simp only [LN] <;> omega)) only [row_alloc, row_set]; assumption)) only [W_block, P3, ↓reduceIte, reduceAdd, reduceEqDiff, reduceCtorEq, initFr, reduceLT, clsA, reduceLeDiff, reduceMul, reduceSub, reduceIte]
  exact hq2 _ _ ⟨_, rfl, rfl, k7⟩
end Go.AM.Fd

set_option linter.unusedSimpArgs false
set_option linter.unusedVariables false
namespace Go.AM
namespace Ev
open Go.Proofs Go.AM.F Go.AM.Fd
variable {RT : List RDef}
noncomputable def normK (l : List UInt8) : (List UInt8 → Bool) → Bool := List.rec (motive := fun _ => (List UInt8 → Bool) → Bool) (fun K => K []) (fun c _ ih K => forceN c.toNat fun m => ih fun r => K (UInt8.ofNat m :: r)) l
theorem normK_eq : ∀ (l : List UInt8) (K : List UInt8 → Bool), normK l K = K l
  | [], K => rfl
  | c :: l, K => by
    show forceN c.toNat (fun m => normK l fun r => K (UInt8.ofNat m :: r)) = _
    rw [forceN_eq, normK_eq l, UInt8.ofNat_toNat]
noncomputable def blkK (l : List UInt8) (n : Nat) (K : List UInt8 → Bool) : Bool := crcK l 4294967295 fun r => forceN (Nat.xor 4294967295 r) fun c => normK (padB (l ++ be 4 c) 248 ++ be 8 n) K
theorem blkK_eq (l : List UInt8) (n : Nat) (K : List UInt8 → Bool) : blkK l n K = K (blkB l n) := by
  unfold blkK
  rw [crcK_eq, forceN_eq, normK_eq]; rfl
theorem str_of (s : ByteArray) : s = ⟨s.data.toList.toArray⟩ := by cases s; simp
noncomputable def b14H : HF := fun xs n t K => match xs with
  | [.string s] => asT (Nat.ble s.data.toList.length 1000000) (normK (padB s.data.toList 256) fun l => K (.string ⟨l.toArray⟩) n t)
  | _ => false
theorem b64 : HFok RT Tryz.prog 0 64 b14H := HFok.of fun xs n t K h H r => by
  unfold b14H at h
  split at h
  · rename_i s
    obtain ⟨h1, h2⟩ := asT_true h
    rw [normK_eq] at h2
    obtain ⟨w, K', a, rfl, k⟩ := t64 (H := H) s.data.toList (Nat.le_of_ble_eq_true h1)
    have a' := a.gc0 k (.inr (.string _))
    rw [← str_of] at a'
    exact ⟨_, a', h2⟩
  · cases h
noncomputable def headH : HF := fun xs n t K => match xs with
  | [.int .i64 (.ofNat a), .int .i64 (.ofNat b)] => asT (Nat.ble (Nat.succ a) 9223372036854775808) (asT (Nat.ble (Nat.succ b) 9223372036854775808) (blkK ([72] ++ be 8 a ++ be 8 b) a fun l => K (.string ⟨l.toArray⟩) n t))
  | _ => false
theorem head33 : HFok RT Tryz.prog 0 33 headH := HFok.of fun xs n t K h H r => by
  unfold headH at h
  split at h
  · rename_i a b
    obtain ⟨h1, h2⟩ := asT_true h
    obtain ⟨h3, h4⟩ := asT_true h2
    rw [blkK_eq] at h4
    obtain ⟨w, K', c, rfl, k⟩ := t33 (H := H) a b (Nat.le_of_ble_eq_true h1) (Nat.le_of_ble_eq_true h3)
    exact ⟨_, c.gc0 k (.inr (.string _)), h4⟩
  · cases h
noncomputable def recH : HF := fun xs n t K => match xs with
  | [.int .i64 (.ofNat a), .string s] => asT (Nat.ble (Nat.succ a) 9223372036854775808) (asT (Nat.ble s.data.toList.length 60000) (blkK ([82] ++ be 8 a ++ be 2 s.data.toList.length ++ s.data.toList) a fun l => K (.string ⟨l.toArray⟩) n t))
  | _ => false
theorem rec34 : HFok RT Tryz.prog 0 34 recH := HFok.of fun xs n t K h H r => by
  unfold recH at h
  split at h
  · rename_i a s
    obtain ⟨h1, h2⟩ := asT_true h
    obtain ⟨h3, h4⟩ := asT_true h2
    rw [blkK_eq] at h4
    obtain ⟨w, K', c, rfl, k⟩ := t34 (H := H) a s.data.toList (Nat.le_of_ble_eq_true h1) (Nat.le_of_ble_eq_true h3)
    have c' := c.gc0 k (.inr (.string _))
    rw [← str_of] at c'
    exact ⟨_, c', h4⟩
  · cases h
end Ev
end Go.AM
