/- Part of the proof. -/
import Derived.Test.YtfneppahknoaoaaGreatDoorGLK02
set_option linter.unusedSimpArgs false
set_option linter.unusedVariables false
set_option maxRecDepth 100000
set_option maxHeartbeats 0
namespace Go.AM.F
def zclD:TypeId→List Value
 |30=>[(.slice none 0 0),(.slice none 0 0),(.slice none 0 0),(.slice none 0 0)]
 |55=>[(.slice none 0 0),(.slice none 0 0),(.slice none 0 0),(.slice none 0 0),(.map none)]
 |44=>[(.string ByteArray.empty),(.int .i64 0),(.slice none 0 0),(.slice none 0 0),(.slice none 0 0),(.slice none 0 0)]
 |46=>[(.string ByteArray.empty),(.int .i64 0)]
 |47=>[(.string ByteArray.empty),(.int .i64 0)]
 |49=>[(.int .i64 0),(.bool false)]
 |117=>[(.bool false),(.bool false),(.bool false),(.bool false)]
 |_=>[]
def zvlD:TypeId→Value
 |80=>(.int .i64 0)
 |83=>(.int .i64 0)
 |81=>(.int .i64 0)
 |_=>undef
def zklD:TypeId→List Nat
 |46=>[2,1]
 |47=>[2,1]
 |117=>[0,0,0,0]
 |49=>[1,0]
 |_=>[]
def zrlD:Nat→TypeId→List Value
 |1,3=>[(.int .i64 0)]
 |1,9=>[(.string ByteArray.empty)]
 |1,46=>[(.string ByteArray.empty),(.int .i64 0)]
 |1,47=>[(.string ByteArray.empty),(.int .i64 0)]
 |1,44=>[(.string ByteArray.empty),(.int .i64 0),(.slice none 0 0),(.slice none 0 0),(.slice none 0 0),(.slice none 0 0)]
 |4,32=>[(.int .i64 0),(.int .i64 0),(.int .i64 0),(.int .i64 0)]
 |1,49=>[(.int .i64 0),(.bool false)]
 |_,_=>[]
noncomputable def f19:AFunc:=by
 refine(fun(_:Cz zclD zvlD zklD zrlD Go.Proofs.Tryz.prog 4 [0,1,2] 19 ?a)=>?a) ?h
 case h=>
 intro zc zv zk zr hc hv hk hr
 conv=>lhs;cbv;try simp only[hc,hv,hk,hr,zclD,zvlD,zklD,zrlD]
theorem f19_ok:compF Go.Proofs.Tryz.prog 4 [0,1,2] 19=some f19:=by kernel_rfl
theorem f19_n:argsOK Go.Proofs.Tryz.prog 19 1=true:=by kernel_rfl
noncomputable def f10:AFunc:=by
 refine(fun(_:Cz zclD zvlD zklD zrlD Go.Proofs.Tryz.prog 4 [0,1,2,5,6] 10 ?a)=>?a) ?h
 case h=>
 intro zc zv zk zr hc hv hk hr
 conv=>lhs;cbv;try simp only[hc,hv,hk,hr,zclD,zvlD,zklD,zrlD]
theorem f10_ok:compF Go.Proofs.Tryz.prog 4 [0,1,2,5,6] 10=some f10:=by kernel_rfl
theorem f10_n:argsOK Go.Proofs.Tryz.prog 10 0=true:=by kernel_rfl
noncomputable def f13:AFunc:=by
 refine(fun(_:Cz zclD zvlD zklD zrlD Go.Proofs.Tryz.prog 4 [0,2,3,4,5,6,7,8,11,17,18,19,20,28] 13 ?a)=>?a) ?h
 case h=>
 intro zc zv zk zr hc hv hk hr
 conv=>lhs;cbv;try simp only[hc,hv,hk,hr,zclD,zvlD,zklD,zrlD]
theorem f13_ok:compF Go.Proofs.Tryz.prog 4 [0,2,3,4,5,6,7,8,11,17,18,19,20,28] 13=some f13:=by kernel_rfl
theorem f13_n:argsOK Go.Proofs.Tryz.prog 13 1=true:=by kernel_rfl
noncomputable def f14:AFunc:=by
 refine(fun(_:Cz zclD zvlD zklD zrlD Go.Proofs.Tryz.prog 4 [0,2,3,4,5,6,7,8,9,10,13,21,33,40,52,54] 14 ?a)=>?a) ?h
 case h=>
 intro zc zv zk zr hc hv hk hr
 conv=>lhs;cbv;try simp only[hc,hv,hk,hr,zclD,zvlD,zklD,zrlD]
theorem f14_ok:compF Go.Proofs.Tryz.prog 4 [0,2,3,4,5,6,7,8,9,10,13,21,33,40,52,54] 14=some f14:=by kernel_rfl
theorem f14_n:argsOK Go.Proofs.Tryz.prog 14 1=true:=by kernel_rfl
noncomputable def f15:AFunc:=by
 refine(fun(_:Cz zclD zvlD zklD zrlD Go.Proofs.Tryz.prog 4 [0,1,2,3,4,5,6,7,40,45,58,63,76,81,95] 15 ?a)=>?a) ?h
 case h=>
 intro zc zv zk zr hc hv hk hr
 conv=>lhs;cbv;try simp only[hc,hv,hk,hr,zclD,zvlD,zklD,zrlD]
theorem f15_ok:compF Go.Proofs.Tryz.prog 4 [0,1,2,3,4,5,6,7,40,45,58,63,76,81,95] 15=some f15:=by kernel_rfl
theorem f15_n:argsOK Go.Proofs.Tryz.prog 15 2=true:=by kernel_rfl
noncomputable def f16:AFunc:=by
 refine(fun(_:Cz zclD zvlD zklD zrlD Go.Proofs.Tryz.prog 4 [0,1,2,4,5,6,7,8,9,10,20,41,63,85,109] 16 ?a)=>?a) ?h
 case h=>
 intro zc zv zk zr hc hv hk hr
 conv=>lhs;cbv;try simp only[hc,hv,hk,hr,zclD,zvlD,zklD,zrlD]
theorem f16_ok:compF Go.Proofs.Tryz.prog 4 [0,1,2,4,5,6,7,8,9,10,20,41,63,85,109] 16=some f16:=by kernel_rfl
theorem f16_n:argsOK Go.Proofs.Tryz.prog 16 2=true:=by kernel_rfl
noncomputable def f18:AFunc:=by
 refine(fun(_:Cz zclD zvlD zklD zrlD Go.Proofs.Tryz.prog 4 [0,1,2,3,4,5,6,7,8,9,10,11,12,13,14,15,16,42,47,48,49,50,68,69,70,71,98,99,100,101,128,129,130,131] 18 ?a)=>?a) ?h
 case h=>
 intro zc zv zk zr hc hv hk hr
 conv=>lhs;cbv;try simp only[hc,hv,hk,hr,zclD,zvlD,zklD,zrlD]
theorem f18_ok:compF Go.Proofs.Tryz.prog 4 [0,1,2,3,4,5,6,7,8,9,10,11,12,13,14,15,16,42,47,48,49,50,68,69,70,71,98,99,100,101,128,129,130,131] 18=some f18:=by kernel_rfl
theorem f18_n:argsOK Go.Proofs.Tryz.prog 18 1=true:=by kernel_rfl
noncomputable def f21:AFunc:=by
 refine(fun(_:Cz zclD zvlD zklD zrlD Go.Proofs.Tryz.prog 4 [0,1,2,3,4,5,6,7,8,10,16,35,40,54,59,73,78,131] 21 ?a)=>?a) ?h
 case h=>
 intro zc zv zk zr hc hv hk hr
 conv=>lhs;cbv;try simp only[hc,hv,hk,hr,zclD,zvlD,zklD,zrlD]
theorem f21_ok:compF Go.Proofs.Tryz.prog 4 [0,1,2,3,4,5,6,7,8,10,16,35,40,54,59,73,78,131] 21=some f21:=by kernel_rfl
theorem f21_n:argsOK Go.Proofs.Tryz.prog 21 1=true:=by kernel_rfl
noncomputable def f24:AFunc:=by
 refine(fun(_:Cz zclD zvlD zklD zrlD Go.Proofs.Tryz.prog 4 [0,1,4,5,6,18,22,23,28,34] 24 ?a)=>?a) ?h
 case h=>
 intro zc zv zk zr hc hv hk hr
 conv=>lhs;cbv;try simp only[hc,hv,hk,hr,zclD,zvlD,zklD,zrlD]
theorem f24_ok:compF Go.Proofs.Tryz.prog 4 [0,1,4,5,6,18,22,23,28,34] 24=some f24:=by kernel_rfl
theorem f24_n:argsOK Go.Proofs.Tryz.prog 24 2=true:=by kernel_rfl
noncomputable def f27:AFunc:=by
 refine(fun(_:Cz zclD zvlD zklD zrlD Go.Proofs.Tryz.prog 4 [0,1,2,4,5,6,10,13,58,66,71,88,93] 27 ?a)=>?a) ?h
 case h=>
 intro zc zv zk zr hc hv hk hr
 conv=>lhs;cbv;try simp only[hc,hv,hk,hr,zclD,zvlD,zklD,zrlD]
theorem f27_ok:compF Go.Proofs.Tryz.prog 4 [0,1,2,4,5,6,10,13,58,66,71,88,93] 27=some f27:=by kernel_rfl
theorem f27_n:argsOK Go.Proofs.Tryz.prog 27 2=true:=by kernel_rfl
noncomputable def f28:AFunc:=by
 refine(fun(_:Cz zclD zvlD zklD zrlD Go.Proofs.Tryz.prog 4 [0,1,2] 28 ?a)=>?a) ?h
 case h=>
 intro zc zv zk zr hc hv hk hr
 conv=>lhs;cbv;try simp only[hc,hv,hk,hr,zclD,zvlD,zklD,zrlD]
theorem f28_ok:compF Go.Proofs.Tryz.prog 4 [0,1,2] 28=some f28:=by kernel_rfl
theorem f28_n:argsOK Go.Proofs.Tryz.prog 28 1=true:=by kernel_rfl
noncomputable def f30:AFunc:=by
 refine(fun(_:Cz zclD zvlD zklD zrlD Go.Proofs.Tryz.prog 4 [0,1,2,3,4] 30 ?a)=>?a) ?h
 case h=>
 intro zc zv zk zr hc hv hk hr
 conv=>lhs;cbv;try simp only[hc,hv,hk,hr,zclD,zvlD,zklD,zrlD]
theorem f30_ok:compF Go.Proofs.Tryz.prog 4 [0,1,2,3,4] 30=some f30:=by kernel_rfl
theorem f30_n:argsOK Go.Proofs.Tryz.prog 30 2=true:=by kernel_rfl
noncomputable def f38:AFunc:=by
 refine(fun(_:Cz zclD zvlD zklD zrlD Go.Proofs.Tryz.prog 4 [0,1,2,6,8,18] 38 ?a)=>?a) ?h
 case h=>
 intro zc zv zk zr hc hv hk hr
 conv=>lhs;cbv;try simp only[hc,hv,hk,hr,zclD,zvlD,zklD,zrlD]
theorem f38_ok:compF Go.Proofs.Tryz.prog 4 [0,1,2,6,8,18] 38=some f38:=by kernel_rfl
theorem f38_n:argsOK Go.Proofs.Tryz.prog 38 3=true:=by kernel_rfl
noncomputable def f39:AFunc:=by
 refine(fun(_:Cz zclD zvlD zklD zrlD Go.Proofs.Tryz.prog 4 [0,1,4,6,7,8,9,10,19] 39 ?a)=>?a) ?h
 case h=>
 intro zc zv zk zr hc hv hk hr
 conv=>lhs;cbv;try simp only[hc,hv,hk,hr,zclD,zvlD,zklD,zrlD]
theorem f39_ok:compF Go.Proofs.Tryz.prog 4 [0,1,4,6,7,8,9,10,19] 39=some f39:=by kernel_rfl
theorem f39_n:argsOK Go.Proofs.Tryz.prog 39 2=true:=by kernel_rfl
noncomputable def f40:AFunc:=by
 refine(fun(_:Cz zclD zvlD zklD zrlD Go.Proofs.Tryz.prog 4 [0,1,4,5,6,7,8,9,10,23] 40 ?a)=>?a) ?h
 case h=>
 intro zc zv zk zr hc hv hk hr
 conv=>lhs;cbv;try simp only[hc,hv,hk,hr,zclD,zvlD,zklD,zrlD]
theorem f40_ok:compF Go.Proofs.Tryz.prog 4 [0,1,4,5,6,7,8,9,10,23] 40=some f40:=by kernel_rfl
theorem f40_n:argsOK Go.Proofs.Tryz.prog 40 2=true:=by kernel_rfl
noncomputable def f42:AFunc:=by
 refine(fun(_:Cz zclD zvlD zklD zrlD Go.Proofs.Tryz.prog 4 [0,1,2,3,4,5,6,15,31,47] 42 ?a)=>?a) ?h
 case h=>
 intro zc zv zk zr hc hv hk hr
 conv=>lhs;cbv;try simp only[hc,hv,hk,hr,zclD,zvlD,zklD,zrlD]
theorem f42_ok:compF Go.Proofs.Tryz.prog 4 [0,1,2,3,4,5,6,15,31,47] 42=some f42:=by kernel_rfl
theorem f42_n:argsOK Go.Proofs.Tryz.prog 42 1=true:=by kernel_rfl
noncomputable def f44:AFunc:=by
 refine(fun(_:Cz zclD zvlD zklD zrlD Go.Proofs.Tryz.prog 4 [0,1,4,5,9,17] 44 ?a)=>?a) ?h
 case h=>
 intro zc zv zk zr hc hv hk hr
 conv=>lhs;cbv;try simp only[hc,hv,hk,hr,zclD,zvlD,zklD,zrlD]
theorem f44_ok:compF Go.Proofs.Tryz.prog 4 [0,1,4,5,9,17] 44=some f44:=by kernel_rfl
theorem f44_n:argsOK Go.Proofs.Tryz.prog 44 2=true:=by kernel_rfl
noncomputable def f45:AFunc:=by
 refine(fun(_:Cz zclD zvlD zklD zrlD Go.Proofs.Tryz.prog 4 [0,1,4,5,13,28] 45 ?a)=>?a) ?h
 case h=>
 intro zc zv zk zr hc hv hk hr
 conv=>lhs;cbv;try simp only[hc,hv,hk,hr,zclD,zvlD,zklD,zrlD]
theorem f45_ok:compF Go.Proofs.Tryz.prog 4 [0,1,4,5,13,28] 45=some f45:=by kernel_rfl
theorem f45_n:argsOK Go.Proofs.Tryz.prog 45 2=true:=by kernel_rfl
noncomputable def f46:AFunc:=by
 refine(fun(_:Cz zclD zvlD zklD zrlD Go.Proofs.Tryz.prog 4 [0,2,3,4,12] 46 ?a)=>?a) ?h
 case h=>
 intro zc zv zk zr hc hv hk hr
 conv=>lhs;cbv;try simp only[hc,hv,hk,hr,zclD,zvlD,zklD,zrlD]
theorem f46_ok:compF Go.Proofs.Tryz.prog 4 [0,2,3,4,12] 46=some f46:=by kernel_rfl
theorem f46_n:argsOK Go.Proofs.Tryz.prog 46 1=true:=by kernel_rfl
noncomputable def f50:AFunc:=by
 refine(fun(_:Cz zclD zvlD zklD zrlD Go.Proofs.Tryz.prog 4 [0,1,4,5,16,30] 50 ?a)=>?a) ?h
 case h=>
 intro zc zv zk zr hc hv hk hr
 conv=>lhs;cbv;try simp only[hc,hv,hk,hr,zclD,zvlD,zklD,zrlD]
theorem f50_ok:compF Go.Proofs.Tryz.prog 4 [0,1,4,5,16,30] 50=some f50:=by kernel_rfl
theorem f50_n:argsOK Go.Proofs.Tryz.prog 50 2=true:=by kernel_rfl
noncomputable def f51:AFunc:=by
 refine(fun(_:Cz zclD zvlD zklD zrlD Go.Proofs.Tryz.prog 4 [0,1,4,6,7,8,18,30,44,48,55,90] 51 ?a)=>?a) ?h
 case h=>
 intro zc zv zk zr hc hv hk hr
 conv=>lhs;cbv;try simp only[hc,hv,hk,hr,zclD,zvlD,zklD,zrlD]
theorem f51_ok:compF Go.Proofs.Tryz.prog 4 [0,1,4,6,7,8,18,30,44,48,55,90] 51=some f51:=by kernel_rfl
theorem f51_n:argsOK Go.Proofs.Tryz.prog 51 2=true:=by kernel_rfl
noncomputable def f52:AFunc:=by
 refine(fun(_:Cz zclD zvlD zklD zrlD Go.Proofs.Tryz.prog 4 [0,1,4,5,7,8,9,10,11,44,56,120,143] 52 ?a)=>?a) ?h
 case h=>
 intro zc zv zk zr hc hv hk hr
 conv=>lhs;cbv;try simp only[hc,hv,hk,hr,zclD,zvlD,zklD,zrlD]
theorem f52_ok:compF Go.Proofs.Tryz.prog 4 [0,1,4,5,7,8,9,10,11,44,56,120,143] 52=some f52:=by kernel_rfl
theorem f52_n:argsOK Go.Proofs.Tryz.prog 52 2=true:=by kernel_rfl
noncomputable def f55:AFunc:=by
 refine(fun(_:Cz zclD zvlD zklD zrlD Go.Proofs.Tryz.prog 4 [0,1,2,4,5,6,7,8,9,10,11,12,13,14,15,16,17,50,58,64,128,155] 55 ?a)=>?a) ?h
 case h=>
 intro zc zv zk zr hc hv hk hr
 conv=>lhs;cbv;try simp only[hc,hv,hk,hr,zclD,zvlD,zklD,zrlD]
theorem f55_ok:compF Go.Proofs.Tryz.prog 4 [0,1,2,4,5,6,7,8,9,10,11,12,13,14,15,16,17,50,58,64,128,155] 55=some f55:=by kernel_rfl
theorem f55_n:argsOK Go.Proofs.Tryz.prog 55 2=true:=by kernel_rfl
noncomputable def f56:AFunc:=by
 refine(fun(_:Cz zclD zvlD zklD zrlD Go.Proofs.Tryz.prog 4 [0,1,4,5,10,14,25] 56 ?a)=>?a) ?h
 case h=>
 intro zc zv zk zr hc hv hk hr
 conv=>lhs;cbv;try simp only[hc,hv,hk,hr,zclD,zvlD,zklD,zrlD]
theorem f56_ok:compF Go.Proofs.Tryz.prog 4 [0,1,4,5,10,14,25] 56=some f56:=by kernel_rfl
theorem f56_n:argsOK Go.Proofs.Tryz.prog 56 2=true:=by kernel_rfl
noncomputable def f57:AFunc:=by
 refine(fun(_:Cz zclD zvlD zklD zrlD Go.Proofs.Tryz.prog 4 [0,1,4,5,10,14,25] 57 ?a)=>?a) ?h
 case h=>
 intro zc zv zk zr hc hv hk hr
 conv=>lhs;cbv;try simp only[hc,hv,hk,hr,zclD,zvlD,zklD,zrlD]
theorem f57_ok:compF Go.Proofs.Tryz.prog 4 [0,1,4,5,10,14,25] 57=some f57:=by kernel_rfl
theorem f57_n:argsOK Go.Proofs.Tryz.prog 57 2=true:=by kernel_rfl
noncomputable def f68:AFunc:=by
 refine(fun(_:Cz zclD zvlD zklD zrlD Go.Proofs.Tryz.prog 4 [0,2,4,5,6,7,8,23] 68 ?a)=>?a) ?h
 case h=>
 intro zc zv zk zr hc hv hk hr
 conv=>lhs;cbv;try simp only[hc,hv,hk,hr,zclD,zvlD,zklD,zrlD]
theorem f68_ok:compF Go.Proofs.Tryz.prog 4 [0,2,4,5,6,7,8,23] 68=some f68:=by kernel_rfl
theorem f68_n:argsOK Go.Proofs.Tryz.prog 68 1=true:=by kernel_rfl
noncomputable def f69:AFunc:=by
 refine(fun(_:Cz zclD zvlD zklD zrlD Go.Proofs.Tryz.prog 4 [0,1,4,5,6,8,9,10,11,12,13,14,28] 69 ?a)=>?a) ?h
 case h=>
 intro zc zv zk zr hc hv hk hr
 conv=>lhs;cbv;try simp only[hc,hv,hk,hr,zclD,zvlD,zklD,zrlD]
theorem f69_ok:compF Go.Proofs.Tryz.prog 4 [0,1,4,5,6,8,9,10,11,12,13,14,28] 69=some f69:=by kernel_rfl
theorem f69_n:argsOK Go.Proofs.Tryz.prog 69 2=true:=by kernel_rfl
noncomputable def f70:AFunc:=by
 refine(fun(_:Cz zclD zvlD zklD zrlD Go.Proofs.Tryz.prog 4 [0,1,4,5,6,8,9,10,11,12,13,14,32] 70 ?a)=>?a) ?h
 case h=>
 intro zc zv zk zr hc hv hk hr
 conv=>lhs;cbv;try simp only[hc,hv,hk,hr,zclD,zvlD,zklD,zrlD]
theorem f70_ok:compF Go.Proofs.Tryz.prog 4 [0,1,4,5,6,8,9,10,11,12,13,14,32] 70=some f70:=by kernel_rfl
theorem f70_n:argsOK Go.Proofs.Tryz.prog 70 2=true:=by kernel_rfl
noncomputable def f72:AFunc:=by
 refine(fun(_:Cz zclD zvlD zklD zrlD Go.Proofs.Tryz.prog 4 [0,2,3,4,8,37] 72 ?a)=>?a) ?h
 case h=>
 intro zc zv zk zr hc hv hk hr
 conv=>lhs;cbv;try simp only[hc,hv,hk,hr,zclD,zvlD,zklD,zrlD]
theorem f72_ok:compF Go.Proofs.Tryz.prog 4 [0,2,3,4,8,37] 72=some f72:=by kernel_rfl
theorem f72_n:argsOK Go.Proofs.Tryz.prog 72 1=true:=by kernel_rfl
noncomputable def f73:AFunc:=by
 refine(fun(_:Cz zclD zvlD zklD zrlD Go.Proofs.Tryz.prog 4 [0,1,2,4,5,6,7,8,12,23] 73 ?a)=>?a) ?h
 case h=>
 intro zc zv zk zr hc hv hk hr
 conv=>lhs;cbv;try simp only[hc,hv,hk,hr,zclD,zvlD,zklD,zrlD]
theorem f73_ok:compF Go.Proofs.Tryz.prog 4 [0,1,2,4,5,6,7,8,12,23] 73=some f73:=by kernel_rfl
theorem f73_n:argsOK Go.Proofs.Tryz.prog 73 2=true:=by kernel_rfl
noncomputable def f74:AFunc:=by
 refine(fun(_:Cz zclD zvlD zklD zrlD Go.Proofs.Tryz.prog 4 [0,1,2,4,5,6,7,8,9,10,11,16,31,49] 74 ?a)=>?a) ?h
 case h=>
 intro zc zv zk zr hc hv hk hr
 conv=>lhs;cbv;try simp only[hc,hv,hk,hr,zclD,zvlD,zklD,zrlD]
theorem f74_ok:compF Go.Proofs.Tryz.prog 4 [0,1,2,4,5,6,7,8,9,10,11,16,31,49] 74=some f74:=by kernel_rfl
theorem f74_n:argsOK Go.Proofs.Tryz.prog 74 2=true:=by kernel_rfl
noncomputable def f75:AFunc:=by
 refine(fun(_:Cz zclD zvlD zklD zrlD Go.Proofs.Tryz.prog 4 [0,2,3,7,14] 75 ?a)=>?a) ?h
 case h=>
 intro zc zv zk zr hc hv hk hr
 conv=>lhs;cbv;try simp only[hc,hv,hk,hr,zclD,zvlD,zklD,zrlD]
theorem f75_ok:compF Go.Proofs.Tryz.prog 4 [0,2,3,7,14] 75=some f75:=by kernel_rfl
theorem f75_n:argsOK Go.Proofs.Tryz.prog 75 1=true:=by kernel_rfl
noncomputable def f87:AFunc:=by
 refine(fun(_:Cz zclD zvlD zklD zrlD Go.Proofs.Tryz.prog 4 [0,1,4] 87 ?a)=>?a) ?h
 case h=>
 intro zc zv zk zr hc hv hk hr
 conv=>lhs;cbv;try simp only[hc,hv,hk,hr,zclD,zvlD,zklD,zrlD]
theorem f87_ok:compF Go.Proofs.Tryz.prog 4 [0,1,4] 87=some f87:=by kernel_rfl
theorem f87_n:argsOK Go.Proofs.Tryz.prog 87 2=true:=by kernel_rfl
noncomputable def f96:AFunc:=by
 refine(fun(_:Cz zclD zvlD zklD zrlD Go.Proofs.Tryz.prog 4 [0,1,4] 96 ?a)=>?a) ?h
 case h=>
 intro zc zv zk zr hc hv hk hr
 conv=>lhs;cbv;try simp only[hc,hv,hk,hr,zclD,zvlD,zklD,zrlD]
theorem f96_ok:compF Go.Proofs.Tryz.prog 4 [0,1,4] 96=some f96:=by kernel_rfl
theorem f96_n:argsOK Go.Proofs.Tryz.prog 96 2=true:=by kernel_rfl
noncomputable def f5:AFunc:=by
 refine(fun(_:Cz zclD zvlD zklD zrlD Go.Proofs.Tryz.prog 4 [0,2,3,4,5,6,7,8,16] 5 ?a)=>?a) ?h
 case h=>
 intro zc zv zk zr hc hv hk hr
 conv=>lhs;cbv;try simp only[hc,hv,hk,hr,zclD,zvlD,zklD,zrlD]
theorem f5_ok:compF Go.Proofs.Tryz.prog 4 [0,2,3,4,5,6,7,8,16] 5=some f5:=by kernel_rfl
theorem f5_n:argsOK Go.Proofs.Tryz.prog 5 1=true:=by kernel_rfl
noncomputable def f7:AFunc:=by
 refine(fun(_:Cz zclD zvlD zklD zrlD Go.Proofs.Tryz.prog 4 [0,2,3,4,5,6,7,8,9,10,13,18,24,30] 7 ?a)=>?a) ?h
 case h=>
 intro zc zv zk zr hc hv hk hr
 conv=>lhs;cbv;try simp only[hc,hv,hk,hr,zclD,zvlD,zklD,zrlD]
theorem f7_ok:compF Go.Proofs.Tryz.prog 4 [0,2,3,4,5,6,7,8,9,10,13,18,24,30] 7=some f7:=by kernel_rfl
theorem f7_n:argsOK Go.Proofs.Tryz.prog 7 1=true:=by kernel_rfl
noncomputable def f41:AFunc:=by
 refine(fun(_:Cz zclD zvlD zklD zrlD Go.Proofs.Tryz.prog 4 [0,1,2,3,4,5,6,29] 41 ?a)=>?a) ?h
 case h=>
 intro zc zv zk zr hc hv hk hr
 conv=>lhs;cbv;try simp only[hc,hv,hk,hr,zclD,zvlD,zklD,zrlD]
theorem f41_ok:compF Go.Proofs.Tryz.prog 4 [0,1,2,3,4,5,6,29] 41=some f41:=by kernel_rfl
theorem f41_n:argsOK Go.Proofs.Tryz.prog 41 1=true:=by kernel_rfl
end Go.AM.F

namespace Go.AM.Fd
open Nat (reduceAdd reduceEqDiff reduceLT reduceLeDiff reduceMul reduceSub)
open Go.Proofs Go.AM.F
def inB(n x:Int):Bool:=decide (0≤x)&&decide (x<n)
theorem all_take{α:Type}{p:α→Bool}{l:List α}{i:Nat}{d:α}(h:i<l.length)(hp:(l.take i).all p=true)(hx:p (l.getD i d)=true):(l.take (i+1)).all p=true:=by
 rw[List.take_add_one,List.all_append,hp,List.getElem?_eq_getElem h]
 simpa[List.getD,List.getElem?_eq_getElem h]using hx
theorem all_not{α:Type}{p:α→Bool}{l:List α}{i:Nat}{d:α}(h:i<l.length)(hx:p (l.getD i d)=false):l.all p=false:=by
 rw[List.all_eq_false]
 exact⟨l[i],List.getElem_mem _,by simpa[List.getD,List.getElem?_eq_getElem h]using hx⟩
theorem t39{H:AHeap}{v:Value}{l:List Int}(n:Int)(h:IL H v l)(hl:l.length≤9223372036854775807):∃w H',ARun Tryz.prog 4 39 [.int .i64 n,v] H w H'∧w=.bool (l.all (inB n))∧H'=H:=by
 refine walk2 f39_ok f39_n ?_
 intro Q hq1 hq2
 have ia:=Sl.is h
 have la:=h.len
 simp(disch:=first|assumption|omega)only[f39,P3,seval,initFr,clsA,la]
 rw[W_block]
 refine W_loop2 (fun k fr K=>∃i x3 x7 x8,fr=[.int .i64 n,v,.bool false,x3,v,.int .i64 ((l.length:Nat):Int),.int .i64 ((i:Nat):Int),x7,x8]∧K=H∧i≤l.length∧(l.take i).all (inB n)=true∧k=l.length-i) l.length
  ⟨0,_,_,_,rfl,rfl,by omega,by simp,rfl⟩ ?_
 rintro Q' k fr K ⟨i,x3,x7,x8,rfl,rfl,hi,hp,rfl⟩ hn hx hret
 by_cases hlt:i<l.length
 ·obtain⟨na,ra⟩:=h.at_ hlt
  have h0:(0:Int)≤(i:Int):=by omega
  have h1:(i:Int)<((lenS v:Nat):Int):=by omega
  have h3:(i:Int)<((l.length:Nat):Int):=by omega
  have hw:IntKind.i64.wrap ((i:Int)+1)=((i+1:Nat):Int):=by rw[wrap_i64 (by omega) (by omega)];simp
  have stop:inB n (l.getD i 0)=false→l.all (inB n)=false:=fun e=>all_not hlt e
  have go:inB n (l.getD i 0)=true→(l.take (i+1)).all (inB n)=true:=fun e=>all_take hlt hp e
  generalize l.getD i 0=x at*
  by_cases hx0:x<0
  ·simp(disch:=first|assumption|omega)only[W_block,P3,seval,initFr,clsA,la,ra,na,a_load1v]
   refine hret _ _ (hq2 _ _ ⟨_,rfl,?_,rfl⟩)
   rw[stop (by simp[inB];omega)];rfl
  ·by_cases hxn:n≤x
   ·simp(disch:=first|assumption|omega)only[W_block,P3,seval,initFr,clsA,la,ra,na,a_load1v]
    refine hret _ _ (hq2 _ _ ⟨_,rfl,?_,rfl⟩)
    rw[stop (by simp[inB];omega)];rfl
   ·simp(disch:=first|assumption|omega)only[W_block,P3,seval,initFr,clsA,la,ra,na,a_load1v,hw]
    exact hn _ _ _ ⟨i+1,_,_,_,rfl,rfl,by omega,go (by simp[inB];omega),rfl⟩ (by omega)
 ·have h3:¬(i:Int)<((l.length:Nat):Int):=by omega
  simp(disch:=first|assumption|omega)only[W_block,P3,seval,initFr,clsA,la]
  refine hx 0 _ _ ?_
  simp(disch:=first|assumption|omega)only[W_block,P3,seval,initFr,clsA]
  refine hq2 _ _ ⟨_,rfl,?_,rfl⟩
  rw[List.take_of_length_le (by omega)]at hp
  rw[hp];rfl
end Go.AM.Fd

namespace Go.AM.Fd
open Nat (reduceAdd reduceEqDiff reduceLT reduceLeDiff reduceMul reduceSub)
open Go.Proofs Go.AM.F
theorem t40{H:AHeap}{v:Value}{l:List (Int×Bool)}(n:Int)(h:NL H v l)(hl:l.length≤9223372036854775807):∃w H',ARun Tryz.prog 4 40 [v,.int .i64 n] H w H'∧w=.bool (decide (l.length≤16)&&l.all (fun x=>inB n x.1))∧H'=H:=by
 refine gcb ?_
 refine walk2 f40_ok f40_n ?_
 intro Q hq1 hq2
 have ia:=Sl.is h
 have la:=h.len
 simp(disch:=first|assumption|omega)only[f40,P3,seval,initFr,clsA,la]
 rw[W_block]
 refine W_loop2 (fun k fr K=>∃i x3 x4 x8 x9,fr=[v,.int .i64 n,.bool false,x3,x4,v,.int .i64 ((l.length:Nat):Int),.int .i64 ((i:Nat):Int),x8,x9]∧Keeps H K∧i≤l.length∧i≤16∧(l.take i).all (fun x=>inB n x.1)=true∧k=l.length-i) l.length
  ⟨0,_,_,_,_,rfl,Keeps.refl H,by omega,by omega,by simp,rfl⟩ ?_
 rintro Q' k fr K ⟨i,x3,x4,x8,x9,rfl,hk,hi,hi6,hp,rfl⟩ hn hx hret
 by_cases hlt:i<l.length
 ·obtain⟨na,ra⟩:=(h.keeps hk).at_ hlt
  have hbl:=Sl.bn_le (h.keeps hk) (by intro e;simp at e;subst e;simp at hlt) (by omega)
  have h0:(0:Int)≤(i:Int):=by omega
  have h1:(i:Int)<((lenS v:Nat):Int):=by omega
  have h3:(i:Int)<((l.length:Nat):Int):=by omega
  have hw:IntKind.i64.wrap ((i:Int)+1)=((i+1:Nat):Int):=by rw[wrap_i64 (by omega) (by omega)];simp
  have stop:inB n (l.getD i (0,false)).1 =false→l.all (fun x=>inB n x.1)=false:=fun e=>all_not (d:=(0,false)) hlt e
  have go:inB n (l.getD i (0,false)).1 =true→(l.take (i+1)).all (fun x=>inB n x.1)=true:=fun e=>all_take (d:=(0,false)) hlt hp e
  generalize l.getD i (0,false)=x at*
  have o1:one1 (Value.int .i64 x.1)=True:=by simp[one1,one_int]
  by_cases h6:(16:Int)≤(i:Int)
  ·simp(disch:=first|assumption|omega|(simp only[LN]<;>omega)|(simp(disch:=first|assumption|omega|(simp only[LN]<;>omega))only[row_alloc,row_set];assumption))only[W_block,P3,seval,initFr,clsA,la,ra,na,a_loadnvf,h6]
   refine hret _ _ (hq2 _ _ ⟨_,rfl,?_,?_⟩)
   ·have:¬l.length≤16:=by omega
    simp[tupV,this]
   ·exact(hk.alloc _)
  ·simp(disch:=first|assumption|omega|(simp only[LN]<;>omega)|(simp(disch:=first|assumption|omega|(simp only[LN]<;>omega))only[row_alloc,row_set];assumption))only[W_block,P3,seval,initFr,clsA,la,ra,na,a_loadnvf,h6]
   have hk2:=(hk.alloc (.cells true false 2 [.int .i64 x.1,.bool x.2] 49)).alloc (.cells true false 1 [.int .i64 x.1] 3)
   have hil:IL ((K.alloc (.cells true false 2 [.int .i64 x.1,.bool x.2] 49)).alloc (.cells true false 1 [.int .i64 x.1] 3)) (slc (K.n+1) 0 1 1) [x.1]:=
    ⟨⟨_,_,rfl⟩,by simp[iRow],by rw[elems_new (by simp[alloc_n]) rfl];rfl⟩
   refine callK (t39 n hil (by simp)) ?_
   rintro _ _ ⟨rfl,rfl⟩
   cases hb:inB n x.1 with
   |false=>
    have e:[x.1].all (inB n)=false:=by simp[hb]
    simp(disch:=first|assumption|omega)only[W_block,P3,seval,initFr,clsA,e]
    refine hret _ _ (hq2 _ _ ⟨_,rfl,?_,hk2⟩)
    rw[stop hb];simp[tupV]
   |true=>
    have e:[x.1].all (inB n)=true:=by simp[hb]
    simp(disch:=first|assumption|omega)only[W_block,P3,seval,initFr,clsA,e,hw]
    exact hn _ _ _ ⟨i+1,_,_,_,_,rfl,hk2,by omega,by omega,go hb,rfl⟩ (by omega)
 ·have h3:¬(i:Int)<((l.length:Nat):Int):=by omega
  simp(disch:=first|assumption|omega)only[W_block,P3,seval,initFr,clsA,la]
  refine hx 0 _ _ ?_
  simp(disch:=first|assumption|omega)only[W_block,P3,seval,initFr,clsA]
  refine hq2 _ _ ⟨_,rfl,?_,hk⟩
  rw[List.take_of_length_le (by omega)]at hp
  have:l.length≤16:=by omega
  simp[tupV,hp,this]
def sEnc(l:List UInt8):Value:=.string ⟨l.toArray⟩
theorem sEnc_e:Enc .string sEnc:=encStr
theorem mfind_none{k:List UInt8}:∀{M:List (List UInt8×Value)},mfind k M=none↔k∉M.map (·.1)
 |[]=>by simp[mfind]
 |(a,v)::M=>by
  simp only[mfind,List.map_cons,List.mem_cons,not_or]
  split
  ·rename_i e;simp[e]
  ·rename_i e;rw[mfind_none (M:=M)];simp[e]
theorem t38{H:AHeap}{b mb T:Nat}{own room:Bool}{c:List Value}{M:List (List UInt8×Value)}(hb:H.get b=some (.cells own room 5 c T))(hc:c[4]? =some (.map (some mb)))(hm:MP sEnc H mb M)(n:List UInt8){x:Value}(hx:gndB x=true):
 ∃w H',ARun Tryz.prog 4 38 [ptr b 0,.string ⟨n.toArray⟩,x] H w H'∧w=.bool (mfind n M).isNone∧Chg [mb] H H'∧MP sEnc H' mb (if(mfind n M).isNone then M++[(n,x)]else M):=by
 refine walk2 f38_ok f38_n ?_
 intro Q hq1 hq2
 have g:=a_mget sEnc_e hm n .nilIface true
 obtain⟨o,s1,s2⟩:=a_mset sEnc_e hm n hx
 simp only[sEnc]at g s1
 cases hf:mfind n M with
 |some y=>
  rw[hf]at g
  simp only[mres,if_true]at g
  simp(disch:=first|assumption|omega)only[f38,W_block,P3,seval,initFr,clsA,hb,hc,st_mget,g]
  refine hq2 _ _ ⟨_,rfl,by simp[tupV,hf],Chg.refl _ _,by simpa[hf]using hm⟩
 |none=>
  rw[hf]at g
  simp only[mres,if_true]at g
  simp(disch:=first|assumption|omega)only[f38,W_block,P3,seval,initFr,clsA,hb,hc,st_mget,st_mset,g,s1]
  refine hq2 _ _ ⟨_,rfl,by simp[tupV,hf],Chg.set H hm.lt o,?_⟩
  rw[mput_new hf]at s2
  simpa[hf]using s2
end Go.AM.Fd

namespace Go.AM.Fd
open Nat (reduceAdd reduceEqDiff reduceLT reduceLeDiff reduceMul reduceSub)
open Go.Proofs Go.AM.F
def okN(l:List (List UInt8)):Bool:=l.all rightB&&decide l.Nodup
theorem okN_snoc(ns:List (List UInt8))(n:List UInt8):okN (ns++[n])=(okN ns&&(rightB n&& !ns.contains n)):=by
 simp only[okN,List.all_append,List.all_cons,List.all_nil,Bool.and_true]
 have:decide (ns++[n]).Nodup=(decide ns.Nodup&& !ns.contains n):=by
  by_cases h1:ns.Nodup
  ·by_cases h2:n∈ns
   ·have:¬(ns++[n]).Nodup:=by
     intro h;rw[List.nodup_append]at h
     exact h.2.2 n h2 n (by simp) rfl
    simp[this,h2]
   ·have:(ns++[n]).Nodup:=by
     rw[List.nodup_append]
     exact⟨h1,by simp,fun a ha b hb=>by simp at hb;subst hb;intro e;subst e;exact h2 ha⟩
    simp[this,h1,h2]
  ·have:¬(ns++[n]).Nodup:=fun h=>h1 (List.nodup_append.1 h).1
   simp[this,h1]
 rw[this]
 cases ns.all rightB<;>cases rightB n<;>simp
def needB(n:Nat)(l:List (Int×Bool)):Bool:=decide (l.length≤16)&&l.all (fun x=>inB n x.1)
def roB(L:Ly)(r:Ro):Bool:=inB L.g.length r.g&&(decide (r.path.length≤16)&&decide (r.ov.length≤16)&&r.path.all (inB L.s.length)&&r.ov.all (inB L.s.length))&&(needB L.p.length r.pts&&needB L.p.length r.fl)
def fullB(L:Ly):Bool:=decide (64<L.s.length)||decide (32<L.p.length)||decide (32<L.g.length)||decide (64<L.r.length)
def nm2(L:Ly)(i:Nat):List (List UInt8):=L.s++(L.p.take i).map (·.1)
def nm3(L:Ly)(i:Nat):List (List UInt8):=L.s++L.p.map (·.1)++(L.g.take i).map (·.1)
def nm4(L:Ly)(i:Nat):List (List UInt8):=L.s++L.p.map (·.1)++L.g.map (·.1)++(L.r.take i).map (·.n)
def namesL(L:Ly):List (List UInt8):=L.s++L.p.map (·.1)++L.g.map (·.1)++L.r.map (·.n)
def al2(L:Ly)(i:Nat):Bool:=(L.p.take i).all fun x=>inB L.s.length x.2
def al3(L:Ly)(i:Nat):Bool:=L.p.all (fun x=>inB L.s.length x.2)&&(L.g.take i).all fun x=>inB L.s.length x.2
def al4(L:Ly)(i:Nat):Bool:=L.p.all (fun x=>inB L.s.length x.2)&&L.g.all (fun x=>inB L.s.length x.2)&&(L.r.take i).all (roB L)
def mayB(L:Ly):Bool:= !fullB L&&(okN (namesL L)&&(L.p.all (fun x=>inB L.s.length x.2)&&L.g.all (fun x=>inB L.s.length x.2)&&L.r.all (roB L)))
theorem take_snoc{α:Type}{l:List α}{i:Nat}(d:α)(h:i<l.length):l.take (i+1)=l.take i++[l.getD i d]:=by
 rw[List.take_add_one,List.getElem?_eq_getElem h];simp[List.getD,List.getElem?_eq_getElem h]
structure LyFit (L:Ly):Prop where
 s:L.s.length≤1000000000∧∀x∈L.s,x.length≤9223372036854775807
 p:L.p.length≤1000000000∧∀x∈L.p,x.1.length≤9223372036854775807
 g:L.g.length≤1000000000∧∀x∈L.g,x.1.length≤9223372036854775807
 r:L.r.length≤1000000000∧∀x∈L.r,x.n.length≤9223372036854775807∧x.path.length≤9223372036854775807∧x.pts.length≤9223372036854775807∧x.ov.length≤9223372036854775807∧x.fl.length≤9223372036854775807
theorem getD_mem{α:Type}{l:List α}{i:Nat}{d:α}(h:i<l.length):l.getD i d∈l:=by
 simp[List.getD,List.getElem?_eq_getElem h]
structure MSt (H K:AHeap) (u:V4) (ok:Bool) (ns:List (List UInt8)):Prop where
 k:Keeps H K
 l:K.get H.n=some (.cells true false 4 u.l 30)
 b:K.get (H.n+2)=some (.cells true false 5 [.slice none 0 0,.slice none 0 0,.slice none 0 0,.slice none 0 0,.map (some (H.n+1))] 55)
 m:ok=true→∃M,MP sEnc K (H.n+1) M∧M.map (·.1)=ns
theorem MSt.keeps{H K K':AHeap}{u:V4}{ok:Bool}{ns:List (List UInt8)}(h:MSt H K u ok ns)(k:Keeps K K'):MSt H K' u ok ns:=
 ⟨h.k.trans k,k.at_ h.l,k.at_ h.b,fun e=>by obtain⟨M,h1,h2⟩:=h.m e;exact⟨M,h1.get (k.get _ h1.lt),h2⟩⟩
theorem MSt.no{H K:AHeap}{u:V4}{ok:Bool}{ns ns':List (List UInt8)}(h:MSt H K u ok ns):MSt H K u false ns':=⟨h.k,h.l,h.b,fun e=>by cases e⟩
theorem MSt.fresh{H K:AHeap}{u:V4}{ns:List (List UInt8)}(h:MSt H K u true ns)(n:List UInt8){x:Value}(hx:gndB x=true):
 ∃w K',ARun Tryz.prog 4 38 [ptr (H.n+2) 0,.string ⟨n.toArray⟩,x] K w K'∧w=.bool (!ns.contains n)∧MSt H K' u (!ns.contains n) (ns++[n])∧K.n≤K'.n∧(∀b,H.n+2<b→b<K.n→K'.get b=K.get b):=by
 obtain⟨M,h1,h2⟩:=h.m rfl
 obtain⟨w,K',r,rfl,c,m⟩:=t38 (hc:=rfl) h.b h1 n hx
 have e:(mfind n M).isNone= !ns.contains n:=by
  cases hf:mfind n M with
  |none=>have:=mfind_none.1 hf;rw[h2]at this;simp[this]
  |some y=>
   have:n∈M.map (·.1):=by
    rcases Classical.em (n∈M.map (·.1))with h|h
    ·exact h
    ·rw[mfind_none.2 h]at hf;cases hf
   rw[h2]at this;simp[this]
 rw[e]at r m
 refine⟨_,_,r,rfl,⟨h.k.chg_trans c (by simp),c.at_ h.l (by simp),c.at_ h.b (by simp),fun hn=>?_⟩,c.n,fun b hb hlt=>c.get b hlt (by simp;omega)⟩
 rw[hn]at m
 exact⟨_,m,by simp[h2]⟩
def mF(A:Value)(h:Nat)(L:Ly)(ok:Bool):List Value:=[A,ptr h 0,.bool false,.int .i64 ((L.s.length:Nat):Int),.int .i64 ((L.p.length:Nat):Int),.int .i64 ((L.g.length:Nat):Int),.int .i64 ((L.r.length:Nat):Int),ptr (h+2) 0,.bool ok]
def M1(A:Value)(H:AHeap)(u:V4)(L:Ly)(fr:List Value)(K:AHeap):Prop:=
 ∃ok x9 x10 x11 x12 x13 x14 x15 x16 x17 x18 x19 x20 x21 x22 x23 x24 x25 x26 x27 x28 x29 x30 x31 x32 x33,fr=mF A H.n L ok++[x9,x10,x11,x12,x13,x14,x15,x16,x17,x18,x19,x20,x21,x22,x23,x24,x25,x26,x27,x28,x29,x30,x31,x32,x33]∧ok=okN L.s∧MSt H K u ok L.s
set_option maxHeartbeats 1000000 in
theorem may1{H:AHeap}{u:V4}{xs:List RV}{L:Ly}{Q:AQ}(h:LyR H u xs L)(hf:LyFit L)(hfu:fullB L=false)
 (hk:∀fr K,M1 (.agg u.l.toArray) H u L fr K→Q .normal fr K):W Tryz.prog 4 (cpre 6 f18.body) Q (initFr f18.sl [.agg u.l.toArray]) H:=by
 have ls:=h.s.len
 have lp:=h.p.len
 have lg:=h.g.len
 have lr:=h.r.len
 have er:=h.rlen
 have is:=Sl.is h.s
 have ip:=Sl.is h.p
 have ig:=Sl.is h.g
 have ir:=Sl.is h.r
 have os:=Sl.one h.s
 have op:=Sl.one h.p
 have og:=Sl.one h.g
 have or:=Sl.one h.r
 simp only[fullB,Bool.or_eq_false_iff,decide_eq_false_iff_not]at hfu
 obtain⟨⟨⟨f1,f2⟩,f3⟩,f4⟩:=hfu
 have h0:=h
 obtain⟨us,up,ug,ur⟩:=u
 simp only[V4.l]at*
 have c1:¬(64:Int)<((L.s.length:Nat):Int):=by omega
 have c2:¬(32:Int)<((L.p.length:Nat):Int):=by omega
 have c3:¬(32:Int)<((L.g.length:Nat):Int):=by omega
 have c4:¬(64:Int)<((L.r.length:Nat):Int):=by omega
 simp(disch:=first|assumption|omega|(simp only[LN]<;>omega)|(simp(disch:=first|assumption|omega|(simp only[LN]<;>omega))only[row_alloc,row_set];assumption))only[f18,cpre,P3,seval,initFr,clsA,ls,lp,lg,lr,er,os,op,og,or,st_mkmap,a_mkmap,fill_cons,cells_map,one_map,o_map]
 have k0:=(((Keeps.refl H).alloc (.cells true false 4 [us,up,ug,ur] 30)).alloc (.obj true (.map #[] 0))).alloc (.cells true false 5 [.slice none 0 0,.slice none 0 0,.slice none 0 0,.slice none 0 0,.map (some (H.n+1))] 55)
 have st0:MSt H (((H.alloc (.cells true false 4 [us,up,ug,ur] 30)).alloc (.obj true (.map #[] 0))).alloc (.cells true false 5 [.slice none 0 0,.slice none 0 0,.slice none 0 0,.slice none 0 0,.map (some (H.n+1))] 55)) ⟨us,up,ug,ur⟩ true []:=by
  refine⟨k0,?_,AHeap.get_alloc_new _ _,fun _=>⟨[],MP.get (MP.new (H.alloc (.cells true false 4 [us,up,ug,ur] 30))) (g_old _ (by simp[alloc_n])),rfl⟩⟩
  rw[g_old _ (by simp[alloc_n];omega),g_old _ (by simp[alloc_n])];exact AHeap.get_alloc_new _ _
 generalize((H.alloc (.cells true false 4 [us,up,ug,ur] 30)).alloc (.obj true (.map #[] 0))).alloc (.cells true false 5 [.slice none 0 0,.slice none 0 0,.slice none 0 0,.slice none 0 0,.map (some (H.n+1))] 55)=K0 at st0 k0 ⊢
 rw[W_block]
 refine W_loop2 (fun k fr K=>∃ok i x9 x10 x21,fr=[.agg #[us,up,ug,ur],ptr H.n 0,.bool false,.int .i64 ((L.s.length:Nat):Int),.int .i64 ((L.p.length:Nat):Int),.int .i64 ((L.g.length:Nat):Int),.int .i64 ((L.r.length:Nat):Int),ptr (H.n+2) 0,.bool ok,x9,x10,undef,undef,undef,undef,undef,undef,.bool false,us,.int .i64 ((L.s.length:Nat):Int),.int .i64 ((i:Nat):Int),x21,undef,undef,undef,undef,undef,undef,undef,undef,undef,undef,undef,undef]∧
  ok=okN (L.s.take i)∧MSt H K ⟨us,up,ug,ur⟩ ok (L.s.take i)∧i≤L.s.length∧k=L.s.length-i) L.s.length
  ⟨true,0,_,_,_,rfl,by simp[okN],st0,by omega,rfl⟩ ?_
 rintro Q' k fr K ⟨ok,i,x9,x10,x21,rfl,hok,hst,hi,rfl⟩ hn hx hret
 by_cases hlt:i<L.s.length
 ·obtain⟨na,ra⟩:=(h0.s.keeps hst.k).at_ hlt
  have h1:(0:Int)≤(i:Int):=by omega
  have h2:(i:Int)<((lenS us:Nat):Int):=by omega
  have h3:(i:Int)<((L.s.length:Nat):Int):=by omega
  have hw:IntKind.i64.wrap ((i:Int)+1)=((i+1:Nat):Int):=by rw[wrap_i64 (by omega) (by omega)];simp
  have hlen:=hf.s.2 _ (getD_mem (d:=[]) hlt)
  have ts:=take_snoc [] hlt
  unfold tRow at ra
  have hs:=okN_snoc (L.s.take i) (L.s.getD i [])
  rw[←ts]at hs
  cases ok with
  |false=>
   simp(disch:=first|assumption|omega)only[W_block,P3,seval,initFr,clsA,ls,ra,na,a_load1v,hw]
   refine hn _ _ _ ⟨false,i+1,_,_,_,rfl,?_,hst.no,by omega,rfl⟩ (by omega)
   rw[hs,←hok];rfl
  |true=>
   simp(disch:=first|assumption|omega)only[W_block,P3,seval,initFr,clsA,ls,ra,na,a_load1v,hw]
   refine callK (t37 _ _ hlen) ?_
   rintro _ _ ⟨rfl,rfl⟩
   cases hr:rightB (L.s.getD i [])with
   |false=>
    simp(disch:=first|assumption|omega)only[W_block,P3,seval,initFr,clsA,hw]
    refine hn _ _ _ ⟨false,i+1,_,_,_,rfl,?_,hst.no,by omega,rfl⟩ (by omega)
    rw[hs,hr];simp
   |true=>
    simp(disch:=first|assumption|omega)only[W_block,P3,seval,initFr,clsA,hw]
    refine callK (R:=fun w K'=>w=.bool (!(L.s.take i).contains (L.s.getD i []))∧MSt H K' ⟨us,up,ug,ur⟩ (!(L.s.take i).contains (L.s.getD i [])) (L.s.take i++[L.s.getD i []])) (by obtain⟨w,K',a,b,c,_⟩:=hst.fresh (L.s.getD i []) (x:=.iface 80 (.int .i64 (i:Int))) rfl;exact⟨w,K',a,b,c⟩) ?_
    rintro _ K' ⟨rfl,st'⟩
    rw[←ts]at st'
    cases hc:(L.s.take i).contains (L.s.getD i [])with
    |false=>
     rw[hc]at st'
     simp(disch:=first|assumption|omega)only[W_block,P3,seval,initFr,clsA,hw]
     refine hn _ _ _ ⟨true,i+1,_,_,_,rfl,?_,st',by omega,rfl⟩ (by omega)
     rw[hs,←hok,hr,hc];rfl
    |true=>
     rw[hc]at st'
     simp(disch:=first|assumption|omega)only[W_block,P3,seval,initFr,clsA,hw]
     refine hn _ _ _ ⟨false,i+1,_,_,_,rfl,?_,st',by omega,rfl⟩ (by omega)
     rw[hs,←hok,hr,hc];rfl
 ·have h3:¬(i:Int)<((L.s.length:Nat):Int):=by omega
  simp(disch:=first|assumption|omega)only[W_block,P3,seval,initFr,clsA,ls]
  refine hx 0 _ _ ?_
  have e:L.s.take i=L.s:=List.take_of_length_le (by omega)
  rw[e]at hok hst
  exact hk _ _ ⟨ok,_,_,_,_,_,_,_,_,_,_,_,_,_,_,_,_,_,_,_,_,_,_,_,_,_,rfl,hok,hst⟩
end Go.AM.Fd

namespace Go.AM.Fd
open Nat (reduceAdd reduceEqDiff reduceLT reduceLeDiff reduceMul reduceSub)
open Go.Proofs Go.AM.F
theorem b4(a b c d:Bool):((a&&b)&&(c&&d))=((a&&c)&&(b&&d)):=by cases a<;>cases b<;>cases c<;>cases d<;>rfl
def M2(A:Value)(H:AHeap)(u:V4)(L:Ly)(fr:List Value)(K:AHeap):Prop:=
 ∃ok x9 x10 x11 x12 x13 x14 x15 x16 x17 x18 x19 x20 x21 x22 x23 x24 x25 x26 x27 x28 x29 x30 x31 x32 x33,fr=mF A H.n L ok++[x9,x10,x11,x12,x13,x14,x15,x16,x17,x18,x19,x20,x21,x22,x23,x24,x25,x26,x27,x28,x29,x30,x31,x32,x33]∧ok=(okN (L.s++L.p.map (·.1))&&L.p.all fun x=>inB L.s.length x.2)∧MSt H K u ok (L.s++L.p.map (·.1))
def M3(A:Value)(H:AHeap)(u:V4)(L:Ly)(fr:List Value)(K:AHeap):Prop:=
 ∃ok x9 x10 x11 x12 x13 x14 x15 x16 x17 x18 x19 x20 x21 x22 x23 x24 x25 x26 x27 x28 x29 x30 x31 x32 x33,fr=mF A H.n L ok++[x9,x10,x11,x12,x13,x14,x15,x16,x17,x18,x19,x20,x21,x22,x23,x24,x25,x26,x27,x28,x29,x30,x31,x32,x33]∧ok=(okN (L.s++L.p.map (·.1)++L.g.map (·.1))&&(L.p.all (fun x=>inB L.s.length x.2)&&L.g.all fun x=>inB L.s.length x.2))∧MSt H K u ok (L.s++L.p.map (·.1)++L.g.map (·.1))
set_option maxHeartbeats 2000000 in
theorem may2{H:AHeap}{u:V4}{xs:List RV}{L:Ly}{Q:AQ}{A:Value}{fr:List Value}{K:AHeap}(h:LyR H u xs L)(hf:LyFit L)(hm:M1 A H u L fr K)
 (hk:∀fr K,M2 A H u L fr K→Q .normal fr K):W Tryz.prog 4 (cpre 1 (cpost 6 f18.body)) Q fr K:=by
 obtain⟨ok,x9,x10,x11,x12,x13,x14,x15,x16,x17,x18,x19,x20,x21,x22,x23,x24,x25,x26,x27,x28,x29,x30,x31,x32,x33,rfl,hok,hst⟩:=hm
 have lp:=h.p.len
 have ip:=Sl.is h.p
 have gl:=hst.l
 simp only[V4.l]at gl
 simp(disch:=first|assumption|omega)only[f18,cpre,cpost,mF,List.cons_append,List.nil_append,P3,seval,initFr,clsA,gl,lp]
 rw[W_block]
 refine W_loop2 (fun k fr K=>∃ok i x11 x12 xc,fr=mF A H.n L ok++[x9,x10,x11,x12,x13,x14,x15,x16,x17,x18,x19,x20,x21,u.p,.int .i64 ((L.p.length:Nat):Int),.int .i64 ((i:Nat):Int),xc,x26,x27,x28,x29,x30,x31,x32,x33]∧
  ok=(okN (nm2 L i)&&al2 L i)∧MSt H K u ok (nm2 L i)∧i≤L.p.length∧k=L.p.length-i) L.p.length
  ⟨ok,0,_,_,_,rfl,by simp[nm2,al2,hok],by simpa[nm2]using hst,by omega,rfl⟩ ?_
 clear hst hok gl
 rintro Q' k fr K ⟨ok,i,x11,x12,xc,rfl,hok,hst,hi,rfl⟩ hn hx hret
 by_cases hlt:i<L.p.length
 ·obtain⟨na,ra⟩:=(h.p.keeps hst.k).at_ hlt
  have hbl:=Sl.bn_le (h.p.keeps hst.k) (by intro e;simp at e;rw[e]at hlt;simp at hlt) (by omega)
  have h1:(0:Int)≤(i:Int):=by omega
  have h2:(i:Int)<((lenS u.p:Nat):Int):=by omega
  have h3:(i:Int)<((L.p.length:Nat):Int):=by omega
  have hw:IntKind.i64.wrap ((i:Int)+1)=((i+1:Nat):Int):=by rw[wrap_i64 (by omega) (by have:=hf.p.1;omega)];simp
  have hlen:=hf.p.2 _ (getD_mem (d:=([],0)) hlt)
  have ts:=take_snoc ([],(0:Int)) hlt
  have hs:okN (nm2 L (i+1))=(okN (nm2 L i)&&(rightB (L.p.getD i ([],0)).1 && !(nm2 L i).contains (L.p.getD i ([],0)).1)):=by
   rw[←okN_snoc];simp only[nm2,ts,List.map_append,List.map_cons,List.map_nil,List.append_assoc]
  have hn1:nm2 L i++[(L.p.getD i ([],0)).1]=nm2 L (i+1):=by simp only[nm2,ts,List.map_append,List.map_cons,List.map_nil,List.append_assoc]
  have ha:al2 L (i+1)=(al2 L i&&inB L.s.length (L.p.getD i ([],0)).2):=by
   simp only[al2,ts,List.all_append,List.all_cons,List.all_nil,Bool.and_true,Bool.and_assoc]
  generalize L.p.getD i ([],0)=y at*
  have hk1:=hst.k.n
  have o1:one1 (Value.int .i64 y.2)=True:=by simp[one1,one_int]
  have o2:one1 (Value.string ⟨y.1.toArray⟩)=True:=by simp[one1,one_str]
  have st1:=hst.keeps ((Keeps.refl K).alloc (.cells true false 2 [.string ⟨y.1.toArray⟩,.int .i64 y.2] 46))
  have gv:=AHeap.get_alloc_new K (.cells true false 2 [.string ⟨y.1.toArray⟩,.int .i64 y.2] 46)
  cases ok with
  |false=>
   simp(disch:=first|assumption|omega|(simp only[LN]<;>omega)|(simp(disch:=first|assumption|omega|(simp only[LN]<;>omega))only[row_alloc,row_set];assumption))only[W_block,P3,seval,initFr,clsA,mF,List.cons_append,List.nil_append,lp,ra,na,a_loadnvf,hw,o1,o2]
   refine hn _ _ _ ⟨false,i+1,_,_,_,rfl,?_,st1.no,by omega,rfl⟩ (by omega)
   rw[hs,ha,b4,←hok];rfl
  |true=>
   simp(disch:=first|assumption|omega|(simp only[LN]<;>omega)|(simp(disch:=first|assumption|omega|(simp only[LN]<;>omega))only[row_alloc,row_set];assumption))only[W_block,P3,seval,initFr,clsA,mF,List.cons_append,List.nil_append,lp,ra,na,a_loadnvf,hw,o1,o2]
   obtain⟨K1,hK1⟩:∃X,X=K.alloc (.cells true false 2 [.string ⟨y.1.toArray⟩,.int .i64 y.2] 46):=⟨_,rfl⟩
   have n1:K1.n=K.n+1:=by rw[hK1];rfl
   rw[←hK1]at st1 gv ⊢
   refine callQ (t37 _ _ hlen) ?_
   cases hr:rightB y.1 with
   |false=>
    simp(disch:=first|assumption|omega)only[W_block,P3,seval,initFr,clsA,hw]
    refine hn _ _ _ ⟨false,i+1,_,_,_,rfl,?_,st1.no,by omega,rfl⟩ (by omega)
    rw[hs,ha,hr];simp
   |true=>
    simp(disch:=first|assumption|omega)only[W_block,P3,seval,initFr,clsA,gv,hw]
    refine callK (R:=fun w K'=>w=.bool (!(nm2 L i).contains y.1)∧MSt H K' u (!(nm2 L i).contains y.1) (nm2 L i++[y.1])∧K1.n≤K'.n∧K'.get K.n=K1.get K.n) (by
     obtain⟨w,K',a,b,c,d,e⟩:=st1.fresh y.1 (x:=.iface 81 (.int .i64 (i:Int))) rfl
     exact⟨w,K',a,b,c,d,e _ (by have:=AHeap.get_lt hst.b;omega) (by omega)⟩) ?_
    rintro _ K' ⟨rfl,st',n2,g2⟩
    rw[gv]at g2
    rw[hn1]at st'
    cases hc:(nm2 L i).contains y.1 with
    |true=>
     rw[hc]at st'
     simp(disch:=first|assumption|omega)only[W_block,P3,seval,initFr,clsA,hw]
     refine hn _ _ _ ⟨false,i+1,_,_,_,rfl,?_,st',by omega,rfl⟩ (by omega)
     rw[hs,ha,hr,hc];simp
    |false=>
     rw[hc]at st'
     simp(disch:=first|assumption|omega)only[W_block,P3,seval,initFr,clsA,g2,hw]
     have hil:IL (K'.alloc (.cells true false 1 [.int .i64 y.2] 3)) (slc K'.n 0 1 1) [y.2]:=
      ⟨⟨_,_,rfl⟩,by simp[iRow],by rw[elems_new rfl rfl];rfl⟩
     refine callK (t39 _ hil (by simp)) ?_
     rintro _ _ ⟨rfl,rfl⟩
     have st2:=st'.keeps ((Keeps.refl K').alloc (.cells true false 1 [.int .i64 y.2] 3))
     cases hb:inB L.s.length y.2 with
     |false=>
      have e:[y.2].all (inB (L.s.length:Nat))=false:=by simp[hb]
      simp(disch:=first|assumption|omega)only[W_block,P3,seval,initFr,clsA,e,hw]
      refine hn _ _ _ ⟨false,i+1,_,_,_,rfl,?_,st2.no,by omega,rfl⟩ (by omega)
      rw[ha,hb];simp
     |true=>
      have e:[y.2].all (inB (L.s.length:Nat))=true:=by simp[hb]
      simp(disch:=first|assumption|omega)only[W_block,P3,seval,initFr,clsA,e,hw]
      refine hn _ _ _ ⟨true,i+1,_,_,_,rfl,?_,st2,by omega,rfl⟩ (by omega)
      rw[hs,ha,b4,←hok,hr,hc,hb];rfl
 ·have h3:¬(i:Int)<((L.p.length:Nat):Int):=by omega
  simp(disch:=first|assumption|omega)only[W_block,P3,seval,initFr,clsA,mF,List.cons_append,List.nil_append,lp]
  refine hx 2 _ _ ?_
  have e:L.p.take i=L.p:=List.take_of_length_le (by omega)
  simp only[nm2,al2,e]at hok hst
  exact hk _ _ ⟨ok,_,_,_,_,_,_,_,_,_,_,_,_,_,_,_,_,_,_,_,_,_,_,_,_,_,rfl,hok,hst⟩
set_option maxHeartbeats 2000000 in
theorem may3{H:AHeap}{u:V4}{xs:List RV}{L:Ly}{Q:AQ}{A:Value}{fr:List Value}{K:AHeap}(h:LyR H u xs L)(hf:LyFit L)(hm:M2 A H u L fr K)
 (hk:∀fr K,M3 A H u L fr K→Q .normal fr K):W Tryz.prog 4 (cpre 1 (cpost 7 f18.body)) Q fr K:=by
 obtain⟨ok,x9,x10,x11,x12,x13,x14,x15,x16,x17,x18,x19,x20,x21,x22,x23,x24,x25,x26,x27,x28,x29,x30,x31,x32,x33,rfl,hok,hst⟩:=hm
 have lp:=h.g.len
 have ip:=Sl.is h.g
 have gl:=hst.l
 simp only[V4.l]at gl
 simp(disch:=first|assumption|omega)only[f18,cpre,cpost,mF,List.cons_append,List.nil_append,P3,seval,initFr,clsA,gl,lp]
 rw[W_block]
 refine W_loop2 (fun k fr K=>∃ok i x13 x14 xc,fr=mF A H.n L ok++[x9,x10,x11,x12,x13,x14,x15,x16,x17,x18,x19,x20,x21,x22,x23,x24,x25,u.g,.int .i64 ((L.g.length:Nat):Int),.int .i64 ((i:Nat):Int),xc,x30,x31,x32,x33]∧
  ok=(okN (nm3 L i)&&al3 L i)∧MSt H K u ok (nm3 L i)∧i≤L.g.length∧k=L.g.length-i) L.g.length
  ⟨ok,0,_,_,_,rfl,by simp[nm3,al3,hok],by simpa[nm3]using hst,by omega,rfl⟩ ?_
 clear hst hok gl
 rintro Q' k fr K ⟨ok,i,x13,x14,xc,rfl,hok,hst,hi,rfl⟩ hn hx hret
 by_cases hlt:i<L.g.length
 ·obtain⟨na,ra⟩:=(h.g.keeps hst.k).at_ hlt
  have hbl:=Sl.bn_le (h.g.keeps hst.k) (by intro e;simp at e;rw[e]at hlt;simp at hlt) (by omega)
  have h1:(0:Int)≤(i:Int):=by omega
  have h2:(i:Int)<((lenS u.g:Nat):Int):=by omega
  have h3:(i:Int)<((L.g.length:Nat):Int):=by omega
  have hw:IntKind.i64.wrap ((i:Int)+1)=((i+1:Nat):Int):=by rw[wrap_i64 (by omega) (by have:=hf.g.1;omega)];simp
  have hlen:=hf.g.2 _ (getD_mem (d:=([],0)) hlt)
  have ts:=take_snoc ([],(0:Int)) hlt
  have hs:okN (nm3 L (i+1))=(okN (nm3 L i)&&(rightB (L.g.getD i ([],0)).1 && !(nm3 L i).contains (L.g.getD i ([],0)).1)):=by
   rw[←okN_snoc];simp only[nm3,ts,List.map_append,List.map_cons,List.map_nil,List.append_assoc]
  have hn1:nm3 L i++[(L.g.getD i ([],0)).1]=nm3 L (i+1):=by simp only[nm3,ts,List.map_append,List.map_cons,List.map_nil,List.append_assoc]
  have ha:al3 L (i+1)=(al3 L i&&inB L.s.length (L.g.getD i ([],0)).2):=by
   simp only[al3,ts,List.all_append,List.all_cons,List.all_nil,Bool.and_true,Bool.and_assoc]
  generalize L.g.getD i ([],0)=y at*
  have hk1:=hst.k.n
  have o1:one1 (Value.int .i64 y.2)=True:=by simp[one1,one_int]
  have o2:one1 (Value.string ⟨y.1.toArray⟩)=True:=by simp[one1,one_str]
  have st1:=hst.keeps ((Keeps.refl K).alloc (.cells true false 2 [.string ⟨y.1.toArray⟩,.int .i64 y.2] 47))
  have gv:=AHeap.get_alloc_new K (.cells true false 2 [.string ⟨y.1.toArray⟩,.int .i64 y.2] 47)
  cases ok with
  |false=>
   simp(disch:=first|assumption|omega|(simp only[LN]<;>omega)|(simp(disch:=first|assumption|omega|(simp only[LN]<;>omega))only[row_alloc,row_set];assumption))only[W_block,P3,seval,initFr,clsA,mF,List.cons_append,List.nil_append,lp,ra,na,a_loadnvf,hw,o1,o2]
   refine hn _ _ _ ⟨false,i+1,_,_,_,rfl,?_,st1.no,by omega,rfl⟩ (by omega)
   rw[hs,ha,b4,←hok];rfl
  |true=>
   simp(disch:=first|assumption|omega|(simp only[LN]<;>omega)|(simp(disch:=first|assumption|omega|(simp only[LN]<;>omega))only[row_alloc,row_set];assumption))only[W_block,P3,seval,initFr,clsA,mF,List.cons_append,List.nil_append,lp,ra,na,a_loadnvf,hw,o1,o2]
   obtain⟨K1,hK1⟩:∃X,X=K.alloc (.cells true false 2 [.string ⟨y.1.toArray⟩,.int .i64 y.2] 47):=⟨_,rfl⟩
   have n1:K1.n=K.n+1:=by rw[hK1];rfl
   rw[←hK1]at st1 gv ⊢
   refine callQ (t37 _ _ hlen) ?_
   cases hr:rightB y.1 with
   |false=>
    simp(disch:=first|assumption|omega)only[W_block,P3,seval,initFr,clsA,hw]
    refine hn _ _ _ ⟨false,i+1,_,_,_,rfl,?_,st1.no,by omega,rfl⟩ (by omega)
    rw[hs,ha,hr];simp
   |true=>
    simp(disch:=first|assumption|omega)only[W_block,P3,seval,initFr,clsA,gv,hw]
    refine callK (R:=fun w K'=>w=.bool (!(nm3 L i).contains y.1)∧MSt H K' u (!(nm3 L i).contains y.1) (nm3 L i++[y.1])∧K1.n≤K'.n∧K'.get K.n=K1.get K.n) (by
     obtain⟨w,K',a,b,c,d,e⟩:=st1.fresh y.1 (x:=.iface 83 (.int .i64 (i:Int))) rfl
     exact⟨w,K',a,b,c,d,e _ (by have:=AHeap.get_lt hst.b;omega) (by omega)⟩) ?_
    rintro _ K' ⟨rfl,st',n2,g2⟩
    rw[gv]at g2
    rw[hn1]at st'
    cases hc:(nm3 L i).contains y.1 with
    |true=>
     rw[hc]at st'
     simp(disch:=first|assumption|omega)only[W_block,P3,seval,initFr,clsA,hw]
     refine hn _ _ _ ⟨false,i+1,_,_,_,rfl,?_,st',by omega,rfl⟩ (by omega)
     rw[hs,ha,hr,hc];simp
    |false=>
     rw[hc]at st'
     simp(disch:=first|assumption|omega)only[W_block,P3,seval,initFr,clsA,g2,hw]
     have hil:IL (K'.alloc (.cells true false 1 [.int .i64 y.2] 3)) (slc K'.n 0 1 1) [y.2]:=
      ⟨⟨_,_,rfl⟩,by simp[iRow],by rw[elems_new rfl rfl];rfl⟩
     refine callK (t39 _ hil (by simp)) ?_
     rintro _ _ ⟨rfl,rfl⟩
     have st2:=st'.keeps ((Keeps.refl K').alloc (.cells true false 1 [.int .i64 y.2] 3))
     cases hb:inB L.s.length y.2 with
     |false=>
      have e:[y.2].all (inB (L.s.length:Nat))=false:=by simp[hb]
      simp(disch:=first|assumption|omega)only[W_block,P3,seval,initFr,clsA,e,hw]
      refine hn _ _ _ ⟨false,i+1,_,_,_,rfl,?_,st2.no,by omega,rfl⟩ (by omega)
      rw[ha,hb];simp
     |true=>
      have e:[y.2].all (inB (L.s.length:Nat))=true:=by simp[hb]
      simp(disch:=first|assumption|omega)only[W_block,P3,seval,initFr,clsA,e,hw]
      refine hn _ _ _ ⟨true,i+1,_,_,_,rfl,?_,st2,by omega,rfl⟩ (by omega)
      rw[hs,ha,b4,←hok,hr,hc,hb];rfl
 ·have h3:¬(i:Int)<((L.g.length:Nat):Int):=by omega
  simp(disch:=first|assumption|omega)only[W_block,P3,seval,initFr,clsA,mF,List.cons_append,List.nil_append,lp]
  refine hx 4 _ _ ?_
  have e:L.g.take i=L.g:=List.take_of_length_le (by omega)
  simp only[nm3,al3,e]at hok hst
  exact hk _ _ ⟨ok,_,_,_,_,_,_,_,_,_,_,_,_,_,_,_,_,_,_,_,_,_,_,_,_,_,rfl,hok,hst⟩
end Go.AM.Fd

namespace Go.AM.Fd
open Nat (reduceAdd reduceEqDiff reduceLT reduceLeDiff reduceMul reduceSub)
open Go.Proofs Go.AM.F
def M4(A:Value)(H:AHeap)(u:V4)(L:Ly)(fr:List Value)(K:AHeap):Prop:=
 ∃ok x9 x10 x11 x12 x13 x14 x15 x16 x17 x18 x19 x20 x21 x22 x23 x24 x25 x26 x27 x28 x29 x30 x31 x32 x33,fr=mF A H.n L ok++[x9,x10,x11,x12,x13,x14,x15,x16,x17,x18,x19,x20,x21,x22,x23,x24,x25,x26,x27,x28,x29,x30,x31,x32,x33]∧ok=(okN (namesL L)&&(L.p.all (fun x=>inB L.s.length x.2)&&L.g.all (fun x=>inB L.s.length x.2)&&L.r.all (roB L)))∧Keeps H K
set_option maxHeartbeats 4000000 in
theorem may4{H:AHeap}{u:V4}{xs:List RV}{L:Ly}{Q:AQ}{A:Value}{fr:List Value}{K:AHeap}(h:LyR H u xs L)(hf:LyFit L)(hm:M3 A H u L fr K)
 (hk:∀fr K,M4 A H u L fr K→Q .normal fr K):W Tryz.prog 4 (cpre 1 (cpost 8 f18.body)) Q fr K:=by
 obtain⟨ok,x9,x10,x11,x12,x13,x14,x15,x16,x17,x18,x19,x20,x21,x22,x23,x24,x25,x26,x27,x28,x29,x30,x31,x32,x33,rfl,hok,hst⟩:=hm
 have lp:=h.r.len
 have el:=h.rlen
 rw[el]at lp
 have ip:=Sl.is h.r
 have gl:=hst.l
 simp only[V4.l]at gl
 simp(disch:=first|assumption|omega)only[f18,cpre,cpost,mF,List.cons_append,List.nil_append,P3,seval,initFr,clsA,gl,lp]
 rw[W_block]
 refine W_loop2 (fun k fr K=>∃ok i x15 x16 xc,fr=mF A H.n L ok++[x9,x10,x11,x12,x13,x14,x15,x16,x17,x18,x19,x20,x21,x22,x23,x24,x25,x26,x27,x28,x29,u.r,.int .i64 ((L.r.length:Nat):Int),.int .i64 ((i:Nat):Int),xc]∧
  ok=(okN (nm4 L i)&&al4 L i)∧MSt H K u ok (nm4 L i)∧i≤L.r.length∧k=L.r.length-i) L.r.length
  ⟨ok,0,_,_,_,rfl,by simp[nm4,al4,hok],by simpa[nm4]using hst,by omega,rfl⟩ ?_
 clear hst hok gl
 rintro Q' k fr K ⟨ok,i,x15,x16,xc,rfl,hok,hst,hi,rfl⟩ hn hx hret
 by_cases hlt:i<L.r.length
 ·have hlt':i<xs.length:=by omega
  obtain⟨na,ra⟩:=RL.at_ (h.r.keeps hst.k) hlt'
  obtain⟨xok,xr⟩:=h.rat hlt
  have hbl:=Sl.bn_le (h.r.keeps hst.k) (by intro e;simp at e;rw[e]at hlt';simp at hlt') (by omega)
  have h1:(0:Int)≤(i:Int):=by omega
  have h2:(i:Int)<((lenS u.r:Nat):Int):=by omega
  have h3:(i:Int)<((L.r.length:Nat):Int):=by omega
  have hw:IntKind.i64.wrap ((i:Int)+1)=((i+1:Nat):Int):=by rw[wrap_i64 (by omega) (by have:=hf.r.1;omega)];simp
  have hlen:=hf.r.2 _ (getD_mem (d:=rv0.r) hlt)
  have ts:=take_snoc rv0.r hlt
  rw[←xr]at ts hlen
  have hs:okN (nm4 L (i+1))=(okN (nm4 L i)&&(rightB (xs.getD i rv0).r.n&& !(nm4 L i).contains (xs.getD i rv0).r.n)):=by
   rw[←okN_snoc];simp only[nm4,ts,List.map_append,List.map_cons,List.map_nil,List.append_assoc]
  have hn1:nm4 L i++[(xs.getD i rv0).r.n]=nm4 L (i+1):=by simp only[nm4,ts,List.map_append,List.map_cons,List.map_nil,List.append_assoc]
  have ha:al4 L (i+1)=(al4 L i&&roB L (xs.getD i rv0).r):=by
   simp only[al4,ts,List.all_append,List.all_cons,List.all_nil,Bool.and_true,Bool.and_assoc]
  clear ts xr
  generalize xs.getD i rv0=y at*
  have hk1:=hst.k.n
  simp only[RV.row]at ra
  have iP:=Sl.is xok.p
  have iQ:=Sl.is xok.q
  have iO:=Sl.is xok.o
  have iF:=Sl.is xok.f
  have lP:=xok.p.len
  have lO:=xok.o.len
  have o1:one1 (Value.int .i64 y.r.g)=True:=by simp[one1,one_int]
  have o2:one1 (Value.string ⟨y.r.n.toArray⟩)=True:=by simp[one1,one_str]
  have o3:=one_isS iP
  have o4:=one_isS iQ
  have o5:=one_isS iO
  have o6:=one_isS iF
  obtain⟨row,hrow⟩:∃row,row=[.string ⟨y.r.n.toArray⟩,.int .i64 y.r.g,y.vp,y.vq,y.vo,y.vf]:=⟨_,rfl⟩
  have st1:=hst.keeps ((Keeps.refl K).alloc (.cells true false 6 row 44))
  have gv:=AHeap.get_alloc_new K (.cells true false 6 row 44)
  subst hrow
  have fin:∀{X:AHeap} {x15 x16 xc:Value},MSt H X u false (nm4 L (i+1))→(okN (nm4 L (i+1))&&al4 L (i+1))=false→Q' .normal (mF A H.n L false++[x9,x10,x11,x12,x13,x14,x15,x16,x17,x18,x19,x20,x21,x22,x23,x24,x25,x26,x27,x28,x29,u.r,.int .i64 ((L.r.length:Nat):Int),.int .i64 ((i+1:Nat):Int),xc]) X:=
   fun hX he=>hn _ _ _ ⟨false,i+1,_,_,_,rfl,he.symm,hX,by omega,rfl⟩ (by omega)
  simp only[mF,List.cons_append,List.nil_append]at fin
  cases ok with
  |false=>
   simp(disch:=first|assumption|omega|(simp only[LN]<;>omega)|(simp(disch:=first|assumption|omega|(simp only[LN]<;>omega))only[row_alloc,row_set];assumption))only[W_block,P3,seval,initFr,clsA,mF,List.cons_append,List.nil_append,lp,ra,na,a_loadnvf,hw,o1,o2,o3,o4,o5,o6]
   refine fin st1.no ?_
   rw[hs,ha,b4,←hok];rfl
  |true=>
   simp(disch:=first|assumption|omega|(simp only[LN]<;>omega)|(simp(disch:=first|assumption|omega|(simp only[LN]<;>omega))only[row_alloc,row_set];assumption))only[W_block,P3,seval,initFr,clsA,mF,List.cons_append,List.nil_append,lp,ra,na,a_loadnvf,hw,o1,o2,o3,o4,o5,o6]
   obtain⟨K1,hK1⟩:∃X,X=K.alloc (.cells true false 6 [.string ⟨y.r.n.toArray⟩,.int .i64 y.r.g,y.vp,y.vq,y.vo,y.vf] 44):=⟨_,rfl⟩
   have n1:K1.n=K.n+1:=by rw[hK1];rfl
   rw[←hK1]at st1 gv ⊢
   refine callQ (t37 _ _ hlen.1) ?_
   cases hr:rightB y.r.n with
   |false=>
    simp(disch:=first|assumption|omega)only[W_block,P3,seval,initFr,clsA,hw]
    refine fin st1.no ?_
    rw[hs,ha,hr];simp
   |true=>
   simp(disch:=first|assumption|omega)only[W_block,P3,seval,initFr,clsA,gv,hw]
   refine callK (R:=fun w K'=>w=.bool (!(nm4 L i).contains y.r.n)∧MSt H K' u (!(nm4 L i).contains y.r.n) (nm4 L i++[y.r.n])∧K1.n≤K'.n∧K'.get K.n=K1.get K.n) (by
    obtain⟨w,K',a,b,c,d,e⟩:=st1.fresh y.r.n (x:=.iface 84 (.int .i64 (i:Int))) rfl
    exact⟨w,K',a,b,c,d,e _ (by have:=AHeap.get_lt hst.b;omega) (by omega)⟩) ?_
   rintro _ K' ⟨rfl,st',n2,g2⟩
   rw[gv]at g2
   rw[hn1]at st'
   cases hc:(nm4 L i).contains y.r.n with
   |true=>
    rw[hc]at st'
    simp(disch:=first|assumption|omega)only[W_block,P3,seval,initFr,clsA,hw]
    refine fin st' ?_
    rw[hs,ha,hr,hc];simp
   |false=>
   rw[hc]at st'
   simp(disch:=first|assumption|omega)only[W_block,P3,seval,initFr,clsA,g2,hw]
   have hil:IL (K'.alloc (.cells true false 1 [.int .i64 y.r.g] 3)) (slc K'.n 0 1 1) [y.r.g]:=
    ⟨⟨_,_,rfl⟩,by simp[iRow],by rw[elems_new rfl rfl];rfl⟩
   refine callK (t39 _ hil (by simp)) ?_
   have st2:=st'.keeps ((Keeps.refl K').alloc (.cells true false 1 [.int .i64 y.r.g] 3))
   have g3:=((Keeps.refl K').alloc (.cells true false 1 [.int .i64 y.r.g] 3)).at_ g2
   obtain⟨K2,hK2⟩:∃X,X=K'.alloc (.cells true false 1 [.int .i64 y.r.g] 3):=⟨_,rfl⟩
   rw[←hK2]at st2 g3 ⊢
   rintro _ X ⟨rfl,hX⟩
   rw[hX]
   have xk:=xok.keeps st2.k
   cases hb:inB L.g.length y.r.g with
   |false=>
    have e:[y.r.g].all (inB (L.g.length:Nat))=false:=by simp[hb]
    simp(disch:=first|assumption|omega)only[W_block,P3,seval,initFr,clsA,e,hw]
    refine fin st2.no ?_
    rw[ha];simp[roB,hb]
   |true=>
   have e:[y.r.g].all (inB (L.g.length:Nat))=true:=by simp[hb]
   by_cases hp:y.r.path.length≤16
   rotate_left
   ·have hp':¬((y.r.path.length:Nat):Int)≤(16:Int):=by omega
    simp(disch:=first|assumption|omega)only[W_block,P3,seval,initFr,clsA,e,g3,lP,hw]
    refine fin st2.no ?_
    rw[ha];simp[roB,hp]
   have hp':((y.r.path.length:Nat):Int)≤(16:Int):=by omega
   by_cases ho:y.r.ov.length≤16
   rotate_left
   ·have ho':¬((y.r.ov.length:Nat):Int)≤(16:Int):=by omega
    simp(disch:=first|assumption|omega)only[W_block,P3,seval,initFr,clsA,e,g3,lP,lO,hw]
    refine fin st2.no ?_
    rw[ha];simp[roB,ho]
   have ho':((y.r.ov.length:Nat):Int)≤(16:Int):=by omega
   simp(disch:=first|assumption|omega)only[W_block,P3,seval,initFr,clsA,e,g3,lP,lO,hw]
   refine callQ (t39 _ xk.p (by omega)) ?_
   cases hbp:y.r.path.all (inB (L.s.length:Nat))with
   |false=>
    simp(disch:=first|assumption|omega)only[W_block,P3,seval,initFr,clsA,hw]
    refine fin st2.no ?_
    rw[ha];simp only[roB,hbp];simp
   |true=>
   simp(disch:=first|assumption|omega)only[W_block,P3,seval,initFr,clsA,g3,hw]
   refine callQ (t39 _ xk.o (by omega)) ?_
   cases hbo:y.r.ov.all (inB (L.s.length:Nat))with
   |false=>
    simp(disch:=first|assumption|omega)only[W_block,P3,seval,initFr,clsA,hw]
    refine fin st2.no ?_
    rw[ha];simp only[roB,hbo];simp
   |true=>
   simp(disch:=first|assumption|omega)only[W_block,P3,seval,initFr,clsA,g3,hw]
   refine callQ (t40 _ xk.q hlen.2.2.1) ?_
   cases hbq:(decide (y.r.pts.length≤16)&&y.r.pts.all fun x=>inB (L.p.length:Nat) x.1)with
   |false=>
    simp(disch:=first|assumption|omega)only[W_block,P3,seval,initFr,clsA,hw]
    refine fin st2.no ?_
    rw[ha];simp only[roB,needB,hbq];simp
   |true=>
   simp(disch:=first|assumption|omega)only[W_block,P3,seval,initFr,clsA,g3,hw]
   refine callQ (t40 _ xk.f hlen.2.2.2.2) ?_
   cases hbf:(decide (y.r.fl.length≤16)&&y.r.fl.all fun x=>inB (L.p.length:Nat) x.1)with
   |false=>
    simp(disch:=first|assumption|omega)only[W_block,P3,seval,initFr,clsA,hw]
    refine fin st2.no ?_
    rw[ha];simp only[roB,needB,hbf];simp
   |true=>
    simp(disch:=first|assumption|omega)only[W_block,P3,seval,initFr,clsA,hw]
    refine hn _ _ _ ⟨true,i+1,_,_,_,rfl,?_,st2,by omega,rfl⟩ (by omega)
    have er:roB L y.r=true:=by simp only[roB,needB,hb,hp,ho,hbp,hbo,hbq,hbf];rfl
    rw[hs,ha,b4,←hok,hr,hc,er];rfl
 ·have h3:¬(i:Int)<((L.r.length:Nat):Int):=by omega
  simp(disch:=first|assumption|omega)only[W_block,P3,seval,initFr,clsA,mF,List.cons_append,List.nil_append,lp]
  refine hx 6 _ _ ?_
  have e:L.r.take i=L.r:=List.take_of_length_le (by omega)
  simp only[nm4,al4,e]at hok hst
  exact hk _ _ ⟨ok,_,_,_,_,_,_,_,_,_,_,_,_,_,_,_,_,_,_,_,_,_,_,_,_,_,rfl,hok,hst.k⟩
set_option maxHeartbeats 1000000 in
theorem t18{H:AHeap}{u:V4}{xs:List RV}{L:Ly}(h:LyR H u xs L)(hf:LyFit L):∃w H',ARun Tryz.prog 4 18 [.agg u.l.toArray] H w H'∧w=.bool (mayB L)∧H'=H:=by
 refine gcb ?_
 refine walk2 f18_ok f18_n ?_
 intro Q hq1 hq2
 cases hfu:fullB L with
 |true=>
  have ls:=h.s.len
  have lp:=h.p.len
  have lg:=h.g.len
  have lr:=h.r.len
  have er:=h.rlen
  have is:=Sl.is h.s
  have ip:=Sl.is h.p
  have ig:=Sl.is h.g
  have ir:=Sl.is h.r
  have os:=Sl.one h.s
  have op:=Sl.one h.p
  have og:=Sl.one h.g
  have or:=Sl.one h.r
  have hm:mayB L=false:=by simp[mayB,hfu]
  rw[hm]at hq2
  simp only[fullB,Bool.or_eq_true,decide_eq_true_eq]at hfu
  obtain⟨us,up,ug,ur⟩:=u
  simp only[V4.l]at*
  have k1:=(Keeps.refl H).alloc (.cells true false 4 [us,up,ug,ur] 30)
  by_cases c1:(64:Int)<((L.s.length:Nat):Int)
  ·simp(disch:=first|assumption|omega)only[f18,W_block,P3,seval,initFr,clsA,ls,lp,lg,lr,er,os,op,og,or]
   exact hq2 _ _ ⟨_,rfl,rfl,k1⟩
  by_cases c2:(32:Int)<((L.p.length:Nat):Int)
  ·simp(disch:=first|assumption|omega)only[f18,W_block,P3,seval,initFr,clsA,ls,lp,lg,lr,er,os,op,og,or]
   exact hq2 _ _ ⟨_,rfl,rfl,k1⟩
  by_cases c3:(32:Int)<((L.g.length:Nat):Int)
  ·simp(disch:=first|assumption|omega)only[f18,W_block,P3,seval,initFr,clsA,ls,lp,lg,lr,er,os,op,og,or]
   exact hq2 _ _ ⟨_,rfl,rfl,k1⟩
  have c4:(64:Int)<((L.r.length:Nat):Int):=by omega
  simp(disch:=first|assumption|omega)only[f18,W_block,P3,seval,initFr,clsA,ls,lp,lg,lr,er,os,op,og,or]
  exact hq2 _ _ ⟨_,rfl,rfl,k1⟩
 |false=>
  refine W_part 6 (M1 (.agg u.l.toArray) H u L) (by kernel_rfl) (fun Q' a _ _=>may1 h hf hfu a) (fun fr K m=>?_)
  refine W_part 1 (M2 (.agg u.l.toArray) H u L) (by kernel_rfl) (fun Q' a _ _=>may2 h hf m a) (fun fr K m=>?_)
  refine W_part 1 (M3 (.agg u.l.toArray) H u L) (by kernel_rfl) (fun Q' a _ _=>may3 h hf m a) (fun fr K m=>?_)
  refine W_part 1 (M4 (.agg u.l.toArray) H u L) (by kernel_rfl) (fun Q' a _ _=>may4 h hf m a) (fun fr K m=>?_)
  obtain⟨ok,x9,x10,x11,x12,x13,x14,x15,x16,x17,x18,x19,x20,x21,x22,x23,x24,x25,x26,x27,x28,x29,x30,x31,x32,x33,rfl,hok,hst⟩:=m
  simp(disch:=first|assumption|omega)only[f18,cpost,mF,List.cons_append,List.nil_append,W_block,P3,seval,initFr,clsA]
  refine hq2 _ _ ⟨_,rfl,?_,hst⟩
  rw[mayB,hfu,←hok];rfl
end Go.AM.Fd

namespace Go.AM
structure OW (e esz:Nat) (H K:AHeap) (v:Value) (rows:List (List Value)):Prop where
 ap:AP K e esz v rows.length rows.flatten
 r:∀r∈rows,r.length=esz
 k:Keeps H K
 f:Fresh H.n v
section
variable {e esz:Nat} {H K K':AHeap} {v v':Value} {rows rows2:List (List Value)}
theorem OW.sl(h:OW e esz H K v rows):Sl K esz v rows:=h.ap.sl h.r rfl
theorem OW.keeps(h:OW e esz H K v rows)(k:Keeps K K'):OW e esz H K' v rows:=⟨h.ap.keeps k,h.r,h.k.trans k,h.f⟩
theorem OW.base{H0:AHeap}(h:OW e esz H K v rows)(k:Keeps H0 H):OW e esz H0 K v rows:=⟨h.ap,h.r,k.trans h.k,fun b hb=>Nat.le_trans k.n (h.f b hb)⟩
theorem OW.nil(e esz:Nat)(k:Keeps H K):OW e esz H K (.slice none 0 0) []:=⟨.inl ⟨rfl,rfl,rfl⟩,by simp,k,fun b hb=>by cases hb⟩
theorem OW.is(h:OW e esz H K v rows):isS v=true:=by obtain⟨a,rfl⟩:=h.ap.shape;rfl
theorem OW.one(h:OW e esz H K v rows):v.oneCell'=true:=by obtain⟨a,rfl⟩:=h.ap.shape;rfl
theorem OW.len(h:OW e esz H K v rows):lenS v=rows.length:=by obtain⟨a,rfl⟩:=h.ap.shape;rfl
theorem OW.grow(h:OW e esz H K v rows)(a:AP K' e esz v' (rows.length+rows2.length) (rows.flatten++rows2.flatten))(hr:∀r∈rows2,r.length=esz)(c:Chg (blkL v) K K')(hb:blk v'=blk v∨blk v'=some K.n):OW e esz H K' v' (rows++rows2):=by
 refine⟨by rw[List.length_append,List.flatten_append];exact a,fun r hm=>?_,h.k.chg_trans c (fun x hx=>h.f x (mem_blkL.1 hx)),fun b hb'=>?_⟩
 ·rcases List.mem_append.1 hm with hm|hm
  ·exact h.r r hm
  ·exact hr r hm
 ·rcases hb with e1|e1
  ·exact h.f b (by rw[←e1];exact hb')
  ·rw[e1]at hb';cases hb';exact h.k.n
theorem Sl.one1{row:List Value}{b:Nat}{own room:Bool}(hb:b=K.n)(hl:row.length=esz):Sl (K.alloc (.cells own room esz row e)) esz (slc b 0 1 1) [row]:=
 ⟨⟨_,_,rfl⟩,by simp[hl],by rw[elems_new hb (by simpa using hl)];simp⟩
theorem OW.pre{i:Nat}{kd:IntKind}(h:OW e esz H K v rows)(hi:i≤rows.length):∃w,asem (.slsl esz v none (some (.int kd (i:Nat))) none) K=some (w,K)∧Sl K esz w (rows.take i):=by
 have hr:∀r∈rows.take i,r.length=esz:=fun r hm=>h.r r (List.mem_of_mem_take hm)
 rcases h.ap with⟨rfl,h1,h2⟩|⟨b,room,rfl,h1,h2⟩
 ·have:rows=[]:=List.eq_nil_of_length_eq_zero h1
  subst this
  have:i=0:=by simpa using hi
  subst this
  exact⟨_,a_slsl_nil ⟨0,0,0,bnd_none 0 0,bnd_some kd 0 0 0 (Nat.le_refl _),bnd_none 0 0⟩,Sl.nil _ _⟩
 ·refine⟨_,a_slsl h2 (bnd_none _ _) (bnd_some kd i rows.length rows.length hi) (bnd_none 0 i),⟨⟨_,_,by rw[List.length_take,Nat.min_eq_left hi,Nat.sub_zero];rfl⟩,hr,?_⟩⟩
  have hf:rows.flatten.length=rows.length*esz:=flat_len h.r
  have hle:i*esz≤rows.length*esz:=Nat.mul_le_mul_right _ hi
  simp only[elemsA,slc,h2,Nat.zero_mul,Nat.add_zero,Nat.zero_add,Nat.sub_zero]
  rw[if_pos (by omega),List.drop_zero]
  congr 1
  have e:rows.flatten=(rows.take i).flatten++(rows.drop i).flatten:=by rw[←List.flatten_append,List.take_append_drop]
  have hl:(rows.take i).flatten.length=i*esz:=by rw[flat_len hr,List.length_take,Nat.min_eq_left hi]
  rw[e,←hl,List.take_left]
end
section
variable {P:Program} {ng:Nat} {KF:List Value→AHeap→Prop} {fr tm:List Value} {tr:List TE} {e esz b:Nat} {H K:AHeap} {s x:Value} {rows rows2:List (List Value)}
theorem OW.appR{d:D}{r:List AOper}(h:OW e esz H K s rows)(hx:Sl K esz x rows2)(hs:(rows.length+rows2.length)*b≤140737488355328∧rows.length+rows2.length≤140737488355328)
 (hk:∀v' K',OW e esz H K' v' (rows++rows2)→Chg (blkL s) K K'→RW P ng r (d.frame v' fr) (d.temps v' tm) K' KF):goR P ng (asem (.app e esz b s x) K) d r fr tm KF:=
 appG h.ap hx.sh hx.el (flat_len hx.row) hs (fun v' K' a c hb=>hk v' K' (h.grow a hx.row c hb) c)
end
end Go.AM

namespace Go.AM.Fd
open Nat (reduceAdd reduceEqDiff reduceLT reduceLeDiff reduceMul reduceSub)
open Go.Proofs Go.AM.F
theorem t28{H:AHeap}{u:V4}{xs:List RV}{L:Ly}(h:LyR H u xs L):∃w H',ARun Tryz.prog 4 28 [.agg u.l.toArray] H w H'∧w=.bool (fullB L)∧H'=H:=by
 refine gcb ?_
 refine walk2 f28_ok f28_n ?_
 intro Q hq1 hq2
 have ls:=h.s.len
 have lp:=h.p.len
 have lg:=h.g.len
 have lr:=h.r.len
 have er:=h.rlen
 have is:=Sl.is h.s
 have ip:=Sl.is h.p
 have ig:=Sl.is h.g
 have ir:=Sl.is h.r
 have os:=Sl.one h.s
 have op:=Sl.one h.p
 have og:=Sl.one h.g
 have or:=Sl.one h.r
 obtain⟨us,up,ug,ur⟩:=u
 simp only[V4.l]at*
 have k1:=(Keeps.refl H).alloc (.cells true false 4 [us,up,ug,ur] 30)
 have n1:∀a b:Nat,decide ((a:Int)<(b:Int))=decide (a<b):=fun a b=>by rw[decide_eq_decide];omega
 have e1:decide ((64:Int)<((L.s.length:Nat):Int))=decide (64<L.s.length):=n1 64 _
 have e2:decide ((32:Int)<((L.p.length:Nat):Int))=decide (32<L.p.length):=n1 32 _
 have e3:decide ((32:Int)<((L.g.length:Nat):Int))=decide (32<L.g.length):=n1 32 _
 have e4:decide ((64:Int)<((L.r.length:Nat):Int))=decide (64<L.r.length):=n1 64 _
 unfold fullB at hq2
 cases c1:decide (64<L.s.length)with
 |true=>
  simp only[c1]at e1 hq2
  have c1':(64:Int)<((L.s.length:Nat):Int):=of_decide_eq_true e1
  simp(disch:=first|assumption|omega)only[f28,W_block,P3,seval,initFr,clsA,ls,lp,lg,lr,er,os,op,og,or]
  exact hq2 _ _ ⟨_,rfl,rfl,k1⟩
 |false=>
 simp only[c1]at e1 hq2
 have c1':¬(64:Int)<((L.s.length:Nat):Int):=of_decide_eq_false e1
 cases c2:decide (32<L.p.length)with
 |true=>
  simp only[c2]at e2 hq2
  have c2':(32:Int)<((L.p.length:Nat):Int):=of_decide_eq_true e2
  simp(disch:=first|assumption|omega)only[f28,W_block,P3,seval,initFr,clsA,ls,lp,lg,lr,er,os,op,og,or]
  exact hq2 _ _ ⟨_,rfl,rfl,k1⟩
 |false=>
 simp only[c2]at e2 hq2
 have c2':¬(32:Int)<((L.p.length:Nat):Int):=of_decide_eq_false e2
 cases c3:decide (32<L.g.length)with
 |true=>
  simp only[c3]at e3 hq2
  have c3':(32:Int)<((L.g.length:Nat):Int):=of_decide_eq_true e3
  simp(disch:=first|assumption|omega)only[f28,W_block,P3,seval,initFr,clsA,ls,lp,lg,lr,er,os,op,og,or]
  exact hq2 _ _ ⟨_,rfl,rfl,k1⟩
 |false=>
 simp only[c3]at e3 hq2
 have c3':¬(32:Int)<((L.g.length:Nat):Int):=of_decide_eq_false e3
 cases c4:decide (64<L.r.length)with
 |true=>
  simp only[c4]at e4 hq2
  have c4':(64:Int)<((L.r.length:Nat):Int):=of_decide_eq_true e4
  simp(disch:=first|assumption|omega)only[f28,W_block,P3,seval,initFr,clsA,ls,lp,lg,lr,er,os,op,og,or]
  exact hq2 _ _ ⟨_,rfl,rfl,k1⟩
 |false=>
  simp only[c4]at e4 hq2
  have c4':¬(64:Int)<((L.r.length:Nat):Int):=of_decide_eq_false e4
  simp(disch:=first|assumption|omega)only[f28,W_block,P3,seval,initFr,clsA,ls,lp,lg,lr,er,os,op,og,or]
  exact hq2 _ _ ⟨_,rfl,rfl,k1⟩
def ixT(n:List UInt8):List (List UInt8)→Option Nat
 |[]=>none
 |x::l=>if x=n then some 0 else(ixT n l).map (· +1)
def ixV(n:List UInt8)(l:List (List UInt8)):Int:=match ixT n l with
 |some i=>(i:Int)
 |none=> -1
theorem ixT_at{n:List UInt8}:∀{l:List (List UInt8)} {i:Nat},i<l.length→l.getD i []=n→(∀j,j<i→l.getD j []≠n)→ixT n l=some i
 |x::l,0,_,h,_=>by simp at h;simp[ixT,h]
 |x::l,i+1,hi,h,hn=>by
  have h0:¬x=n:=by simpa using hn 0 (by omega)
  have:=ixT_at (l:=l) (i:=i) (by simpa using hi) (by simpa using h) (fun j hj=>by simpa using hn (j+1) (by omega))
  simp[ixT,h0,this]
theorem ixT_no{n:List UInt8}:∀{l:List (List UInt8)},(∀j,j<l.length→l.getD j []≠n)→ixT n l=none
 |[],_=>rfl
 |x::l,hn=>by
  have h0:¬x=n:=by simpa using hn 0 (by simp)
  have:=ixT_no (l:=l) (fun j hj=>by simpa using hn (j+1) (by simpa using hj))
  simp[ixT,h0,this]
theorem ixT_mem{n:List UInt8}:∀{l:List (List UInt8)},(ixT n l).isSome=l.contains n
 |[]=>rfl
 |x::l=>by
  simp only[ixT,List.contains_cons]
  by_cases h:x=n
  ·simp[h]
  ·have:¬n=x:=fun e=>h e.symm
   simp[h,this,ixT_mem (l:=l)]
theorem t44{H:AHeap}{v:Value}{l:List (List UInt8)}(h:TL H v l)(hl:l.length≤1000000000)(n:List UInt8):∃w H',ARun Tryz.prog 4 44 [v,.string ⟨n.toArray⟩] H w H'∧w=.int .i64 (ixV n l)∧H'=H:=by
 refine walk2 f44_ok f44_n ?_
 intro Q hq1 hq2
 have ia:=Sl.is h
 have la:=h.len
 simp(disch:=first|assumption|omega)only[f44,P3,seval,initFr,clsA]
 rw[W_block]
 refine W_loop2 (fun k fr K=>∃i x4 x5,fr=[v,.string ⟨n.toArray⟩,.int .i64 0,.int .i64 ((i:Nat):Int),x4,x5]∧K=H∧i≤l.length∧(∀j,j<i→l.getD j []≠n)∧k=l.length-i) l.length
  ⟨0,_,_,rfl,rfl,by omega,by intro j hj;omega,rfl⟩ ?_
 rintro Q' k fr K ⟨i,x4,x5,rfl,rfl,hi,hp,rfl⟩ hn hx hret
 by_cases hlt:i<l.length
 ·obtain⟨na,ra⟩:=h.at_ hlt
  have h0:(0:Int)≤(i:Int):=by omega
  have h1:(i:Int)<((lenS v:Nat):Int):=by omega
  have h3:(i:Int)<((l.length:Nat):Int):=by omega
  have hw:IntKind.i64.wrap ((i:Int)+1)=((i+1:Nat):Int):=by rw[wrap_i64 (by omega) (by omega)];simp
  unfold tRow at ra
  by_cases he:l.getD i []=n
  ·have e2:decide (l.getD i []=n)=true:=by simpa using he
   simp(disch:=first|assumption|omega)only[W_block,P3,seval,initFr,clsA,la,ra,na,a_load1v,bytes_eq,e2]
   refine hret _ _ (hq2 _ _ ⟨_,rfl,?_,rfl⟩)
   simp[tupV,ixV,ixT_at hlt he hp]
  ·have e2:decide (l.getD i []=n)=false:=by simpa using he
   simp(disch:=first|assumption|omega)only[W_block,P3,seval,initFr,clsA,la,ra,na,a_load1v,bytes_eq,e2,hw]
   refine hn _ _ _ ⟨i+1,_,_,rfl,rfl,by omega,fun j hj=>?_,rfl⟩ (by omega)
   by_cases hji:j=i
   ·subst hji;exact he
   ·exact hp j (by omega)
 ·have h3:¬(i:Int)<((l.length:Nat):Int):=by omega
  simp(disch:=first|assumption|omega)only[W_block,P3,seval,initFr,clsA,la]
  refine hx 0 _ _ ?_
  simp(disch:=first|assumption|omega)only[W_block,P3,seval,initFr,clsA]
  refine hq2 _ _ ⟨_,rfl,?_,rfl⟩
  simp[tupV,ixV,ixT_no (fun j hj=>hp j (by omega))]
theorem t45{H:AHeap}{v:Value}{l:List Int}(n:Int)(h:IL H v l)(hl:l.length≤9223372036854775807):∃w H',ARun Tryz.prog 4 45 [v,.int .i64 n] H w H'∧w=.bool (decide (l.length≤16)&&l.all (inB n))∧H'=H:=by
 refine walk2 f45_ok f45_n ?_
 intro Q hq1 hq2
 have ia:=Sl.is h
 have la:=h.len
 simp(disch:=first|assumption|omega)only[f45,P3,seval,initFr,clsA]
 rw[W_block]
 refine W_loop2 (fun k fr K=>∃i x4 x5,fr=[v,.int .i64 n,.bool false,.int .i64 ((i:Nat):Int),x4,x5]∧K=H∧i≤l.length∧(l.take i).all (inB n)=true∧k=l.length-i) l.length
  ⟨0,_,_,rfl,rfl,by omega,by simp,rfl⟩ ?_
 rintro Q' k fr K ⟨i,x4,x5,rfl,rfl,hi,hp,rfl⟩ hn hx hret
 have stop:∀K',(decide (l.length≤16)&&l.all (inB n))=K'→Q .ret [v,.int .i64 n,.bool K',.int .i64 ((i:Nat):Int),.bool false,x5] K:=fun K' e=>hq2 _ _ ⟨_,rfl,by simp[tupV,e],rfl⟩
 by_cases hlt:i<l.length
 ·have h3:(i:Int)<((l.length:Nat):Int):=by omega
  by_cases h17:i<17
  ·obtain⟨na,ra⟩:=h.at_ hlt
   have h0:(0:Int)≤(i:Int):=by omega
   have h1:(i:Int)<((lenS v:Nat):Int):=by omega
   have h4:(i:Int)<(17:Int):=by omega
   have hw:IntKind.i64.wrap ((i:Int)+1)=((i+1:Nat):Int):=by rw[wrap_i64 (by omega) (by omega)];simp
   have no:inB n (l.getD i 0)=false→l.all (inB n)=false:=fun e=>all_not hlt e
   have go:inB n (l.getD i 0)=true→(l.take (i+1)).all (inB n)=true:=fun e=>all_take hlt hp e
   generalize l.getD i 0=x at*
   by_cases hx0:x<0
   ·simp(disch:=first|assumption|omega)only[W_block,P3,seval,initFr,clsA,la,ra,na,a_load1v]
    refine hret _ _ (hq2 _ _ ⟨_,rfl,?_,rfl⟩)
    rw[no (by simp[inB];omega)];simp[tupV]
   ·by_cases hxn:n≤x
    ·simp(disch:=first|assumption|omega)only[W_block,P3,seval,initFr,clsA,la,ra,na,a_load1v]
     refine hret _ _ (hq2 _ _ ⟨_,rfl,?_,rfl⟩)
     rw[no (by simp[inB];omega)];simp[tupV]
    ·simp(disch:=first|assumption|omega)only[W_block,P3,seval,initFr,clsA,la,ra,na,a_load1v,hw]
     exact hn _ _ _ ⟨i+1,_,_,rfl,rfl,by omega,go (by simp[inB];omega),rfl⟩ (by omega)
  ·have h4:¬(i:Int)<(17:Int):=by omega
   have h5:¬((l.length:Nat):Int)≤(16:Int):=by omega
   simp(disch:=first|assumption|omega)only[W_block,P3,seval,initFr,clsA,la]
   refine hx 0 _ _ ?_
   simp(disch:=first|assumption|omega)only[W_block,P3,seval,initFr,clsA,la]
   refine hq2 _ _ ⟨_,rfl,?_,rfl⟩
   have:¬l.length≤16:=by omega
   simp[tupV,this]
 ·have h3:¬(i:Int)<((l.length:Nat):Int):=by omega
  rw[List.take_of_length_le (by omega)]at hp
  by_cases h6:l.length≤16
  ·have h5:((l.length:Nat):Int)≤(16:Int):=by omega
   simp(disch:=first|assumption|omega)only[W_block,P3,seval,initFr,clsA,la]
   refine hx 0 _ _ ?_
   simp(disch:=first|assumption|omega)only[W_block,P3,seval,initFr,clsA,la]
   refine hq2 _ _ ⟨_,rfl,?_,rfl⟩
   simp[tupV,h6,hp]
  ·have h5:¬((l.length:Nat):Int)≤(16:Int):=by omega
   simp(disch:=first|assumption|omega)only[W_block,P3,seval,initFr,clsA,la]
   refine hx 0 _ _ ?_
   simp(disch:=first|assumption|omega)only[W_block,P3,seval,initFr,clsA,la]
   refine hq2 _ _ ⟨_,rfl,?_,rfl⟩
   simp[tupV,h6]
theorem t46{H:AHeap}{v:Value}{l:List (Int×Bool)}(h:NL H v l)(hl:l.length≤9223372036854775807):∃w H',ARun Tryz.prog 4 46 [v] H w H'∧IL H' w ((l.take 17).map (·.1))∧Keeps H H':=by
 refine walk2 f46_ok f46_n ?_
 intro Q hq1 hq2
 have ia:=Sl.is h
 have la:=h.len
 simp(disch:=first|assumption|omega)only[f46,P3,seval,initFr,clsA]
 rw[W_block]
 refine W_loop2 (fun k fr K=>∃i s x4,fr=[v,.slice none 0 0,s,.int .i64 ((i:Nat):Int),x4]∧OW 3 1 H K s (((l.take i).map (·.1)).map iRow)∧i≤l.length∧i≤17∧k=l.length-i) l.length
  ⟨0,_,_,rfl,OW.nil _ _ (Keeps.refl H),by omega,by omega,rfl⟩ ?_
 rintro Q' k fr K ⟨i,s,x4,rfl,ho,hi,hi7,rfl⟩ hn hx hret
 by_cases hlt:i<l.length∧i<17
 ·obtain⟨na,ra⟩:=(h.keeps ho.k).at_ hlt.1
  have h0:(0:Int)≤(i:Int):=by omega
  have h1:(i:Int)<((lenS v:Nat):Int):=by omega
  have h3:(i:Int)<((l.length:Nat):Int):=by omega
  have h4:(i:Int)<(17:Int):=by omega
  have hw:IntKind.i64.wrap ((i:Int)+1)=((i+1:Nat):Int):=by rw[wrap_i64 (by omega) (by omega)];simp
  have ts:=take_snoc (0,false) hlt.1
  simp(disch:=first|assumption|omega)only[W_block,P3,seval,initFr,clsA,la,ra,na,a_load1v]
  have ho2:=ho.keeps ((Keeps.refl K).alloc (.cells true false 1 [.int .i64 (l.getD i (0,false)).1] 3))
  refine ho2.appR (Sl.one1 rfl rfl) (by simp only[List.length_map,List.length_take,List.length_cons,List.length_nil];omega) ?_
  intro v' K' ho3 _
  simp(disch:=first|assumption|omega)only[W_block,P3,seval,initFr,clsA,hw]
  refine hn _ _ _ ⟨i+1,_,_,rfl,?_,by omega,by omega,rfl⟩ (by omega)
  rw[ts];simpa[iRow]using ho3
 ·have fin:(l.take i).map (·.1)=(l.take 17).map (·.1):=by
   by_cases e:i=17
   ·rw[e]
   ·rw[List.take_of_length_le (show l.length≤i by omega),List.take_of_length_le (show l.length≤17 by omega)]
  rw[fin]at ho
  by_cases h3:(i:Int)<((l.length:Nat):Int)
  ·have h4:¬(i:Int)<(17:Int):=by omega
   simp(disch:=first|assumption|omega)only[W_block,P3,seval,initFr,clsA,la]
   refine hx 0 _ _ ?_
   simp(disch:=first|assumption|omega)only[W_block,P3,seval,initFr,clsA]
   exact hq2 _ _ ⟨_,rfl,ho.sl,ho.k⟩
  ·simp(disch:=first|assumption|omega)only[W_block,P3,seval,initFr,clsA,la]
   refine hx 0 _ _ ?_
   simp(disch:=first|assumption|omega)only[W_block,P3,seval,initFr,clsA]
   exact hq2 _ _ ⟨_,rfl,ho.sl,ho.k⟩
theorem needs_in(n:Nat)(l:List (Int×Bool)):(decide (((l.take 17).map (·.1)).length≤16)&&((l.take 17).map (·.1)).all (inB n))=needB n l:=by
 unfold needB
 by_cases h:l.length≤16
 ·rw[List.take_of_length_le (by omega)];simp[h,List.all_map,Function.comp_def]
 ·have:¬((l.take 17).map (·.1)).length≤16:=by simp;omega
  simp only[this,h,decide_false,Bool.false_and]
end Go.AM.Fd

namespace Go.AM.Fd
open Nat (reduceAdd reduceEqDiff reduceLT reduceLeDiff reduceMul reduceSub)
open Go.Proofs Go.AM.F
theorem fill1s(x:ByteArray):fillA [.string ByteArray.empty] [(0,1,.string x)]=some [.string x]:=rfl
def vB(H:AHeap)(u:V4):AHeap:=H.alloc (.cells true false 4 u.l 30)
theorem vB_k(H:AHeap)(u:V4):Keeps H (vB H u):=(Keeps.refl H).alloc _
theorem vB_g(H:AHeap)(u:V4):(vB H u).get H.n=some (.cells true false 4 u.l 30):=AHeap.get_alloc_new H _
theorem tRows_app(a:List (List UInt8))(t:List UInt8):a.map tRow++[[.string ⟨t.toArray⟩]]=(a++[t]).map tRow:=by simp[tRow]
def NS(A:Value)(H:AHeap)(u:V4)(ns:List (List UInt8))(fr:List Value)(K:AHeap):Prop:=
 ∃s x4 x5 x6 x7 x8 x9,fr=[A,ptr H.n 0,.slice none 0 0,s,x4,x5,x6,x7,x8,x9]∧OW 9 1 (vB H u) K s (ns.map tRow)
set_option maxHeartbeats 1000000 in
theorem names1{H:AHeap}{u:V4}{xs:List RV}{L:Ly}{Q:AQ}{A:Value}{fr:List Value}{K:AHeap}(h:LyR H u xs L)(hf:LyFit L)(hm:NS A H u (nm2 L 0) fr K)
 (hk:∀fr K,NS A H u (nm2 L L.p.length) fr K→Q .normal fr K):W Tryz.prog 4 (cpre 1 (cpost 3 f42.body)) Q fr K:=by
 obtain⟨s,x4,x5,x6,x7,x8,x9,rfl,ho⟩:=hm
 have lp:=h.p.len
 have ip:=Sl.is h.p
 simp(disch:=first|assumption|omega)only[f42,cpre,cpost,P3,seval,initFr,clsA]
 rw[W_block]
 refine W_loop2 (fun k fr K=>∃i s xc,fr=[A,ptr H.n 0,.slice none 0 0,s,.int .i64 ((i:Nat):Int),x5,x6,xc,x8,x9]∧OW 9 1 (vB H u) K s ((nm2 L i).map tRow)∧i≤L.p.length∧k=L.p.length-i) L.p.length
  ⟨0,_,_,rfl,ho,by omega,rfl⟩ ?_
 clear ho
 rintro Q' k fr K ⟨i,s,xc,rfl,ho,hi,rfl⟩ hn hx hret
 have gl:=ho.k.at_ (vB_g H u)
 simp only[V4.l]at gl
 by_cases hlt:i<L.p.length
 ·obtain⟨na,ra⟩:=(h.p.keeps ((vB_k H u).trans ho.k)).at_ hlt
  have h1:(0:Int)≤(i:Int):=by omega
  have h2:(i:Int)<((lenS u.p:Nat):Int):=by omega
  have h3:(i:Int)<((L.p.length:Nat):Int):=by omega
  have hw:IntKind.i64.wrap ((i:Int)+1)=((i+1:Nat):Int):=by rw[wrap_i64 (by omega) (by have:=hf.p.1;omega)];simp
  have ts:=take_snoc ([],(0:Int)) hlt
  have l1:=hf.s.1
  have l2:=hf.p.1
  have l3:=hf.g.1
  have l4:=hf.r.1
  have hnl:(nm2 L i).length≤4000000000:=by simp only[nm2,List.length_append,List.length_map,List.length_take];omega
  simp(disch:=first|assumption|omega)only[W_block,P3,seval,initFr,clsA,gl,lp,ra,na,a_load1v,fill1s]
  have ho2:=ho.keeps ((Keeps.refl K).alloc (.cells true false 1 [.string ⟨(L.p.getD i ([],0)).1.toArray⟩] 9))
  refine ho2.appR (b:=16) (Sl.one1 rfl rfl) (by simp only[List.length_map,List.length_cons,List.length_nil];omega) ?_
  intro v' K' ho3 _
  simp(disch:=first|assumption|omega)only[W_block,P3,seval,initFr,clsA,hw]
  refine hn _ _ _ ⟨i+1,_,_,rfl,?_,by omega,rfl⟩ (by omega)
  rw[tRows_app]at ho3
  have e:nm2 L i++[(L.p.getD i ([],0)).1]=nm2 L (i+1):=by simp only[nm2,ts,List.map_append,List.map_cons,List.map_nil,List.append_assoc]
  rw[e]at ho3
  exact ho3
 ·have h3:¬(i:Int)<((L.p.length:Nat):Int):=by omega
  simp(disch:=first|assumption|omega)only[W_block,P3,seval,initFr,clsA,gl,lp]
  refine hx 0 _ _ ?_
  have e:i=L.p.length:=by omega
  subst e
  exact hk _ _ ⟨_,_,_,_,_,_,_,rfl,ho⟩
set_option maxHeartbeats 1000000 in
theorem names2{H:AHeap}{u:V4}{xs:List RV}{L:Ly}{Q:AQ}{A:Value}{fr:List Value}{K:AHeap}(h:LyR H u xs L)(hf:LyFit L)(hm:NS A H u (nm3 L 0) fr K)
 (hk:∀fr K,NS A H u (nm3 L L.g.length) fr K→Q .normal fr K):W Tryz.prog 4 (cpre 1 (cpost 4 f42.body)) Q fr K:=by
 obtain⟨s,x4,x5,x6,x7,x8,x9,rfl,ho⟩:=hm
 have lp:=h.g.len
 have ip:=Sl.is h.g
 simp(disch:=first|assumption|omega)only[f42,cpre,cpost,P3,seval,initFr,clsA]
 rw[W_block]
 refine W_loop2 (fun k fr K=>∃i s xc,fr=[A,ptr H.n 0,.slice none 0 0,s,x4,.int .i64 ((i:Nat):Int),x6,x7,xc,x9]∧OW 9 1 (vB H u) K s ((nm3 L i).map tRow)∧i≤L.g.length∧k=L.g.length-i) L.g.length
  ⟨0,_,_,rfl,ho,by omega,rfl⟩ ?_
 clear ho
 rintro Q' k fr K ⟨i,s,xc,rfl,ho,hi,rfl⟩ hn hx hret
 have gl:=ho.k.at_ (vB_g H u)
 simp only[V4.l]at gl
 by_cases hlt:i<L.g.length
 ·obtain⟨na,ra⟩:=(h.g.keeps ((vB_k H u).trans ho.k)).at_ hlt
  have h1:(0:Int)≤(i:Int):=by omega
  have h2:(i:Int)<((lenS u.g:Nat):Int):=by omega
  have h3:(i:Int)<((L.g.length:Nat):Int):=by omega
  have hw:IntKind.i64.wrap ((i:Int)+1)=((i+1:Nat):Int):=by rw[wrap_i64 (by omega) (by have:=hf.g.1;omega)];simp
  have ts:=take_snoc ([],(0:Int)) hlt
  have l1:=hf.s.1
  have l2:=hf.p.1
  have l3:=hf.g.1
  have l4:=hf.r.1
  have hnl:(nm3 L i).length≤4000000000:=by simp only[nm3,List.length_append,List.length_map,List.length_take];omega
  simp(disch:=first|assumption|omega)only[W_block,P3,seval,initFr,clsA,gl,lp,ra,na,a_load1v,fill1s]
  have ho2:=ho.keeps ((Keeps.refl K).alloc (.cells true false 1 [.string ⟨(L.g.getD i ([],0)).1.toArray⟩] 9))
  refine ho2.appR (b:=16) (Sl.one1 rfl rfl) (by simp only[List.length_map,List.length_cons,List.length_nil];omega) ?_
  intro v' K' ho3 _
  simp(disch:=first|assumption|omega)only[W_block,P3,seval,initFr,clsA,hw]
  refine hn _ _ _ ⟨i+1,_,_,rfl,?_,by omega,rfl⟩ (by omega)
  rw[tRows_app]at ho3
  have e:nm3 L i++[(L.g.getD i ([],0)).1]=nm3 L (i+1):=by simp only[nm3,ts,List.map_append,List.map_cons,List.map_nil,List.append_assoc]
  rw[e]at ho3
  exact ho3
 ·have h3:¬(i:Int)<((L.g.length:Nat):Int):=by omega
  simp(disch:=first|assumption|omega)only[W_block,P3,seval,initFr,clsA,gl,lp]
  refine hx 2 _ _ ?_
  have e:i=L.g.length:=by omega
  subst e
  exact hk _ _ ⟨_,_,_,_,_,_,_,rfl,ho⟩
set_option maxHeartbeats 1000000 in
theorem names3{H:AHeap}{u:V4}{xs:List RV}{L:Ly}{Q:AQ}{A:Value}{fr:List Value}{K:AHeap}(h:LyR H u xs L)(hf:LyFit L)(hm:NS A H u (nm4 L 0) fr K)
 (hk:∀fr K,NS A H u (nm4 L L.r.length) fr K→Q .normal fr K):W Tryz.prog 4 (cpre 1 (cpost 5 f42.body)) Q fr K:=by
 obtain⟨s,x4,x5,x6,x7,x8,x9,rfl,ho⟩:=hm
 have lp:=h.r.len
 rw[h.rlen]at lp
 have ip:=Sl.is h.r
 simp(disch:=first|assumption|omega)only[f42,cpre,cpost,P3,seval,initFr,clsA]
 rw[W_block]
 refine W_loop2 (fun k fr K=>∃i s xc,fr=[A,ptr H.n 0,.slice none 0 0,s,x4,x5,.int .i64 ((i:Nat):Int),x7,x8,xc]∧OW 9 1 (vB H u) K s ((nm4 L i).map tRow)∧i≤L.r.length∧k=L.r.length-i) L.r.length
  ⟨0,_,_,rfl,ho,by omega,rfl⟩ ?_
 clear ho
 rintro Q' k fr K ⟨i,s,xc,rfl,ho,hi,rfl⟩ hn hx hret
 have gl:=ho.k.at_ (vB_g H u)
 simp only[V4.l]at gl
 by_cases hlt:i<L.r.length
 ·obtain⟨na,ra⟩:=RL.at_ (h.r.keeps ((vB_k H u).trans ho.k)) (show i<xs.length by rw[h.rlen];exact hlt)
  have h1:(0:Int)≤(i:Int):=by omega
  have h2:(i:Int)<((lenS u.r:Nat):Int):=by omega
  have h3:(i:Int)<((L.r.length:Nat):Int):=by omega
  have hw:IntKind.i64.wrap ((i:Int)+1)=((i+1:Nat):Int):=by rw[wrap_i64 (by omega) (by have:=hf.r.1;omega)];simp
  have ts:=take_snoc rv0.r hlt
  have l1:=hf.s.1
  have l2:=hf.p.1
  have l3:=hf.g.1
  have l4:=hf.r.1
  have hnl:(nm4 L i).length≤4000000000:=by simp only[nm4,List.length_append,List.length_map,List.length_take];omega
  obtain⟨_,xr⟩:=h.rat hlt
  rw[←xr]at ts
  simp only[RV.row]at ra
  simp(disch:=first|assumption|omega)only[W_block,P3,seval,initFr,clsA,gl,lp,ra,na,a_load1v,fill1s]
  have ho2:=ho.keeps ((Keeps.refl K).alloc (.cells true false 1 [.string ⟨((xs.getD i rv0).r).n.toArray⟩] 9))
  refine ho2.appR (b:=16) (Sl.one1 rfl rfl) (by simp only[List.length_map,List.length_cons,List.length_nil];omega) ?_
  intro v' K' ho3 _
  simp(disch:=first|assumption|omega)only[W_block,P3,seval,initFr,clsA,hw]
  refine hn _ _ _ ⟨i+1,_,_,rfl,?_,by omega,rfl⟩ (by omega)
  rw[tRows_app]at ho3
  have e:nm4 L i++[((xs.getD i rv0).r).n]=nm4 L (i+1):=by simp only[nm4,ts,List.map_append,List.map_cons,List.map_nil,List.append_assoc]
  rw[e]at ho3
  exact ho3
 ·have h3:¬(i:Int)<((L.r.length:Nat):Int):=by omega
  simp(disch:=first|assumption|omega)only[W_block,P3,seval,initFr,clsA,gl,lp]
  refine hx 4 _ _ ?_
  have e:i=L.r.length:=by omega
  subst e
  exact hk _ _ ⟨_,_,_,_,_,_,_,rfl,ho⟩
theorem nm_all(L:Ly):nm3 L 0=nm2 L L.p.length∧nm4 L 0=nm3 L L.g.length∧namesL L=nm4 L L.r.length:=by
 simp[nm2,nm3,nm4,namesL]
set_option maxHeartbeats 1000000 in
theorem t42{H:AHeap}{u:V4}{xs:List RV}{L:Ly}(h:LyR H u xs L)(hf:LyFit L):∃w H',ARun Tryz.prog 4 42 [.agg u.l.toArray] H w H'∧OW 9 1 H H' w ((namesL L).map tRow):=by
 refine walk2 f42_ok f42_n ?_
 intro Q hq1 hq2
 refine W_part 3 (NS (.agg u.l.toArray) H u (nm2 L 0)) (by kernel_rfl) ?_ (fun fr K m=>?_)
 ·intro Q' a _ _
  have ls:=h.s.len
  have is:=Sl.is h.s
  have os:=Sl.one h.s
  have op:=Sl.one h.p
  have og:=Sl.one h.g
  have or:=Sl.one h.r
  have hs:=h.s.keeps (vB_k H u)
  have l1:=hf.s.1
  have ho:OW 9 1 (vB H u) (vB H u) (.slice none 0 0) []:=OW.nil _ _ (Keeps.refl _)
  unfold NS vB at*
  obtain⟨us,up,ug,ur⟩:=u
  simp only[V4.l]at*
  simp(disch:=first|assumption|omega)only[f42,cpre,W_block,P3,seval,initFr,clsA,os,op,og,or]
  refine ho.appR (rows2:=L.s.map tRow) hs (by simp only[List.length_map,List.length_nil];omega) ?_
  intro v' K' ho3 _
  simp(disch:=first|assumption|omega)only[W_block,P3,seval,initFr,clsA]
  refine a _ _ ⟨_,_,_,_,_,_,_,rfl,?_⟩
  simpa[nm2]using ho3
 refine W_part 1 (NS (.agg u.l.toArray) H u (nm3 L 0)) (by kernel_rfl) (fun Q' a _ _=>names1 h hf m (by rw[(nm_all L).1]at a;exact a)) (fun fr K m=>?_)
 refine W_part 1 (NS (.agg u.l.toArray) H u (nm4 L 0)) (by kernel_rfl) (fun Q' a _ _=>names2 h hf m (by rw[(nm_all L).2.1]at a;exact a)) (fun fr K m=>?_)
 refine W_part 1 (NS (.agg u.l.toArray) H u (namesL L)) (by kernel_rfl) (fun Q' a _ _=>names3 h hf m (by rw[(nm_all L).2.2]at a;exact a)) (fun fr K m=>?_)
 obtain⟨s,x4,x5,x6,x7,x8,x9,rfl,ho⟩:=m
 simp(disch:=first|assumption|omega)only[f42,cpost,W_block,P3,seval,initFr,clsA]
 exact hq2 _ _ ⟨_,rfl,ho.base (vB_k H u)⟩
end Go.AM.Fd

namespace Go.AM.Fd
open Nat (reduceAdd reduceEqDiff reduceLT reduceLeDiff reduceMul reduceSub)
open Go.Proofs Go.AM.F
theorem okN_bad1{l:List (List UInt8)}{i:Nat}(h:i<l.length)(hr:rightB (l.getD i [])=false):okN l=false:=by
 simp only[okN,all_not h hr,Bool.false_and]
theorem nodup_take{α:Type}[BEq α][LawfulBEq α]{l:List α}{i:Nat}{d:α}(h:i<l.length)(hc:(l.take i).contains (l.getD i d)=true):¬l.Nodup:=by
 intro hn
 have e:l=l.take i++l.drop i:=(List.take_append_drop i l).symm
 rw[e]at hn
 have h2:=(List.nodup_append.1 hn).2.2
 have h3:l.getD i d∈l.drop i:=by
  rw[List.mem_iff_getElem?]
  exact⟨0,by simp[List.getD,List.getElem?_eq_getElem h]⟩
 exact h2 _ (by simpa using hc) _ h3 rfl
theorem okN_bad2{l:List (List UInt8)}{i:Nat}(h:i<l.length)(hc:(l.take i).contains (l.getD i [])=true):okN l=false:=by
 have:=nodup_take h hc
 simp[okN,this]
theorem ixV_no{n:List UInt8}{l:List (List UInt8)}(h:l.contains n=false):ixV n l= -1:=by
 have:=ixT_mem (n:=n) (l:=l)
 rw[h]at this
 unfold ixV
 cases he:ixT n l with
 |none=>rfl
 |some i=>rw[he]at this;cases this
theorem ixV_yes{n:List UInt8}{l:List (List UInt8)}(h:l.contains n=true):0≤ixV n l:=by
 have:=ixT_mem (n:=n) (l:=l)
 rw[h]at this
 unfold ixV
 cases he:ixT n l with
 |none=>rw[he]at this;cases this
 |some i=>simp
def RF(A:Value)(H:AHeap)(fr:List Value)(K:AHeap):Prop:=∃x3 x4 x5 x6 x7 x8 x9 x10 x11 x12 x13 x14 x15 x16 x17,fr=[A,ptr H.n 0,.bool false,x3,x4,x5,x6,x7,x8,x9,x10,x11,x12,x13,x14,x15,x16,x17]∧Keeps H K
def RM(A:Value)(H:AHeap)(u:V4)(L:Ly)(ok:Prop)(fr:List Value)(K:AHeap):Prop:=
 ∃vn x4 x5 x6 x7 x8 x9 x10 x11 x12 x13 x14 x15 x16 x17,fr=[A,ptr H.n 0,.bool false,vn,x4,x5,x6,x7,x8,x9,x10,x11,x12,x13,x14,x15,x16,x17]∧Keeps (vB H u) K∧OW 9 1 H K vn ((namesL L).map tRow)∧ok
theorem namesL_fit{L:Ly}(hf:LyFit L):∀x∈namesL L,x.length≤9223372036854775807:=by
 intro x hx
 simp only[namesL,List.mem_append,List.mem_map]at hx
 rcases hx with((hx|⟨y,hy,rfl⟩)|⟨y,hy,rfl⟩)|⟨y,hy,rfl⟩
 ·exact hf.s.2 x hx
 ·exact hf.p.2 y hy
 ·exact hf.g.2 y hy
 ·exact(hf.r.2 y hy).1
set_option maxHeartbeats 1000000 in
theorem rmay1{H:AHeap}{u:V4}{L:Ly}{Q:AQ}{A:Value}{fr:List Value}{K:AHeap}(hf:LyFit L)(hs:(namesL L).length≤1000000000)(hm:RM A H u L True fr K)
 (hk:∀fr K,RM A H u L (okN (namesL L)=true) fr K→Q .normal fr K) (hr:mayB L=false→∀fr K,RF A H fr K→Q .ret fr K):W Tryz.prog 4 (cpre 1 (cpost 3 f21.body)) Q fr K:=by
 obtain⟨vn,x4,x5,x6,x7,x8,x9,x10,x11,x12,x13,x14,x15,x16,x17,rfl,hkK,ho,_⟩:=hm
 have ia:=ho.is
 have la:=ho.len
 rw[List.length_map]at la
 have hfit:=namesL_fit hf
 have bad:okN (namesL L)=false→mayB L=false:=fun e=>by simp[mayB,e]
 have ht:TL K vn (namesL L):=ho.sl
 obtain⟨ns,hns⟩:∃ns,ns=namesL L:=⟨_,rfl⟩
 rw[←hns]at hs la hfit bad ht
 have ho':=ho
 rw[←hns]at ho'
 simp(disch:=first|assumption|omega)only[f21,cpre,cpost,P3,seval,initFr,clsA]
 rw[W_block]
 refine W_loop2 (fun k fr K'=>∃i x10 x11,fr=[A,ptr H.n 0,.bool false,vn,.int .i64 ((i:Nat):Int),x5,x6,x7,x8,x9,x10,x11,x12,x13,x14,x15,x16,x17]∧K'=K∧i≤ns.length∧okN (ns.take i)=true∧k=ns.length-i) ns.length
  ⟨0,_,_,rfl,rfl,by omega,by simp[okN],rfl⟩ ?_
 rintro Q' k fr _ ⟨i,x10,x11,rfl,rfl,hi,hp,rfl⟩ hn hx hret
 by_cases hlt:i<ns.length
 ·obtain⟨na,ra⟩:=ht.at_ hlt
  have h0:(0:Int)≤(i:Int):=by omega
  have h1:(i:Int)<((lenS vn:Nat):Int):=by omega
  have h3:(i:Int)<((ns.length:Nat):Int):=by omega
  have hw:IntKind.i64.wrap ((i:Int)+1)=((i+1:Nat):Int):=by rw[wrap_i64 (by omega) (by omega)];simp
  have hlen:=hfit _ (getD_mem (d:=[]) hlt)
  obtain⟨w,s1,s2⟩:=ho'.pre (kd:=.i64) (i:=i) (by rw[List.length_map];omega)
  rw[←List.map_take]at s2
  have hs1:=okN_snoc (ns.take i) (ns.getD i [])
  rw[←take_snoc [] hlt,hp]at hs1
  have b1:=fun e=>okN_bad1 (l:=ns) hlt e
  have b2:=fun e=>okN_bad2 (l:=ns) hlt e
  unfold tRow at ra
  generalize ns.getD i []=n at*
  simp(disch:=first|assumption|omega)only[W_block,P3,seval,initFr,clsA,la,ra,na,a_load1v]
  refine callK (t43 _ n hlen) ?_
  rintro _ _ ⟨rfl,rfl⟩
  cases hrn:rightB n with
  |false=>
   simp(disch:=first|assumption|omega)only[W_block,P3,seval,initFr,clsA]
   exact hret _ _ (hr (bad (b1 hrn)) _ _ ⟨_,_,_,_,_,_,_,_,_,_,_,_,_,_,_,rfl,(vB_k H u).trans hkK⟩)
  |true=>
  simp(disch:=first|assumption|omega)only[W_block,P3,seval,initFr,clsA,s1,la,ra,na,a_load1v]
  refine callK (t44 s2 (by rw[List.length_take];omega) n) ?_
  rintro _ _ ⟨rfl,rfl⟩
  cases hc:(ns.take i).contains n with
  |true=>
   have c0:=ixV_yes hc
   simp(disch:=first|assumption|omega)only[W_block,P3,seval,initFr,clsA]
   exact hret _ _ (hr (bad (b2 hc)) _ _ ⟨_,_,_,_,_,_,_,_,_,_,_,_,_,_,_,rfl,(vB_k H u).trans hkK⟩)
  |false=>
   have c0:=ixV_no hc
   rw[c0]
   have c1:¬(0:Int)≤ -1:=by omega
   simp(disch:=first|assumption|omega)only[W_block,P3,seval,initFr,clsA,hw]
   exact hn _ _ _ ⟨i+1,_,_,rfl,rfl,by omega,by rw[hs1,hrn,hc];rfl,rfl⟩ (by omega)
 ·have h3:¬(i:Int)<((ns.length:Nat):Int):=by omega
  simp(disch:=first|assumption|omega)only[W_block,P3,seval,initFr,clsA,la]
  refine hx 0 _ _ ?_
  rw[List.take_of_length_le (by omega),hns]at hp
  exact hk _ _ ⟨_,_,_,_,_,_,_,_,_,_,_,_,_,_,_,rfl,hkK,ho,hp⟩
end Go.AM.Fd

namespace Go.AM.Fd
open Nat (reduceAdd reduceEqDiff reduceLT reduceLeDiff reduceMul reduceSub)
open Go.Proofs Go.AM.F
def C2(L:Ly):Prop:=okN (namesL L)=true∧L.p.all (fun x=>inB L.s.length x.2)=true
def C3(L:Ly):Prop:=C2 L∧L.g.all (fun x=>inB L.s.length x.2)=true
set_option maxHeartbeats 1000000 in
theorem rmay2{H:AHeap}{u:V4}{xs:List RV}{L:Ly}{Q:AQ}{A:Value}{fr:List Value}{K:AHeap}(h:LyR H u xs L)(hf:LyFit L)(hm:RM A H u L (okN (namesL L)=true) fr K)
 (hk:∀fr K,RM A H u L (C2 L) fr K→Q .normal fr K) (hr:mayB L=false→∀fr K,RF A H fr K→Q .ret fr K):W Tryz.prog 4 (cpre 1 (cpost 4 f21.body)) Q fr K:=by
 obtain⟨vn,x4,x5,x6,x7,x8,x9,x10,x11,x12,x13,x14,x15,x16,x17,rfl,hkK,ho,hpre⟩:=hm
 have lp:=h.p.len
 have ls:=h.s.len
 have ip:=Sl.is h.p
 have is:=Sl.is h.s
 have bad:L.p.all (fun x=>inB L.s.length x.2)=false→mayB L=false:=fun e=>by simp only[mayB,e];simp
 simp(disch:=first|assumption|omega)only[f21,cpre,cpost,P3,seval,initFr,clsA]
 rw[W_block]
 refine W_loop2 (fun k fr K=>∃i xc xd,fr=[A,ptr H.n 0,.bool false,vn,x4,.int .i64 ((i:Nat):Int),x6,x7,x8,x9,x10,x11,xc,xd,x14,x15,x16,x17]∧Keeps (vB H u) K∧OW 9 1 H K vn ((namesL L).map tRow)∧i≤L.p.length∧(L.p.take i).all (fun x=>inB L.s.length x.2)=true∧k=L.p.length-i) L.p.length
  ⟨0,_,_,rfl,hkK,ho,by omega,by simp,rfl⟩ ?_
 clear hkK ho
 rintro Q' k fr K ⟨i,xc,xd,rfl,hkK,ho,hi,hp,rfl⟩ hn hx hret
 have gl:=hkK.at_ (vB_g H u)
 simp only[V4.l]at gl
 by_cases hlt:i<L.p.length
 ·obtain⟨na,ra⟩:=(h.p.keeps ((vB_k H u).trans hkK)).at_ hlt
  have h1:(0:Int)≤(i:Int):=by omega
  have h2:(i:Int)<((lenS u.p:Nat):Int):=by omega
  have h3:(i:Int)<((L.p.length:Nat):Int):=by omega
  have hw:IntKind.i64.wrap ((i:Int)+1)=((i+1:Nat):Int):=by rw[wrap_i64 (by omega) (by have:=hf.p.1;omega)];simp
  have stop:=fun e=>all_not (p:=fun x:List UInt8×Int=>inB L.s.length x.2) (d:=([],0)) hlt e
  have go:=fun e=>all_take (p:=fun x:List UInt8×Int=>inB L.s.length x.2) (d:=([],0)) hlt hp e
  generalize L.p.getD i ([],0)=y at*
  have o1:one1 (Value.int .i64 y.2)=True:=by simp[one1,one_int]
  have gl2:=((Keeps.refl K).alloc (.cells true false 1 [.int .i64 y.2] 3)).at_ gl
  have hk2:=hkK.trans ((Keeps.refl K).alloc (.cells true false 1 [.int .i64 y.2] 3))
  have ho2:=ho.keeps ((Keeps.refl K).alloc (.cells true false 1 [.int .i64 y.2] 3))
  have hln:=AHeap.get_lt gl
  have hil:IL (K.alloc (.cells true false 1 [.int .i64 y.2] 3)) (slc K.n 0 1 1) [y.2]:=
   ⟨⟨_,_,rfl⟩,by simp[iRow],by rw[elems_new rfl rfl];rfl⟩
  simp(disch:=first|assumption|omega)only[W_block,P3,seval,initFr,clsA,gl,gl2,lp,ls,ra,na,a_load1v,o1]
  refine callQ (t45 _ hil (by simp)) ?_
  have e:(decide ([y.2].length≤16)&&[y.2].all (inB (L.s.length:Nat)))=inB L.s.length y.2:=by simp
  rw[e]
  cases hb:inB L.s.length y.2 with
  |false=>
   simp(disch:=first|assumption|omega)only[W_block,P3,seval,initFr,clsA]
   exact hret _ _ (hr (bad (stop hb)) _ _ ⟨_,_,_,_,_,_,_,_,_,_,_,_,_,_,_,rfl,(vB_k H u).trans hk2⟩)
  |true=>
   simp(disch:=first|assumption|omega)only[W_block,P3,seval,initFr,clsA,hw]
   exact hn _ _ _ ⟨i+1,_,_,rfl,hk2,ho2,by omega,go hb,rfl⟩ (by omega)
 ·have h3:¬(i:Int)<((L.p.length:Nat):Int):=by omega
  simp(disch:=first|assumption|omega)only[W_block,P3,seval,initFr,clsA,gl,lp]
  refine hx 2 _ _ ?_
  rw[List.take_of_length_le (by omega)]at hp
  exact hk _ _ ⟨_,_,_,_,_,_,_,_,_,_,_,_,_,_,_,rfl,hkK,ho,hpre,hp⟩
set_option maxHeartbeats 1000000 in
theorem rmay3{H:AHeap}{u:V4}{xs:List RV}{L:Ly}{Q:AQ}{A:Value}{fr:List Value}{K:AHeap}(h:LyR H u xs L)(hf:LyFit L)(hm:RM A H u L (C2 L) fr K)
 (hk:∀fr K,RM A H u L (C3 L) fr K→Q .normal fr K) (hr:mayB L=false→∀fr K,RF A H fr K→Q .ret fr K):W Tryz.prog 4 (cpre 1 (cpost 5 f21.body)) Q fr K:=by
 obtain⟨vn,x4,x5,x6,x7,x8,x9,x10,x11,x12,x13,x14,x15,x16,x17,rfl,hkK,ho,hpre⟩:=hm
 have lp:=h.g.len
 have ls:=h.s.len
 have ip:=Sl.is h.g
 have is:=Sl.is h.s
 have bad:L.g.all (fun x=>inB L.s.length x.2)=false→mayB L=false:=fun e=>by simp only[mayB,e];simp
 simp(disch:=first|assumption|omega)only[f21,cpre,cpost,P3,seval,initFr,clsA]
 rw[W_block]
 refine W_loop2 (fun k fr K=>∃i xc xd,fr=[A,ptr H.n 0,.bool false,vn,x4,x5,.int .i64 ((i:Nat):Int),x7,x8,x9,x10,x11,x12,x13,xc,xd,x16,x17]∧Keeps (vB H u) K∧OW 9 1 H K vn ((namesL L).map tRow)∧i≤L.g.length∧(L.g.take i).all (fun x=>inB L.s.length x.2)=true∧k=L.g.length-i) L.g.length
  ⟨0,_,_,rfl,hkK,ho,by omega,by simp,rfl⟩ ?_
 clear hkK ho
 rintro Q' k fr K ⟨i,xc,xd,rfl,hkK,ho,hi,hp,rfl⟩ hn hx hret
 have gl:=hkK.at_ (vB_g H u)
 simp only[V4.l]at gl
 by_cases hlt:i<L.g.length
 ·obtain⟨na,ra⟩:=(h.g.keeps ((vB_k H u).trans hkK)).at_ hlt
  have h1:(0:Int)≤(i:Int):=by omega
  have h2:(i:Int)<((lenS u.g:Nat):Int):=by omega
  have h3:(i:Int)<((L.g.length:Nat):Int):=by omega
  have hw:IntKind.i64.wrap ((i:Int)+1)=((i+1:Nat):Int):=by rw[wrap_i64 (by omega) (by have:=hf.g.1;omega)];simp
  have stop:=fun e=>all_not (p:=fun x:List UInt8×Int=>inB L.s.length x.2) (d:=([],0)) hlt e
  have go:=fun e=>all_take (p:=fun x:List UInt8×Int=>inB L.s.length x.2) (d:=([],0)) hlt hp e
  generalize L.g.getD i ([],0)=y at*
  have o1:one1 (Value.int .i64 y.2)=True:=by simp[one1,one_int]
  have gl2:=((Keeps.refl K).alloc (.cells true false 1 [.int .i64 y.2] 3)).at_ gl
  have hk2:=hkK.trans ((Keeps.refl K).alloc (.cells true false 1 [.int .i64 y.2] 3))
  have ho2:=ho.keeps ((Keeps.refl K).alloc (.cells true false 1 [.int .i64 y.2] 3))
  have hln:=AHeap.get_lt gl
  have hil:IL (K.alloc (.cells true false 1 [.int .i64 y.2] 3)) (slc K.n 0 1 1) [y.2]:=
   ⟨⟨_,_,rfl⟩,by simp[iRow],by rw[elems_new rfl rfl];rfl⟩
  simp(disch:=first|assumption|omega)only[W_block,P3,seval,initFr,clsA,gl,gl2,lp,ls,ra,na,a_load1v,o1]
  refine callQ (t45 _ hil (by simp)) ?_
  have e:(decide ([y.2].length≤16)&&[y.2].all (inB (L.s.length:Nat)))=inB L.s.length y.2:=by simp
  rw[e]
  cases hb:inB L.s.length y.2 with
  |false=>
   simp(disch:=first|assumption|omega)only[W_block,P3,seval,initFr,clsA]
   exact hret _ _ (hr (bad (stop hb)) _ _ ⟨_,_,_,_,_,_,_,_,_,_,_,_,_,_,_,rfl,(vB_k H u).trans hk2⟩)
  |true=>
   simp(disch:=first|assumption|omega)only[W_block,P3,seval,initFr,clsA,hw]
   exact hn _ _ _ ⟨i+1,_,_,rfl,hk2,ho2,by omega,go hb,rfl⟩ (by omega)
 ·have h3:¬(i:Int)<((L.g.length:Nat):Int):=by omega
  simp(disch:=first|assumption|omega)only[W_block,P3,seval,initFr,clsA,gl,lp]
  refine hx 4 _ _ ?_
  rw[List.take_of_length_le (by omega)]at hp
  exact hk _ _ ⟨_,_,_,_,_,_,_,_,_,_,_,_,_,_,_,rfl,hkK,ho,hpre,hp⟩
end Go.AM.Fd

namespace Go.AM.Fd
open Nat (reduceAdd reduceEqDiff reduceLT reduceLeDiff reduceMul reduceSub)
open Go.Proofs Go.AM.F
theorem roB_at{L:Ly}{i:Nat}(hi:i<L.r.length)(h:roB L (L.r.getD i rv0.r)=false):mayB L=false:=by
 have:=all_not (p:=roB L) (d:=rv0.r) hi h
 simp only[mayB,this];simp
set_option maxHeartbeats 4000000 in
theorem rmay4{H:AHeap}{u:V4}{xs:List RV}{L:Ly}{Q:AQ}{A:Value}{fr:List Value}{K:AHeap}(h:LyR H u xs L)(hf:LyFit L)(hm:RM A H u L (C3 L) fr K)
 (hk:∀fr K,RM A H u L (C3 L∧L.r.all (roB L)=true) fr K→Q .normal fr K) (hr:mayB L=false→∀fr K,RF A H fr K→Q .ret fr K):W Tryz.prog 4 (cpre 1 (cpost 6 f21.body)) Q fr K:=by
 obtain⟨vn,x4,x5,x6,x7,x8,x9,x10,x11,x12,x13,x14,x15,x16,x17,rfl,hkK,ho,hpre⟩:=hm
 have lp:=h.p.len
 have ls:=h.s.len
 have lg:=h.g.len
 have lr:=h.r.len
 rw[h.rlen]at lr
 have ip:=Sl.is h.p
 have is:=Sl.is h.s
 have ig:=Sl.is h.g
 have ir:=Sl.is h.r
 simp(disch:=first|assumption|omega)only[f21,cpre,cpost,P3,seval,initFr,clsA]
 rw[W_block]
 refine W_loop2 (fun k fr K=>∃i x8 xc xd,fr=[A,ptr H.n 0,.bool false,vn,x4,x5,x6,.int .i64 ((i:Nat):Int),x8,x9,x10,x11,x12,x13,x14,x15,xc,xd]∧Keeps (vB H u) K∧OW 9 1 H K vn ((namesL L).map tRow)∧i≤L.r.length∧(L.r.take i).all (roB L)=true∧k=L.r.length-i) L.r.length
  ⟨0,_,_,_,rfl,hkK,ho,by omega,by simp,rfl⟩ ?_
 clear hkK ho
 rintro Q' k fr K ⟨i,x8,xc,xd,rfl,hkK,ho,hi,hp,rfl⟩ hn hx hret
 have gl:=hkK.at_ (vB_g H u)
 simp only[V4.l]at gl
 by_cases hlt:i<L.r.length
 ·have hlt':i<xs.length:=by rw[h.rlen];exact hlt
  obtain⟨na,ra⟩:=RL.at_ (h.r.keeps ((vB_k H u).trans hkK)) hlt'
  obtain⟨xok,xr⟩:=h.rat hlt
  have hbl:=Sl.bn_le (h.r.keeps ((vB_k H u).trans hkK)) (by intro e;simp at e;rw[e]at hlt';simp at hlt') (by omega)
  have h1:(0:Int)≤(i:Int):=by omega
  have h2:(i:Int)<((lenS u.r:Nat):Int):=by omega
  have h3:(i:Int)<((L.r.length:Nat):Int):=by omega
  have hw:IntKind.i64.wrap ((i:Int)+1)=((i+1:Nat):Int):=by rw[wrap_i64 (by omega) (by have:=hf.r.1;omega)];simp
  have hlen:=hf.r.2 _ (getD_mem (d:=rv0.r) hlt)
  have stop:=roB_at hlt
  have go:=fun e=>all_take (p:=roB L) (d:=rv0.r) hlt hp e
  rw[←xr]at stop go hlen
  clear xr
  generalize xs.getD i rv0=y at*
  simp only[RV.row]at ra
  have iP:=Sl.is xok.p
  have iQ:=Sl.is xok.q
  have iO:=Sl.is xok.o
  have iF:=Sl.is xok.f
  have o1:one1 (Value.int .i64 y.r.g)=True:=by simp[one1,one_int]
  have o2:one1 (Value.string ⟨y.r.n.toArray⟩)=True:=by simp[one1,one_str]
  have o3:=one_isS iP
  have o4:=one_isS iQ
  have o5:=one_isS iO
  have o6:=one_isS iF
  obtain⟨row,hrow⟩:∃row,row=[.string ⟨y.r.n.toArray⟩,.int .i64 y.r.g,y.vp,y.vq,y.vo,y.vf]:=⟨_,rfl⟩
  have k1:=(Keeps.refl K).alloc (.cells true false 6 row 44)
  have gv1:=AHeap.get_alloc_new K (.cells true false 6 row 44)
  obtain⟨K1,hK1⟩:∃X,X=K.alloc (.cells true false 6 row 44):=⟨_,rfl⟩
  have n1:K1.n=K.n+1:=by rw[hK1];rfl
  have k2:=(Keeps.refl K1).alloc (.cells true false 1 [.int .i64 y.r.g] 3)
  obtain⟨K2,hK2⟩:∃X,X=K1.alloc (.cells true false 1 [.int .i64 y.r.g] 3):=⟨_,rfl⟩
  have n2:K2.n=K1.n+1:=by rw[hK2];rfl
  have hil:IL K2 (slc K1.n 0 1 1) [y.r.g]:=by
   rw[hK2];exact⟨⟨_,_,rfl⟩,by simp[iRow],by rw[elems_new rfl rfl];rfl⟩
  rw[←hK1]at k1 gv1
  rw[←hK2]at k2
  have gv2:=k2.at_ gv1
  have gl2:=(k1.trans k2).at_ gl
  have hk2:=hkK.trans (k1.trans k2)
  have ho2:=ho.keeps (k1.trans k2)
  have xk:=xok.keeps ((vB_k H u).trans hk2)
  have fin:∀{X:AHeap} {x8 xc xd:Value},Keeps (vB H u) X→roB L y.r=false→Q' .ret [A,ptr H.n 0,.bool false,vn,x4,x5,x6,.int .i64 ((i:Nat):Int),x8,x9,x10,x11,x12,x13,x14,x15,xc,xd] X:=
   fun hX e=>hret _ _ (hr (stop e) _ _ ⟨_,_,_,_,_,_,_,_,_,_,_,_,_,_,_,rfl,(vB_k H u).trans hX⟩)
  have hln:=AHeap.get_lt gl
  subst hrow
  simp(disch:=first|assumption|omega|(simp only[LN]<;>omega)|(simp(disch:=first|assumption|omega|(simp only[LN]<;>omega))only[row_alloc,row_set];assumption))only[W_block,P3,seval,initFr,clsA,gl,lr,lg,ra,na,a_loadnvf,o1,o2,o3,o4,o5,o6]
  rw[←hK1,←hK2,←n1]
  refine callQ (t45 _ hil (by simp)) ?_
  have e:(decide ([y.r.g].length≤16)&&[y.r.g].all (inB (L.g.length:Nat)))=inB L.g.length y.r.g:=by simp
  rw[e]
  have lP:=hlen.2.1
  have lQ:=hlen.2.2.1
  have lO:=hlen.2.2.2.1
  have lF:=hlen.2.2.2.2
  have e1:roB L y.r=(inB L.g.length y.r.g&&((decide (y.r.path.length≤16)&&y.r.path.all (inB L.s.length))&&((decide (y.r.ov.length≤16)&&y.r.ov.all (inB L.s.length))&&(needB L.p.length y.r.pts&&needB L.p.length y.r.fl)))):=by
   simp only[roB]
   cases inB L.g.length y.r.g<;>cases decide (y.r.path.length≤16)<;>cases decide (y.r.ov.length≤16)<;>cases y.r.path.all (inB L.s.length)<;>cases y.r.ov.all (inB L.s.length)<;>rfl
  cases hb:inB L.g.length y.r.g with
  |false=>
   simp(disch:=first|assumption|omega)only[W_block,P3,seval,initFr,clsA]
   exact fin hk2 (by rw[e1,hb];rfl)
  |true=>
  simp(disch:=first|assumption|omega)only[W_block,P3,seval,initFr,clsA,gv2,gl2,ls]
  refine callQ (t45 _ xk.p lP) ?_
  cases hbp:(decide (y.r.path.length≤16)&&y.r.path.all (inB (L.s.length:Nat)))with
  |false=>
   simp(disch:=first|assumption|omega)only[W_block,P3,seval,initFr,clsA]
   exact fin hk2 (by rw[e1,hbp];simp)
  |true=>
  simp(disch:=first|assumption|omega)only[W_block,P3,seval,initFr,clsA,gv2,gl2,ls]
  refine callQ (t45 _ xk.o lO) ?_
  cases hbo:(decide (y.r.ov.length≤16)&&y.r.ov.all (inB (L.s.length:Nat)))with
  |false=>
   simp(disch:=first|assumption|omega)only[W_block,P3,seval,initFr,clsA]
   exact fin hk2 (by rw[e1,hbo];simp)
  |true=>
  simp(disch:=first|assumption|omega)only[W_block,P3,seval,initFr,clsA,gv2,gl2,ls]
  refine callK (t46 xk.q lQ) ?_
  rintro wq K3 ⟨hq,k3⟩
  have gl3:=k3.at_ gl2
  have gv3:=k3.at_ gv2
  have hln2:=AHeap.get_lt gl2
  have xk3:=xk.keeps k3
  simp(disch:=first|assumption|omega)only[W_block,P3,seval,initFr,clsA,gl2,gl3,gv3,lp]
  refine callK (t45 _ hq (by rw[List.length_map,List.length_take];omega)) ?_
  rintro _ X ⟨rfl,hX⟩
  rw[hX,needs_in]
  cases hbq:needB L.p.length y.r.pts with
  |false=>
   simp(disch:=first|assumption|omega)only[W_block,P3,seval,initFr,clsA]
   exact fin (hk2.trans k3) (by rw[e1,hbq];simp)
  |true=>
  simp(disch:=first|assumption|omega)only[W_block,P3,seval,initFr,clsA,gl3,gv3,lp]
  refine callK (t46 xk3.f lF) ?_
  rintro wf K4 ⟨hfl,k4⟩
  have gl4:=k4.at_ gl3
  have hln3:=AHeap.get_lt gl3
  simp(disch:=first|assumption|omega)only[W_block,P3,seval,initFr,clsA,gl3,gl4,lp]
  refine callK (t45 _ hfl (by rw[List.length_map,List.length_take];omega)) ?_
  rintro _ X ⟨rfl,hX⟩
  rw[hX,needs_in]
  have hk4:=(hk2.trans k3).trans k4
  cases hbf:needB L.p.length y.r.fl with
  |false=>
   simp(disch:=first|assumption|omega)only[W_block,P3,seval,initFr,clsA]
   exact fin hk4 (by rw[e1,hbf];simp)
  |true=>
   simp(disch:=first|assumption|omega)only[W_block,P3,seval,initFr,clsA,hw]
   exact hn _ _ _ ⟨i+1,_,_,_,rfl,hk4,(ho2.keeps k3).keeps k4,by omega,go (by rw[e1,hb,hbp,hbo,hbq,hbf];rfl),rfl⟩ (by omega)
 ·have h3:¬(i:Int)<((L.r.length:Nat):Int):=by omega
  simp(disch:=first|assumption|omega)only[W_block,P3,seval,initFr,clsA,gl,lr]
  refine hx 6 _ _ ?_
  rw[List.take_of_length_le (by omega)]at hp
  exact hk _ _ ⟨_,_,_,_,_,_,_,_,_,_,_,_,_,_,_,rfl,hkK,ho,hpre,hp⟩
set_option maxHeartbeats 1000000 in
theorem t21{H:AHeap}{u:V4}{xs:List RV}{L:Ly}(h:LyR H u xs L)(hf:LyFit L):∃w H',ARun Tryz.prog 4 21 [.agg u.l.toArray] H w H'∧w=.bool (mayB L)∧H'=H:=by
 refine gcb ?_
 refine walk2 f21_ok f21_n ?_
 intro Q hq1 hq2
 have os:=Sl.one h.s
 have op:=Sl.one h.p
 have og:=Sl.one h.g
 have or:=Sl.one h.r
 have kv:=vB_k H u
 have hv:=h.keeps kv
 have gv:=vB_g H u
 cases hfu:fullB L with
 |true=>
  have hm:mayB L=false:=by simp[mayB,hfu]
  rw[hm]at hq2
  unfold vB at*
  obtain⟨us,up,ug,ur⟩:=u
  simp only[V4.l]at*
  simp(disch:=first|assumption|omega|(simp only[LN]<;>omega)|(simp(disch:=first|assumption|omega|(simp only[LN]<;>omega))only[row_alloc,row_set];assumption))only[f21,W_block,P3,seval,initFr,clsA,os,op,og,or]
  refine callK (t28 hv) ?_
  rintro _ X ⟨rfl,rfl⟩
  rw[hfu]
  simp(disch:=first|assumption|omega)only[W_block,P3,seval,initFr,clsA]
  exact hq2 _ _ ⟨_,rfl,rfl,kv⟩
 |false=>
  have hle:(namesL L).length≤1000000000:=by
   simp only[fullB,Bool.or_eq_false_iff,decide_eq_false_iff_not]at hfu
   simp only[namesL,List.length_append,List.length_map];omega
  have ret:mayB L=false→∀fr K,RF (.agg u.l.toArray) H fr K→Q .ret fr K:=by
   rintro e fr K ⟨x3,x4,x5,x6,x7,x8,x9,x10,x11,x12,x13,x14,x15,x16,x17,rfl,k⟩
   exact hq2 _ _ ⟨_,rfl,by rw[e];rfl,k⟩
  refine W_part 3 (RM (.agg u.l.toArray) H u L True) (by kernel_rfl) ?_ (fun fr K m=>?_)
  ·intro Q' a _ _
   unfold RM vB at*
   obtain⟨us,up,ug,ur⟩:=u
   simp only[V4.l]at*
   simp(disch:=first|assumption|omega|(simp only[LN]<;>omega)|(simp(disch:=first|assumption|omega|(simp only[LN]<;>omega))only[row_alloc,row_set];assumption))only[f21,cpre,W_block,P3,seval,initFr,clsA,os,op,og,or]
   refine callK (t28 hv) ?_
   rintro _ X ⟨rfl,hX⟩
   rw[hX,hfu]
   simp(disch:=first|assumption|omega|(simp only[LN]<;>omega)|(simp(disch:=first|assumption|omega|(simp only[LN]<;>omega))only[row_alloc,row_set];assumption))only[W_block,P3,seval,initFr,clsA]
   refine callK (t42 hv hf) ?_
   rintro wn K ho
   simp(disch:=first|assumption|omega)only[W_block,P3,seval,initFr,clsA]
   exact a _ _ ⟨_,_,_,_,_,_,_,_,_,_,_,_,_,_,_,rfl,ho.k,ho.base kv,trivial⟩
  refine W_part 1 (RM (.agg u.l.toArray) H u L (okN (namesL L)=true)) (by kernel_rfl) (fun Q' a _ b=>rmay1 hf hle m a (fun e fr K k=>b _ _ (ret e fr K k))) (fun fr K m=>?_)
  refine W_part 1 (RM (.agg u.l.toArray) H u L (C2 L)) (by kernel_rfl) (fun Q' a _ b=>rmay2 h hf m a (fun e fr K k=>b _ _ (ret e fr K k))) (fun fr K m=>?_)
  refine W_part 1 (RM (.agg u.l.toArray) H u L (C3 L)) (by kernel_rfl) (fun Q' a _ b=>rmay3 h hf m a (fun e fr K k=>b _ _ (ret e fr K k))) (fun fr K m=>?_)
  refine W_part 1 (RM (.agg u.l.toArray) H u L (C3 L∧L.r.all (roB L)=true)) (by kernel_rfl) (fun Q' a _ b=>rmay4 h hf m a (fun e fr K k=>b _ _ (ret e fr K k))) (fun fr K m=>?_)
  obtain⟨vn,x4,x5,x6,x7,x8,x9,x10,x11,x12,x13,x14,x15,x16,x17,rfl,hkK,ho,⟨⟨c1,c2⟩,c3⟩,c4⟩:=m
  simp(disch:=first|assumption|omega)only[f21,cpost,W_block,P3,seval,initFr,clsA]
  refine hq2 _ _ ⟨_,rfl,?_,kv.trans hkK⟩
  rw[mayB,hfu,c1,c2,c3,c4];rfl
end Go.AM.Fd

namespace Go.AM.Fd
open Nat (reduceAdd reduceEqDiff reduceLT reduceLeDiff reduceMul reduceSub)
open Go.Proofs Go.AM.F
structure LyIn (T:Nat) (L:Ly):Prop where
 s:L.s.length≤T∧∀x∈L.s,x.length≤T
 p:L.p.length≤T∧∀x∈L.p,x.1.length≤T
 g:L.g.length≤T∧∀x∈L.g,x.1.length≤T
 r:L.r.length≤T∧∀x∈L.r,x.n.length≤T∧x.path.length≤T∧x.pts.length≤T∧x.ov.length≤T∧x.fl.length≤T
def WG(A:Value)(H:AHeap)(u:V4)(top:Nat)(fr:List Value)(K:AHeap):Prop:=
 ∃(n:Int) (x5 x6 x7 x8 x9 x10 x11 x12 x13 x14:Value),fr=[A,.int .i64 ((top:Nat):Int),ptr H.n 0,.int .i64 0,.int .i64 n,x5,x6,x7,x8,x9,x10,x11,x12,x13,x14]∧Keeps (vB H u) K
set_option maxHeartbeats 1000000 in
theorem wgt1{H:AHeap}{u:V4}{xs:List RV}{L:Ly}{Q:AQ}{A:Value}{fr:List Value}{K:AHeap}{top:Nat}(ht:top≤1000000)(h:LyR H u xs L)(hf:LyIn 9223372036854775807 L)(hm:WG A H u top fr K)
 (hk:∀fr K,WG A H u top fr K→Q .normal fr K):W Tryz.prog 4 (cpre 1 (cpost 2 f16.body)) Q fr K:=by
 obtain⟨n0,x5,x6,x7,x8,x9,x10,x11,x12,x13,x14,rfl,hkK⟩:=hm
 have lp:=h.s.len
 have ip:=Sl.is h.s
 simp(disch:=first|assumption|omega)only[f16,cpre,cpost,P3,seval,initFr,clsA]
 rw[W_block]
 refine W_loop2 (fun k fr K=>∃i n xc,fr=[A,.int .i64 ((top:Nat):Int),ptr H.n 0,.int .i64 0,.int .i64 n,.int .i64 ((i:Nat):Int),x6,x7,x8,x9,xc,x11,x12,x13,x14]∧Keeps (vB H u) K∧i≤L.s.length∧k=L.s.length-i) L.s.length
  ⟨0,n0,_,rfl,hkK,by omega,rfl⟩ ?_
 clear hkK
 rintro Q' k fr K ⟨i,n,xc,rfl,hkK,hi,rfl⟩ hn hx hret
 have gl:=hkK.at_ (vB_g H u)
 simp only[V4.l]at gl
 by_cases hlt:i<L.s.length
 ·have h3:(i:Int)<((L.s.length:Nat):Int):=by omega
  by_cases htn:n≤((top:Nat):Int)
  ·obtain⟨na,ra⟩:=(h.s.keeps ((vB_k H u).trans hkK)).at_ hlt
   have h1:(0:Int)≤(i:Int):=by omega
   have h2:(i:Int)<((lenS u.s:Nat):Int):=by omega
   have h4:=htn
   have hlf:=hf.s.1
   have hw:IntKind.i64.wrap ((i:Int)+1)=((i+1:Nat):Int):=by rw[wrap_i64 (by omega) (by omega)];simp
   unfold tRow at ra
   simp(disch:=first|assumption|omega)only[W_block,P3,seval,initFr,clsA,gl,lp,ra,na,a_load1v,a_lens,hw]
   refine hn _ _ _ ⟨i+1,_,_,rfl,hkK,by omega,rfl⟩ (by omega)
  ·have h4:=htn
   simp(disch:=first|assumption|omega)only[W_block,P3,seval,initFr,clsA,gl,lp]
   refine hx 0 _ _ ?_
   exact hk _ _ ⟨n,_,_,_,_,_,_,_,_,_,_,rfl,hkK⟩
 ·have h3:¬(i:Int)<((L.s.length:Nat):Int):=by omega
  simp(disch:=first|assumption|omega)only[W_block,P3,seval,initFr,clsA,gl,lp]
  refine hx 0 _ _ ?_
  exact hk _ _ ⟨n,_,_,_,_,_,_,_,_,_,_,rfl,hkK⟩
set_option maxHeartbeats 1000000 in
theorem wgt2{H:AHeap}{u:V4}{xs:List RV}{L:Ly}{Q:AQ}{A:Value}{fr:List Value}{K:AHeap}{top:Nat}(ht:top≤1000000)(h:LyR H u xs L)(hf:LyIn 9223372036854775807 L)(hm:WG A H u top fr K)
 (hk:∀fr K,WG A H u top fr K→Q .normal fr K):W Tryz.prog 4 (cpre 1 (cpost 3 f16.body)) Q fr K:=by
 obtain⟨n0,x5,x6,x7,x8,x9,x10,x11,x12,x13,x14,rfl,hkK⟩:=hm
 have lp:=h.p.len
 have ip:=Sl.is h.p
 simp(disch:=first|assumption|omega)only[f16,cpre,cpost,P3,seval,initFr,clsA]
 rw[W_block]
 refine W_loop2 (fun k fr K=>∃i n xc,fr=[A,.int .i64 ((top:Nat):Int),ptr H.n 0,.int .i64 0,.int .i64 n,x5,.int .i64 ((i:Nat):Int),x7,x8,x9,x10,xc,x12,x13,x14]∧Keeps (vB H u) K∧i≤L.p.length∧k=L.p.length-i) L.p.length
  ⟨0,n0,_,rfl,hkK,by omega,rfl⟩ ?_
 clear hkK
 rintro Q' k fr K ⟨i,n,xc,rfl,hkK,hi,rfl⟩ hn hx hret
 have gl:=hkK.at_ (vB_g H u)
 simp only[V4.l]at gl
 by_cases hlt:i<L.p.length
 ·have h3:(i:Int)<((L.p.length:Nat):Int):=by omega
  by_cases htn:n≤((top:Nat):Int)
  ·obtain⟨na,ra⟩:=(h.p.keeps ((vB_k H u).trans hkK)).at_ hlt
   have h1:(0:Int)≤(i:Int):=by omega
   have h2:(i:Int)<((lenS u.p:Nat):Int):=by omega
   have h4:=htn
   have hlf:=hf.p.1
   have hw:IntKind.i64.wrap ((i:Int)+1)=((i+1:Nat):Int):=by rw[wrap_i64 (by omega) (by omega)];simp
   simp(disch:=first|assumption|omega)only[W_block,P3,seval,initFr,clsA,gl,lp,ra,na,a_load1v,a_lens,hw]
   refine hn _ _ _ ⟨i+1,_,_,rfl,hkK,by omega,rfl⟩ (by omega)
  ·have h4:=htn
   simp(disch:=first|assumption|omega)only[W_block,P3,seval,initFr,clsA,gl,lp]
   refine hx 2 _ _ ?_
   exact hk _ _ ⟨n,_,_,_,_,_,_,_,_,_,_,rfl,hkK⟩
 ·have h3:¬(i:Int)<((L.p.length:Nat):Int):=by omega
  simp(disch:=first|assumption|omega)only[W_block,P3,seval,initFr,clsA,gl,lp]
  refine hx 2 _ _ ?_
  exact hk _ _ ⟨n,_,_,_,_,_,_,_,_,_,_,rfl,hkK⟩
set_option maxHeartbeats 1000000 in
theorem wgt3{H:AHeap}{u:V4}{xs:List RV}{L:Ly}{Q:AQ}{A:Value}{fr:List Value}{K:AHeap}{top:Nat}(ht:top≤1000000)(h:LyR H u xs L)(hf:LyIn 9223372036854775807 L)(hm:WG A H u top fr K)
 (hk:∀fr K,WG A H u top fr K→Q .normal fr K):W Tryz.prog 4 (cpre 1 (cpost 4 f16.body)) Q fr K:=by
 obtain⟨n0,x5,x6,x7,x8,x9,x10,x11,x12,x13,x14,rfl,hkK⟩:=hm
 have lp:=h.g.len
 have ip:=Sl.is h.g
 simp(disch:=first|assumption|omega)only[f16,cpre,cpost,P3,seval,initFr,clsA]
 rw[W_block]
 refine W_loop2 (fun k fr K=>∃i n xc,fr=[A,.int .i64 ((top:Nat):Int),ptr H.n 0,.int .i64 0,.int .i64 n,x5,x6,.int .i64 ((i:Nat):Int),x8,x9,x10,x11,xc,x13,x14]∧Keeps (vB H u) K∧i≤L.g.length∧k=L.g.length-i) L.g.length
  ⟨0,n0,_,rfl,hkK,by omega,rfl⟩ ?_
 clear hkK
 rintro Q' k fr K ⟨i,n,xc,rfl,hkK,hi,rfl⟩ hn hx hret
 have gl:=hkK.at_ (vB_g H u)
 simp only[V4.l]at gl
 by_cases hlt:i<L.g.length
 ·have h3:(i:Int)<((L.g.length:Nat):Int):=by omega
  by_cases htn:n≤((top:Nat):Int)
  ·obtain⟨na,ra⟩:=(h.g.keeps ((vB_k H u).trans hkK)).at_ hlt
   have h1:(0:Int)≤(i:Int):=by omega
   have h2:(i:Int)<((lenS u.g:Nat):Int):=by omega
   have h4:=htn
   have hlf:=hf.g.1
   have hw:IntKind.i64.wrap ((i:Int)+1)=((i+1:Nat):Int):=by rw[wrap_i64 (by omega) (by omega)];simp
   simp(disch:=first|assumption|omega)only[W_block,P3,seval,initFr,clsA,gl,lp,ra,na,a_load1v,a_lens,hw]
   refine hn _ _ _ ⟨i+1,_,_,rfl,hkK,by omega,rfl⟩ (by omega)
  ·have h4:=htn
   simp(disch:=first|assumption|omega)only[W_block,P3,seval,initFr,clsA,gl,lp]
   refine hx 4 _ _ ?_
   exact hk _ _ ⟨n,_,_,_,_,_,_,_,_,_,_,rfl,hkK⟩
 ·have h3:¬(i:Int)<((L.g.length:Nat):Int):=by omega
  simp(disch:=first|assumption|omega)only[W_block,P3,seval,initFr,clsA,gl,lp]
  refine hx 4 _ _ ?_
  exact hk _ _ ⟨n,_,_,_,_,_,_,_,_,_,_,rfl,hkK⟩
set_option maxHeartbeats 2000000 in
theorem wgt4{H:AHeap}{u:V4}{xs:List RV}{L:Ly}{Q:AQ}{A:Value}{fr:List Value}{K:AHeap}{top:Nat}(ht:top≤1000000)(h:LyR H u xs L)(hf:LyIn 9223372036854775807 L)(hm:WG A H u top fr K)
 (hk:∀fr K,WG A H u top fr K→Q .normal fr K):W Tryz.prog 4 (cpre 1 (cpost 5 f16.body)) Q fr K:=by
 obtain⟨n0,x5,x6,x7,x8,x9,x10,x11,x12,x13,x14,rfl,hkK⟩:=hm
 have lp:=h.r.len
 rw[h.rlen]at lp
 have ip:=Sl.is h.r
 simp(disch:=first|assumption|omega)only[f16,cpre,cpost,P3,seval,initFr,clsA]
 rw[W_block]
 refine W_loop2 (fun k fr K=>∃i n x9 xc xd,fr=[A,.int .i64 ((top:Nat):Int),ptr H.n 0,.int .i64 0,.int .i64 n,x5,x6,x7,.int .i64 ((i:Nat):Int),x9,x10,x11,x12,xc,xd]∧Keeps (vB H u) K∧i≤L.r.length∧k=L.r.length-i) L.r.length
  ⟨0,n0,_,_,_,rfl,hkK,by omega,rfl⟩ ?_
 clear hkK
 rintro Q' k fr K ⟨i,n,x9,xc,xd,rfl,hkK,hi,rfl⟩ hn hx hret
 have gl:=hkK.at_ (vB_g H u)
 simp only[V4.l]at gl
 by_cases hlt:i<L.r.length
 ·have h3:(i:Int)<((L.r.length:Nat):Int):=by omega
  by_cases htn:n≤((top:Nat):Int)
  ·have hlt':i<xs.length:=by rw[h.rlen];exact hlt
   obtain⟨na,ra⟩:=RL.at_ (h.r.keeps ((vB_k H u).trans hkK)) hlt'
   obtain⟨xok,xr⟩:=h.rat hlt
   have hbl:=Sl.bn_le (h.r.keeps ((vB_k H u).trans hkK)) (by intro e;simp at e;rw[e]at hlt';simp at hlt') (by omega)
   have h1:(0:Int)≤(i:Int):=by omega
   have h2:(i:Int)<((lenS u.r:Nat):Int):=by omega
   have h4:=htn
   have hl:=hf.r.2 _ (getD_mem (d:=rv0.r) hlt)
   have hlf:=hf.r.1
   have hw:IntKind.i64.wrap ((i:Int)+1)=((i+1:Nat):Int):=by rw[wrap_i64 (by omega) (by omega)];simp
   generalize xs.getD i rv0=y at*
   simp only[RV.row]at ra
   have iP:=Sl.is xok.p
   have iQ:=Sl.is xok.q
   have iO:=Sl.is xok.o
   have iF:=Sl.is xok.f
   have lP:=xok.p.len
   have lQ:=xok.q.len
   have lO:=xok.o.len
   have lF:=xok.f.len
   have o3:=one_isS iP
   have o4:=one_isS iQ
   have o5:=one_isS iO
   have o6:=one_isS iF
   obtain⟨m,hm⟩:∃m:Int,m=IntKind.i64.wrap (IntKind.i64.wrap (IntKind.i64.wrap (IntKind.i64.wrap (n+1)+((y.r.n.length:Nat):Int))+((y.r.path.length:Nat):Int))+((y.r.pts.length:Nat):Int)):=⟨_,rfl⟩
   have k1:=hkK.trans ((Keeps.refl K).alloc (.cells true false 6 [.string ⟨y.r.n.toArray⟩,.int .i64 y.r.g,y.vp,y.vq,y.vo,y.vf] 44))
   by_cases hmt:m≤((top:Nat):Int)
   ·have h5:=hmt
    simp(disch:=first|assumption|omega|(simp only[LN]<;>omega)|(simp(disch:=first|assumption|omega|(simp only[LN]<;>omega))only[row_alloc,row_set];assumption))only[W_block,P3,seval,initFr,clsA,gl,lp,ra,na,a_loadnvf,a_lens,lP,lQ,lO,lF,o3,o4,o5,o6,hw,←hm]
    refine hn _ _ _ ⟨i+1,_,_,_,_,rfl,k1,by omega,rfl⟩ (by omega)
   ·have h5:=hmt
    simp(disch:=first|assumption|omega|(simp only[LN]<;>omega)|(simp(disch:=first|assumption|omega|(simp only[LN]<;>omega))only[row_alloc,row_set];assumption))only[W_block,P3,seval,initFr,clsA,gl,lp,ra,na,a_loadnvf,a_lens,lP,lQ,lO,lF,o3,o4,o5,o6,hw,←hm]
    refine hn _ _ _ ⟨i+1,m,_,_,_,rfl,k1,by omega,rfl⟩ (by omega)
  ·have h4:=htn
   simp(disch:=first|assumption|omega)only[W_block,P3,seval,initFr,clsA,gl,lp]
   refine hx 6 _ _ ?_
   exact hk _ _ ⟨n,_,_,_,_,_,_,_,_,_,_,rfl,hkK⟩
 ·have h3:¬(i:Int)<((L.r.length:Nat):Int):=by omega
  simp(disch:=first|assumption|omega)only[W_block,P3,seval,initFr,clsA,gl,lp]
  refine hx 6 _ _ ?_
  exact hk _ _ ⟨n,_,_,_,_,_,_,_,_,_,_,rfl,hkK⟩
theorem t16{H:AHeap}{u:V4}{xs:List RV}{L:Ly}{top:Nat}(ht:top≤1000000)(h:LyR H u xs L)(hf:LyIn 9223372036854775807 L):∃w H',ARun Tryz.prog 4 16 [.agg u.l.toArray,.int .i64 ((top:Nat):Int)] H w H'∧(∃n:Int,w=.int .i64 n)∧H'=H:=by
 suffices h':∃w H',ARun Tryz.prog 4 16 [.agg u.l.toArray,.int .i64 ((top:Nat):Int)] H w H'∧(∃n:Int,w=.int .i64 n)∧Keeps H H' by
  obtain⟨_,_,a,⟨n,rfl⟩,k⟩:=h'
  exact⟨_,_,a.gc0 k (.inr (.int _ _)),⟨n,rfl⟩,rfl⟩
 refine walk2 f16_ok f16_n ?_
 intro Q hq1 hq2
 refine W_part 2 (WG (.agg u.l.toArray) H u top) (by kernel_rfl) ?_ (fun fr K m=>?_)
 ·intro Q' a _ _
  have os:=Sl.one h.s
  have op:=Sl.one h.p
  have og:=Sl.one h.g
  have or:=Sl.one h.r
  unfold WG vB at*
  obtain⟨us,up,ug,ur⟩:=u
  simp only[V4.l]at*
  simp(disch:=first|assumption|omega)only[f16,cpre,W_block,P3,seval,initFr,clsA,os,op,og,or]
  exact a _ _ ⟨0,_,_,_,_,_,_,_,_,_,_,rfl,Keeps.refl _⟩
 refine W_part 1 (WG (.agg u.l.toArray) H u top) (by kernel_rfl) (fun Q' a _ _=>wgt1 ht h hf m a) (fun fr K m=>?_)
 refine W_part 1 (WG (.agg u.l.toArray) H u top) (by kernel_rfl) (fun Q' a _ _=>wgt2 ht h hf m a) (fun fr K m=>?_)
 refine W_part 1 (WG (.agg u.l.toArray) H u top) (by kernel_rfl) (fun Q' a _ _=>wgt3 ht h hf m a) (fun fr K m=>?_)
 refine W_part 1 (WG (.agg u.l.toArray) H u top) (by kernel_rfl) (fun Q' a _ _=>wgt4 ht h hf m a) (fun fr K m=>?_)
 obtain⟨n,x5,x6,x7,x8,x9,x10,x11,x12,x13,x14,rfl,hkK⟩:=m
 simp(disch:=first|assumption|omega)only[f16,cpost,W_block,P3,seval,initFr,clsA]
 exact hq2 _ _ ⟨_,rfl,⟨n,rfl⟩,(vB_k H u).trans hkK⟩
end Go.AM.Fd

namespace Go.AM.Fd
open Nat (reduceAdd reduceEqDiff reduceLT reduceLeDiff reduceMul reduceSub)
open Go.Proofs Go.AM.F
abbrev MB := List (List UInt8 × (Nat × Int))
def mval (x : Nat × Int) : Value := .iface x.1 (.int .i64 x.2)
def mbs (M : MB) : List (List UInt8 × Value) := M.map fun p => (p.1, mval p.2)
def bfind (n : List UInt8) : MB → Option (Nat × Int)
 | [] => none
 | (a, v) :: l => if n = a then some v else bfind n l
theorem mfind_mbs (n : List UInt8) : ∀ M : MB, mfind n (mbs M) = (bfind n M).map mval
 | [] => rfl
 | (a, v) :: l => by
  have ih := mfind_mbs n l
  simp only [mbs] at ih
  simp only [mbs, List.map_cons, mfind, bfind]
  split
  ·rfl
  ·exact ih
def kOf (t : Nat) (M : MB) (n : List UInt8) : Option Int := match bfind n M with
 | some (u, i) => if u = t then some i else none
 | none => none
def kAll (t : Nat) (M : MB) : List (List UInt8) → Option (List Int)
 | [] => some []
 | n :: l => match kOf t M n with
  | some i => (kAll t M l).map (i :: ·)
  | none => none
theorem kAll_snoc (t : Nat) (M : MB) (n : List UInt8) : ∀ (a : List (List UInt8)), kAll t M (a ++ [n]) = match kAll t M a, kOf t M n with
  | some l, some i => some (l ++ [i])
  | _, _ => none
 | [] => by simp only [List.nil_append, kAll]; cases kOf t M n <;> rfl
 | x :: a => by
  simp only [List.cons_append, kAll, kAll_snoc t M n a]
  cases kOf t M x with
  | none => cases kOf t M n <;> rfl
  | some i => cases kAll t M a <;> cases kOf t M n <;> rfl
theorem kAll_stop {t : Nat} {M : MB} {n : List UInt8} (h : kOf t M n = none) : ∀ {l : List (List UInt8)}, n ∈ l → kAll t M l = none
 | x :: l, hm => by
  simp only [kAll]
  rcases List.mem_cons.1 hm with rfl | hm
  ·rw [h]
  ·rw [kAll_stop h hm]; cases kOf t M x <;> rfl
theorem a_mgetN {K : AHeap} {mb : Nat} {M : MB} (hm : MP sEnc K mb (mbs M)) (n : List UInt8) : asem (.mget .string .nilIface false (.map (some mb)) (.string ⟨n.toArray⟩)) K = some (((bfind n M).map mval).getD .nilIface, K) := by
 have := a_mget sEnc_e hm n .nilIface false
 rw [mfind_mbs] at this
 simp only [sEnc] at this
 rw [this]
 cases bfind n M <;> rfl
theorem a_assertN {K : AHeap} (t : Nat) (n : List UInt8) (M : MB) : asem (.assert t (.int .i64 0) true (((bfind n M).map mval).getD .nilIface)) K = some (.tuple #[.int .i64 ((kOf t M n).getD 0), .bool (kOf t M n).isSome], K) := by
 unfold kOf
 cases bfind n M with
 | none => rfl
 | some x =>
  obtain ⟨u, i⟩ := x
  simp only [Option.map_some, Option.getD_some, mval, asem]
  by_cases h : u = t <;> simp [h]
def sufB (s l : List UInt8) : Bool := decide (s.length ≤ l.length) && decide (l.drop (l.length - s.length) = s)
theorem t96 (H : AHeap) (l s : List UInt8) (hl : l.length ≤ 1000000000) (hs : s.length ≤ 1000000000) : ∃ w H', ARun Tryz.prog 4 96 [.string ⟨l.toArray⟩, .string ⟨s.toArray⟩] H w H' ∧ w = .bool (sufB s l) ∧ H' = H := by
 refine walk2 f96_ok f96_n ?_
 intro Q hq1 hq2
 by_cases h : s.length ≤ l.length
 ·have h1 : ((s.length : Nat) : Int) ≤ ((l.length : Nat) : Int) := by omega
  have hw : IntKind.i64.wrap (((l.length : Nat) : Int) - ((s.length : Nat) : Int)) = ((l.length - s.length : Nat) : Int) := by rw [wrap_i64 (by omega) (by omega)]; omega
  have hc : asem (.slstr (.string ⟨l.toArray⟩) (some (.int .i64 ((l.length - s.length : Nat) : Int))) none) H = some (.string ⟨(l.drop (l.length - s.length)).toArray⟩, H) := a_slsT (by omega)
  simp (disch := first | assumption | omega) only [f96, W_block, P3, seval, initFr, clsA, a_lens, hw, hc, b_eqS]
  exact hq2 _ _ ⟨_, rfl, by simp [tupV, sufB, h], rfl⟩
 ·have h1 : ¬ ((s.length : Nat) : Int) ≤ ((l.length : Nat) : Int) := by omega
  simp (disch := first | assumption | omega) only [f96, W_block, P3, seval, initFr, clsA, a_lens]
  exact hq2 _ _ ⟨_, rfl, by simp [tupV, sufB, h], rfl⟩
theorem t87 (H : AHeap) (l s : List UInt8) (hl : l.length ≤ 1000000000) (hs : s.length ≤ 1000000000) : ∃ w H', ARun Tryz.prog 4 87 [.string ⟨l.toArray⟩, .string ⟨s.toArray⟩] H w H' ∧ w = .bool (sufB s l) ∧ H' = H := by
 refine walk2 f87_ok f87_n ?_
 intro Q hq1 hq2
 simp (disch := first | assumption | omega) only [f87, W_block, P3, seval, initFr, clsA]
 refine callK (t96 H l s hl hs) ?_
 rintro _ _ ⟨rfl, rfl⟩
 simp (disch := first | assumption | omega) only [W_block, P3, seval, initFr, clsA]
 exact hq2 _ _ ⟨_, rfl, rfl, rfl⟩
theorem t69 {H : AHeap} {b mb T : Nat} {own room : Bool} {c : List Value} {M : MB} {v : Value} {ws : List (List UInt8)} (hb : H.get b = some (.cells own room 5 c T)) (hc : c[4]? = some (.map (some mb))) (hm : MP sEnc H mb (mbs M)) (h : TL H v ws) (hl : ws.length ≤ 1000000000) :
  ∃ w H', ARun Tryz.prog 4 69 [ptr b 0, v] H w H' ∧ Keeps H H' ∧ ∃ x, w = .tuple #[x, .bool (kAll 80 M ws).isSome] ∧ OW 3 1 H H' x (((kAll 80 M ws).getD []).map iRow) := by
 refine walk2 f69_ok f69_n ?_
 intro Q hq1 hq2
 have ia := Sl.is h
 have la := h.len
 simp (disch := first | assumption | omega) only [ f69, P3, seval, initFr, clsA, la]
 rw [W_block]
 refine W_loop2 (fun k fr K => ∃ i s l x5 x6 x7 x11 x12, fr = [ptr b 0, v, .slice none 0 0, .bool false, s, x5, x6, x7, v, .int .i64 ((ws.length : Nat) : Int), .int .i64 ((i : Nat) : Int), x11, x12] ∧ OW 3 1 H K s (l.map iRow) ∧ kAll 80 M (ws.take i) = some l ∧ l.length = i ∧ i ≤ ws.length ∧ k = ws.length - i) ws.length
  ⟨0, _, [], _, _, _, _, _, rfl, OW.nil _ _ (Keeps.refl H), by simp [kAll], rfl, by omega, rfl⟩ ?_
 rintro Q' k fr K ⟨i, s, l, x5, x6, x7, x11, x12, rfl, ho, hp, hll, hi, rfl⟩ hn hx hret
 by_cases hlt : i < ws.length
 ·obtain ⟨na, ra⟩ := (h.keeps ho.k).at_ hlt
  have h0 : (0 : Int) ≤ (i : Int) := by omega
  have h1 : (i : Int) < ((lenS v : Nat) : Int) := by omega
  have h3 : (i : Int) < ((ws.length : Nat) : Int) := by omega
  have hw : IntKind.i64.wrap ((i : Int) + 1) = ((i + 1 : Nat) : Int) := by rw [wrap_i64 (by omega) (by omega)]; simp
  have gb := ho.k.at_ hb
  have gm := a_mgetN (hm.get (ho.k.get _ hm.lt)) (ws.getD i [])
  have ga := a_assertN (K := K) 80 (ws.getD i []) M
  have ts := kAll_snoc 80 M (ws.getD i []) (ws.take i)
  rw [← take_snoc [] hlt, hp] at ts
  have stop := fun e => kAll_stop (t := 80) (M := M) (n := ws.getD i []) e (l := ws) (getD_mem hlt)
  unfold tRow at ra
  generalize ws.getD i [] = n at *
  cases hk : kOf 80 M n with
  | none =>
   rw [hk] at ga
   simp only [Option.getD_none, Option.isSome_none] at ga
   simp (disch := first | assumption | omega) only [W_block, P3, seval, initFr, clsA, la, ra, na, a_load1v, gb, hc, st_mget, gm, ga]
   refine hret _ _ (hq2 _ _ ⟨_, rfl, ho.k, .slice none 0 0, ?_, ?_⟩)
   ·rw [stop hk]; rfl
   ·rw [stop hk]; exact OW.nil _ _ ho.k
  | some j =>
   rw [hk] at ga ts
   simp only [Option.getD_some, Option.isSome_some] at ga
   simp (disch := first | assumption | omega) only [W_block, P3, seval, initFr, clsA, la, ra, na, a_load1v, gb, hc, st_mget, gm, ga]
   have ho2 := ho.keeps ((Keeps.refl K).alloc (.cells true false 1 [.int .i64 j] 3))
   refine ho2.appR (b := 8) (Sl.one1 rfl rfl) (by simp only [List.length_map, List.length_cons, List.length_nil]; omega) ?_
   intro v' K' ho3 _
   simp (disch := first | assumption | omega) only [W_block, P3, seval, initFr, clsA, hw]
   refine hn _ _ _ ⟨i + 1, _, l ++ [j], _, _, _, _, _, rfl, ?_, ts, by simp [hll], by omega, rfl⟩ (by omega)
   simpa [iRow] using ho3
 ·have h3 : ¬ (i : Int) < ((ws.length : Nat) : Int) := by omega
  simp (disch := first | assumption | omega) only [W_block, P3, seval, initFr, clsA, la]
  refine hx 0 _ _ ?_
  simp (disch := first | assumption | omega) only [W_block, P3, seval, initFr, clsA]
  rw [List.take_of_length_le (by omega)] at hp
  refine hq2 _ _ ⟨_, rfl, ho.k, s, ?_, ?_⟩
  ·rw [hp]; rfl
  ·rw [hp]; exact ho
end Go.AM.Fd

namespace Go.AM.Fd
open Nat (reduceAdd reduceEqDiff reduceLT reduceLeDiff reduceMul reduceSub)
open Go.Proofs Go.AM.F
def shpB (w : List UInt8) : Bool := decide (2 ≤ w.length) && (sufB [43] w || sufB [45] w)
theorem t68 {H : AHeap} {v : Value} {ws : List (List UInt8)} (h : TL H v ws) (hl : ws.length ≤ 1000000000) (hw : ∀ w ∈ ws, w.length ≤ 1000000000) : ∃ w H', ARun Tryz.prog 4 68 [v] H w H' ∧ w = .bool (ws.all shpB) ∧ H' = H := by
 refine walk2 f68_ok f68_n ?_
 intro Q hq1 hq2
 have ia := Sl.is h
 have la := h.len
 simp (disch := first | assumption | omega) only [ f68, P3, seval, initFr, clsA, la]
 rw [W_block]
 refine W_loop2 (fun k fr K => ∃ i x2 x6 x7, fr = [v, .bool false, x2, v, .int .i64 ((ws.length : Nat) : Int), .int .i64 ((i : Nat) : Int), x6, x7] ∧ K = H ∧ i ≤ ws.length ∧ (ws.take i).all shpB = true ∧ k = ws.length - i) ws.length
  ⟨0, _, _, _, rfl, rfl, by omega, by simp, rfl⟩ ?_
 rintro Q' k fr _ ⟨i, x2, x6, x7, rfl, rfl, hi, hp, rfl⟩ hn hx hret
 by_cases hlt : i < ws.length
 ·obtain ⟨na, ra⟩ := h.at_ hlt
  have h0 : (0 : Int) ≤ (i : Int) := by omega
  have h1 : (i : Int) < ((lenS v : Nat) : Int) := by omega
  have h3 : (i : Int) < ((ws.length : Nat) : Int) := by omega
  have hwr : IntKind.i64.wrap ((i : Int) + 1) = ((i + 1 : Nat) : Int) := by rw [wrap_i64 (by omega) (by omega)]; simp
  have hlen := hw _ (getD_mem (d := []) hlt)
  have stop := fun e => all_not (p := shpB) (d := []) hlt e
  have go := fun e => all_take (p := shpB) (d := []) hlt hp e
  unfold tRow at ra
  generalize ws.getD i [] = n at *
  by_cases h2 : n.length < 2
  ·have h2' : ((n.length : Nat) : Int) < (2 : Int) := by omega
   simp (disch := first | assumption | omega) only [W_block, P3, seval, initFr, clsA, la, ra, na, a_load1v, a_lens]
   refine hret _ _ (hq2 _ _ ⟨_, rfl, ?_, rfl⟩)
   have : ¬ 2 ≤ n.length := by omega
   rw [stop (by simp [shpB, this])]; rfl
  ·have h2' : ¬ ((n.length : Nat) : Int) < (2 : Int) := by omega
   have h2n : 2 ≤ n.length := by omega
   simp (disch := first | assumption | omega) only [W_block, P3, seval, initFr, clsA, la, ra, na, a_load1v, a_lens]
   refine callK (t87 _ n [43] hlen (by simp)) ?_
   rintro _ _ ⟨rfl, rfl⟩
   cases hs : sufB [43] n with
   | true =>
    simp (disch := first | assumption | omega) only [W_block, P3, seval, initFr, clsA, hwr]
    exact hn _ _ _ ⟨i + 1, _, _, _, rfl, rfl, by omega, go (by simp [shpB, h2n, hs]), rfl⟩ (by omega)
   | false =>
    simp (disch := first | assumption | omega) only [W_block, P3, seval, initFr, clsA]
    refine callK (t87 _ n [45] hlen (by simp)) ?_
    rintro _ _ ⟨rfl, rfl⟩
    cases hs2 : sufB [45] n with
    | true =>
     simp (disch := first | assumption | omega) only [W_block, P3, seval, initFr, clsA, hwr]
     exact hn _ _ _ ⟨i + 1, _, _, _, rfl, rfl, by omega, go (by simp [shpB, h2n, hs2]), rfl⟩ (by omega)
    | false =>
     simp (disch := first | assumption | omega) only [W_block, P3, seval, initFr, clsA]
     refine hret _ _ (hq2 _ _ ⟨_, rfl, ?_, rfl⟩)
     rw [stop (by simp [shpB, hs, hs2])]; rfl
 ·have h3 : ¬ (i : Int) < ((ws.length : Nat) : Int) := by omega
  simp (disch := first | assumption | omega) only [W_block, P3, seval, initFr, clsA, la]
  refine hx 0 _ _ ?_
  simp (disch := first | assumption | omega) only [W_block, P3, seval, initFr, clsA]
  refine hq2 _ _ ⟨_, rfl, ?_, rfl⟩
  rw [List.take_of_length_le (by omega)] at hp
  rw [hp]; rfl
def nOf (t : Nat) (M : MB) (w : List UInt8) : Option (Int × Bool) := (kOf t M (w.take (w.length - 1))).map fun i => (i, sufB [45] w)
def nAll (t : Nat) (M : MB) : List (List UInt8) → Option (List (Int × Bool))
 | [] => some []
 | n :: l => match nOf t M n with
  | some i => (nAll t M l).map (i :: ·)
  | none => none
theorem nAll_snoc (t : Nat) (M : MB) (n : List UInt8) : ∀ (a : List (List UInt8)), nAll t M (a ++ [n]) = match nAll t M a, nOf t M n with
  | some l, some i => some (l ++ [i])
  | _, _ => none
 | [] => by simp only [List.nil_append, nAll]; cases nOf t M n <;> rfl
 | x :: a => by
  simp only [List.cons_append, nAll, nAll_snoc t M n a]
  cases nOf t M x with
  | none => cases nOf t M n <;> rfl
  | some i => cases nAll t M a <;> cases nOf t M n <;> rfl
theorem nAll_stop {t : Nat} {M : MB} {n : List UInt8} (h : nOf t M n = none) : ∀ {l : List (List UInt8)}, n ∈ l → nAll t M l = none
 | x :: l, hm => by
  simp only [nAll]
  rcases List.mem_cons.1 hm with rfl | hm
  ·rw [h]
  ·rw [nAll_stop h hm]; cases nOf t M x <;> rfl
set_option maxHeartbeats 1000000 in
theorem t70 {H : AHeap} {b mb T : Nat} {own room : Bool} {c : List Value} {M : MB} {v : Value} {ws : List (List UInt8)} (hb : H.get b = some (.cells own room 5 c T)) (hc : c[4]? = some (.map (some mb))) (hm : MP sEnc H mb (mbs M)) (h : TL H v ws) (hl : ws.length ≤ 1000000000) (hws : ∀ w ∈ ws, 1 ≤ w.length ∧ w.length ≤ 1000000000) :
  ∃ w H', ARun Tryz.prog 4 70 [ptr b 0, v] H w H' ∧ Keeps H H' ∧ ∃ x, w = .tuple #[x, .bool (nAll 81 M ws).isSome] ∧ OW 49 2 H H' x (((nAll 81 M ws).getD []).map nRow) := by
 refine walk2 f70_ok f70_n ?_
 intro Q hq1 hq2
 have ia := Sl.is h
 have la := h.len
 simp (disch := first | assumption | omega) only [ f70, P3, seval, initFr, clsA, la]
 rw [W_block]
 refine W_loop2 (fun k fr K => ∃ i s l x5 x6 x7 x11 x12, fr = [ptr b 0, v, .slice none 0 0, .bool false, s, x5, x6, x7, v, .int .i64 ((ws.length : Nat) : Int), .int .i64 ((i : Nat) : Int), x11, x12] ∧ OW 49 2 H K s (l.map nRow) ∧ nAll 81 M (ws.take i) = some l ∧ l.length = i ∧ i ≤ ws.length ∧ k = ws.length - i) ws.length
  ⟨0, _, [], _, _, _, _, _, rfl, OW.nil _ _ (Keeps.refl H), by simp [nAll], rfl, by omega, rfl⟩ ?_
 rintro Q' k fr K ⟨i, s, l, x5, x6, x7, x11, x12, rfl, ho, hp, hll, hi, rfl⟩ hn hx hret
 by_cases hlt : i < ws.length
 ·obtain ⟨na, ra⟩ := (h.keeps ho.k).at_ hlt
  have h0 : (0 : Int) ≤ (i : Int) := by omega
  have h1 : (i : Int) < ((lenS v : Nat) : Int) := by omega
  have h3 : (i : Int) < ((ws.length : Nat) : Int) := by omega
  have hw : IntKind.i64.wrap ((i : Int) + 1) = ((i + 1 : Nat) : Int) := by rw [wrap_i64 (by omega) (by omega)]; simp
  have hlen := hws _ (getD_mem (d := []) hlt)
  have gb := ho.k.at_ hb
  have ts := nAll_snoc 81 M (ws.getD i []) (ws.take i)
  rw [← take_snoc [] hlt, hp] at ts
  have stop := fun e => nAll_stop (t := 81) (M := M) (n := ws.getD i []) e (l := ws) (getD_mem hlt)
  unfold tRow at ra
  generalize ws.getD i [] = n at *
  have gm := a_mgetN (hm.get (ho.k.get _ hm.lt)) (n.take (n.length - 1))
  have ga := a_assertN (K := K) 81 (n.take (n.length - 1)) M
  have hw1 : IntKind.i64.wrap (((n.length : Nat) : Int) - 1) = ((n.length - 1 : Nat) : Int) := by rw [wrap_i64 (by omega) (by omega)]; omega
  have hc1 : asem (.slstr (.string ⟨n.toArray⟩) none (some (.int .i64 ((n.length - 1 : Nat) : Int)))) K = some (.string ⟨(n.take (n.length - 1)).toArray⟩, K) := a_slsP (by omega)
  cases hk : kOf 81 M (n.take (n.length - 1)) with
  | none =>
   have hk' : nOf 81 M n = none := by simp [nOf, hk]
   rw [hk] at ga
   simp only [Option.getD_none, Option.isSome_none] at ga
   simp (disch := first | assumption | omega) only [W_block, P3, seval, initFr, clsA, la, ra, na, a_load1v, gb, hc, sd_mget, gm, ga, a_lens, hw1, hc1]
   refine hret _ _ (hq2 _ _ ⟨_, rfl, ho.k, .slice none 0 0, ?_, ?_⟩)
   ·rw [stop hk']; rfl
   ·rw [stop hk']; exact OW.nil _ _ ho.k
  | some j =>
   have hk' : nOf 81 M n = some (j, sufB [45] n) := by simp [nOf, hk]
   rw [hk'] at ts
   rw [hk] at ga
   simp only [Option.getD_some, Option.isSome_some] at ga
   simp (disch := first | assumption | omega) only [W_block, P3, seval, initFr, clsA, la, ra, na, a_load1v, gb, hc, sd_mget, gm, ga, a_lens, hw1, hc1]
   refine callQ (t87 _ n [45] hlen.2 (by simp)) ?_
   have hf2 : fillA [.int .i64 0, .bool false] [(0, 1, .int .i64 j), (1, 1, .bool (sufB [45] n))] = some [.int .i64 j, .bool (sufB [45] n)] := rfl
   have hf3 : fillA [.int .i64 0, .bool false] [(0, 2, .agg #[.int .i64 j, .bool (sufB [45] n)])] = some [.int .i64 j, .bool (sufB [45] n)] := rfl
   simp (disch := first | assumption | omega) only [W_block, P3, seval, initFr, clsA, hf2, hf3]
   have ho2 := ho.keeps ((Keeps.refl K).alloc (.cells true false 2 [.int .i64 j, .bool (sufB [45] n)] 49))
   refine ho2.appR (b := 16) (Sl.one1 rfl rfl) (by simp only [List.length_map, List.length_cons, List.length_nil]; omega) ?_
   intro v' K' ho3 _
   simp (disch := first | assumption | omega) only [W_block, P3, seval, initFr, clsA, hw]
   refine hn _ _ _ ⟨i + 1, _, l ++ [(j, sufB [45] n)], _, _, _, _, _, rfl, ?_, ts, by simp [hll], by omega, rfl⟩ (by omega)
   simpa [nRow] using ho3
 ·have h3 : ¬ (i : Int) < ((ws.length : Nat) : Int) := by omega
  simp (disch := first | assumption | omega) only [W_block, P3, seval, initFr, clsA, la]
  refine hx 0 _ _ ?_
  simp (disch := first | assumption | omega) only [W_block, P3, seval, initFr, clsA]
  rw [List.take_of_length_le (by omega)] at hp
  refine hq2 _ _ ⟨_, rfl, ho.k, s, ?_, ?_⟩
  ·rw [hp]; rfl
  ·rw [hp]; exact ho
end Go.AM.Fd

namespace Go.AM.Fd
open Go.Proofs Go.AM.F
def bkO (u : V4) (mb : Nat) : AO := .cells true false 5 [u.s, u.p, u.g, u.r, .map (some mb)] 55
def thM (mb : Nat) (M : MB) : Th where
 P K := MP sEnc K mb (mbs M)
 F := [mb]
 lt K h y hy := by simp at hy; subst hy; exact h.lt
 st K K' h _ k := h.get (k mb (by simp))
def RV.bl (x : RV) : List Nat := tb x.vp ++ tb x.vq ++ tb x.vo ++ tb x.vf
theorem Sl.st {K K' : AHeap} {esz : Nat} {v : Value} {rows : List (List Value)} (h : Sl K esz v rows) (hn : K.n ≤ K'.n) (k : ∀ b ∈ tb v, K'.get b = K.get b) : Sl K' esz v rows :=
 h.chgT (S := (List.range K.n).filter fun b => !(tb v).contains b) ⟨hn, fun b hb hS => by
  by_cases hm : b ∈ tb v
  ·exact k b hm
  ·exact absurd (List.mem_filter.2 ⟨List.mem_range.2 hb, by simpa using hm⟩) hS⟩ (fun b hb hS => by
  have := (List.mem_filter.1 hS).2
  simp [hb] at this)
theorem RV.ok.lt {K : AHeap} {x : RV} (h : x.ok K) : ∀ b ∈ x.bl, b < K.n := by
 intro b hb
 simp only [RV.bl, List.mem_append] at hb
 rcases hb with ((hb | hb) | hb) | hb
 ·exact Sl.tbl h.p b hb
 ·exact Sl.tbl h.q b hb
 ·exact Sl.tbl h.o b hb
 ·exact Sl.tbl h.f b hb
theorem RV.ok.st {K K' : AHeap} {x : RV} (h : x.ok K) (hn : K.n ≤ K'.n) (k : ∀ b ∈ x.bl, K'.get b = K.get b) : x.ok K' := by
 simp only [RV.bl, List.mem_append] at k
 exact ⟨Sl.st h.p hn fun b hb => k b (.inl (.inl (.inl hb))), Sl.st h.q hn fun b hb => k b (.inl (.inl (.inr hb))), Sl.st h.o hn fun b hb => k b (.inl (.inr hb)), Sl.st h.f hn fun b hb => k b (.inr hb)⟩
def thI (xs : List RV) : Th where
 P K := ∀ x ∈ xs, x.ok K
 F := xs.flatMap RV.bl
 lt K h y hy := by
  obtain ⟨x, hx, hy⟩ := List.mem_flatMap.1 hy
  exact (h x hx).lt y hy
 st K K' h hn k := fun x hx => (h x hx).st hn fun b hb => k b (List.mem_flatMap.2 ⟨x, hx, hb⟩)
def bkT (b mb : Nat) (u : V4) (xs : List RV) (L : Ly) (M : MB) (ex : List Th) : List Th :=
 thB b (bkO u mb) :: thM mb M :: thA 9 1 u.s L.s.length (L.s.map tRow).flatten :: thA 46 2 u.p L.p.length (L.p.map pRow).flatten :: thA 47 2 u.g L.g.length (L.g.map pRow).flatten :: thA 44 6 u.r xs.length (xs.map RV.row).flatten :: thI xs :: ex
def nameOf (L : Ly) (n : List UInt8) : Option (Nat × Int) := match ixT n L.s with
 | some i => some (80, i)
 | none => match ixT n (L.p.map (·.1)) with
  | some i => some (81, i)
  | none => match ixT n (L.g.map (·.1)) with
   | some i => some (83, i)
   | none => (ixT n (L.r.map (·.n))).map fun i => (84, (i : Int))
structure BkR (B K : AHeap) (b mb : Nat) (u : V4) (xs : List RV) (L : Ly) (M : MB) (ex : List Th) : Prop where
 sep : SepH B K (bkT b mb u xs L M ex)
 e : xs.map (·.r) = L.r
 n : ∀ n, bfind n M = nameOf L n
section
variable {B K : AHeap} {b mb : Nat} {u : V4} {xs : List RV} {L : Ly} {M : MB} {ex : List Th}
theorem BkR.gb (h : BkR B K b mb u xs L M ex) : K.get b = some (bkO u mb) := h.sep.at_ 0 rfl
theorem BkR.gm (h : BkR B K b mb u xs L M ex) : MP sEnc K mb (mbs M) := h.sep.at_ 1 rfl
theorem BkR.as (h : BkR B K b mb u xs L M ex) : AP K 9 1 u.s L.s.length (L.s.map tRow).flatten := h.sep.at_ 2 rfl
theorem BkR.ap (h : BkR B K b mb u xs L M ex) : AP K 46 2 u.p L.p.length (L.p.map pRow).flatten := h.sep.at_ 3 rfl
theorem BkR.ag (h : BkR B K b mb u xs L M ex) : AP K 47 2 u.g L.g.length (L.g.map pRow).flatten := h.sep.at_ 4 rfl
theorem BkR.ar (h : BkR B K b mb u xs L M ex) : AP K 44 6 u.r xs.length (xs.map RV.row).flatten := h.sep.at_ 5 rfl
theorem BkR.ly (h : BkR B K b mb u xs L M ex) : LyR K u xs L where
 s := h.as.sl (by intro r hr; obtain ⟨x, _, rfl⟩ := List.mem_map.1 hr; rfl) (by simp)
 p := h.ap.sl (by intro r hr; obtain ⟨x, _, rfl⟩ := List.mem_map.1 hr; rfl) (by simp)
 g := h.ag.sl (by intro r hr; obtain ⟨x, _, rfl⟩ := List.mem_map.1 hr; rfl) (by simp)
 r := h.ar.sl (by intro r hr; obtain ⟨x, _, rfl⟩ := List.mem_map.1 hr; rfl) (by simp)
 e := h.e
 ok := h.sep.at_ 6 rfl
theorem BkR.keeps {K' : AHeap} (h : BkR B K b mb u xs L M ex) (k : Keeps K K') : BkR B K' b mb u xs L M ex := ⟨h.sep.keeps k, h.e, h.n⟩
end
theorem bfind_app (n m : List UInt8) (x : Nat × Int) : ∀ M : MB, bfind n (M ++ [(m, x)]) = match bfind n M with
  | some y => some y
  | none => if n = m then some x else none
 | [] => rfl
 | (a, v) :: l => by
  simp only [List.cons_append, bfind]
  split
  ·rfl
  ·exact bfind_app n m x l
theorem ixT_app (n m : List UInt8) : ∀ l : List (List UInt8), ixT n (l ++ [m]) = match ixT n l with
  | some i => some i
  | none => if m = n then some l.length else none
 | [] => by simp [ixT]
 | x :: l => by
  simp only [List.cons_append, ixT, ixT_app n m l]
  split
  ·rfl
  ·cases ixT n l with
   | some i => rfl
   | none => by_cases h : m = n <;> simp [h]
end Go.AM.Fd

namespace Go.AM.Fd
open Nat (reduceAdd reduceEqDiff reduceLT reduceLeDiff reduceMul reduceSub)
open Go.Proofs Go.AM.F
theorem nameOf_s{L:Ly}{n:List UInt8}(h:nameOf L n=none)(m:List UInt8):(match nameOf L m with
 |some y=>some y
 |none=>if m=n then some (80,((L.s.length:Nat):Int))else none)=nameOf {L with s:=L.s++[n]} m:=by
 by_cases e:m=n
 ·subst e
  rw[h]
  unfold nameOf at h ⊢
  simp only[ixT_app,if_true]
  cases hs:ixT m L.s with
  |some i=>rw[hs]at h;cases h
  |none=>rfl
 ·have e':¬n=m:=fun x=>e x.symm
  unfold nameOf
  simp only[ixT_app,if_neg e']
  cases hs:ixT m L.s with
  |some i=>rfl
  |none=>
   simp only[if_neg e]
   cases hp:ixT m (L.p.map (·.1))with
   |some i=>rfl
   |none=>
    simp only
    cases hg:ixT m (L.g.map (·.1))with
    |some i=>rfl
    |none=>
     simp only
     cases hr:ixT m (L.r.map (·.n))<;>rfl
def secP(L:Ly)(ws:List (List UInt8)):Int×Ly:=
 if ws.length≠2∨rightB (ws.getD 1 [])=false then(40,L)
 else if(nameOf L (ws.getD 1 [])).isSome then(41,L)
 else if L.s.length=64 then(3,L)
 else(0,{L with s:=L.s++[ws.getD 1 []]})
def Aw(v:Value)(ts:List Th):Prop:=∀y∈tb v,∀t∈ts,y∉t.F
theorem BkR.fresh{B K:AHeap}{b mb:Nat}{u:V4}{xs:List RV}{L:Ly}{M:MB}{ex:List Th}(h:BkR B K b mb u xs L M ex)(n:List UInt8)(x:Nat×Int):
 ∃w K',ARun Tryz.prog 4 38 [ptr b 0,.string ⟨n.toArray⟩,mval x] K w K'∧w=.bool (!(nameOf L n).isSome)∧Chg [mb] K K'∧(nameOf L n=none→SepH B K' (bkT b mb u xs L (M++[(n,x)]) ex)):=by
 obtain⟨w,K',r,rfl,c,m⟩:=t38 (hc:=rfl) h.gb h.gm n (x:=mval x) rfl
 have e:(mfind n (mbs M)).isNone= !(nameOf L n).isSome:=by
  rw[mfind_mbs,h.n];cases nameOf L n<;>rfl
 rw[e]at r m
 refine⟨_,_,r,rfl,c,fun hn=>?_⟩
 rw[hn]at m
 simp only[Option.isSome_none,Bool.not_false,if_true]at m
 refine h.sep.u1 (t:=thM mb M) (t':=thM mb (M++[(n,x)])) c ?_ (fun y hy=>.inl hy)
 show MP sEnc K' mb (mbs (M++[(n,x)]))
 simpa[mbs]using m
set_option maxHeartbeats 1000000 in
theorem t50{B K:AHeap}{b mb:Nat}{u:V4}{xs:List RV}{L:Ly}{M:MB}{ex:List Th}{v:Value}{ws:List (List UInt8)}(h:BkR B K b mb u xs L M ex)(hv:TL K v ws)(ha:Aw v (bkT b mb u xs L M ex))(hl:ws.length≤1000000000)(hw:∀w∈ws,w.length≤1000000000)(hsl:L.s.length≤64):
 ∃w K',ARun Tryz.prog 4 50 [ptr b 0,v] K w K'∧Keeps B K'∧w=.int .i64 (secP L ws).1 ∧((secP L ws).1 =0→∃u' M',BkR B K' b mb u' xs (secP L ws).2 M' ex):=by
 refine walk2 f50_ok f50_n ?_
 intro Q hq1 hq2
 have ia:=Sl.is hv
 have la:=hv.len
 have gb:=h.gb
 simp only[bkO]at gb
 by_cases h2:ws.length=2
 rotate_left
 ·have e2:(((ws.length:Nat):Int) != 2)=true:=by simp;omega
  have ep:secP L ws=(40,L):=by simp[secP,h2]
  simp(disch:=first|assumption|omega)only[f50,W_block,P3,seval,initFr,clsA,la,e2]
  refine hq2 _ _ ⟨_,rfl,h.sep.k,by rw[ep];rfl,by rw[ep];intro e;cases e⟩
 have e2:(((ws.length:Nat):Int) != 2)=false:=by simp;omega
 obtain⟨na,ra⟩:=hv.at_ (i:=1) (by omega)
 have hlen:=hw _ (getD_mem (d:=[]) (show 1<ws.length by omega))
 have h1:(0:Int)≤1:=by omega
 have h3:(1:Int)<((lenS v:Nat):Int):=by omega
 unfold tRow at ra
 have t1:Int.toNat 1=1:=rfl
 have hsp:∀r,rightB (ws.getD 1 [])=r→secP L ws=if r=false then(40,L)else if(nameOf L (ws.getD 1 [])).isSome then(41,L)else if L.s.length=64 then(3,L)else(0,{L with s:=L.s++[ws.getD 1 []]}):=by
  intro r hr
  unfold secP
  rw[hr]
  cases r
  ·rw[if_pos (.inr rfl),if_pos rfl]
  ·have e:¬(ws.length≠2∨False):=by intro e;rcases e with e|e;exact e h2;exact e
   simp only[Bool.true_eq_false,if_false,if_neg e]
 simp(disch:=first|assumption|omega)only[f50,W_block,P3,seval,initFr,clsA,la,e2,ra,na,a_load1v,t1]
 refine callQ (t37 _ _ (Nat.le_trans hlen (by decide))) ?_
 cases hr:rightB (ws.getD 1 [])with
 |false=>
  have ep:secP L ws=(40,L):=by rw[hsp _ hr];rfl
  simp(disch:=first|assumption|omega)only[W_block,P3,seval,initFr,clsA]
  refine hq2 _ _ ⟨_,rfl,h.sep.k,by rw[ep];rfl,by rw[ep];intro e;cases e⟩
 |true=>
 have hsp2:=hsp _ hr
 simp only[Bool.true_eq_false,if_false]at hsp2
 have ls:lenS u.s=L.s.length:=h.ly.s.len
 have is:=Sl.is h.ly.s
 simp(disch:=first|assumption|omega)only[W_block,P3,seval,initFr,clsA,la,ra,na,a_load1v,t1,gb,ls]
 refine callK (h.fresh (ws.getD 1 []) (80,((L.s.length:Nat):Int))) ?_
 rintro _ K1 ⟨rfl,c1,hs1⟩
 have kk1:=h.sep.k.chg_trans c1 (fun y hy=>h.sep.gei 1 rfl (by simpa[thM]using hy))
 cases hn:nameOf L (ws.getD 1 [])with
 |some y=>
  have ep:secP L ws=(41,L):=by rw[hsp2,hn];rfl
  simp(disch:=first|assumption|omega)only[W_block,P3,seval,initFr,clsA,Option.isSome_some,Bool.not_true]
  refine hq2 _ _ ⟨_,rfl,kk1,by rw[ep];rfl,by rw[ep];intro e;cases e⟩
 |none=>
 have sep1:=hs1 hn
 have gb1:K1.get b=some (bkO u mb):=sep1.at_ 0 rfl
 have as1:AP K1 9 1 u.s L.s.length (L.s.map tRow).flatten:=sep1.at_ 2 rfl
 simp only[bkO]at gb1
 have hv1:TL K1 v ws:=Sl.chgT hv c1 (fun y hy hm=>ha y hy (thM mb M) (by simp[bkT]) (by simpa[thM]using hm))
 obtain⟨na1,ra1⟩:=hv1.at_ (i:=1) (by omega)
 unfold tRow at ra1
 by_cases h64:L.s.length=64
 ·have e3:(((L.s.length:Nat):Int)==64)=true:=by simp;omega
  have ep:secP L ws=(3,L):=by rw[hsp2,hn];simp[h64]
  simp(disch:=first|assumption|omega)only[W_block,P3,seval,initFr,clsA,Option.isSome_none,Bool.not_false,gb1,ls,e3]
  refine hq2 _ _ ⟨_,rfl,kk1,by rw[ep];rfl,by rw[ep];intro e;cases e⟩
 ·have e3:(((L.s.length:Nat):Int)==64)=false:=by simp;omega
  have ep:secP L ws=(0,{L with s:=L.s++[ws.getD 1 []]}):=by rw[hsp2,hn];simp[h64]
  simp(disch:=first|assumption|omega)only[W_block,P3,seval,initFr,clsA,Option.isSome_none,Bool.not_false,gb1,ls,e3,ra1,na1,a_load1v,t1,fill1s]
  have sep2:=sep1.keeps ((Keeps.refl K1).alloc (.cells true false 1 [.string ⟨(ws.getD 1 []).toArray⟩] 9))
  have as2:AP _ 9 1 u.s L.s.length (L.s.map tRow).flatten:=sep2.at_ 2 rfl
  refine appGD as2 ⟨_,_,rfl⟩ (elems_new rfl rfl) rfl ⟨by omega,by omega⟩ ?_
  intro v' K3 a3 c3 hb3
  have ov:v'.oneCell'=true:=by obtain⟨a,rfl⟩:=a3.shape;rfl
  have o1:one1 v'=True:=by simp[one1,ov]
  have sep3:=sep2.u2 (t':=thA 9 1 v' (L.s.length+1) ((L.s.map tRow).flatten++[Value.string ⟨(ws.getD 1 []).toArray⟩])) c3 a3 (fun y hy=>by
   rcases hb3 with e|e
   ·left;have:=mem_blkL.1 hy;rw[e]at this;exact mem_blkL.2 this
   ·right;have:=mem_blkL.1 hy;rw[e]at this;cases this;exact Nat.le_refl _)
  have gb3:K3.get b=some (bkO u mb):=sep3.at_ 0 rfl
  simp only[bkO]at gb3
  simp(disch:=first|assumption|omega)only[W_block,P3,seval,initFr,clsA,gb3,o1,ov]
  have sep4:=sep3.u0 (t':=thB b (bkO ⟨v',u.p,u.g,u.r⟩ mb)) (Chg.set K3 (AHeap.get_lt gb3) (bkO ⟨v',u.p,u.g,u.r⟩ mb)) (AHeap.get_set_same gb3 _) (fun y hy=>.inl hy)
  refine hq2 _ _ ⟨_,rfl,sep4.k,by rw[ep];rfl,fun _=>⟨⟨v',u.p,u.g,u.r⟩,M++[(ws.getD 1 [],(80,((L.s.length:Nat):Int)))],?_⟩⟩
  rw[ep]
  have ef:(L.s.map tRow).flatten++[Value.string ⟨(ws.getD 1 []).toArray⟩]=((L.s++[ws.getD 1 []]).map tRow).flatten:=by simp[tRow]
  rw[ef]at sep4
  refine⟨?_,h.e,fun m=>?_⟩
  ·have:L.s.length+1=(L.s++[ws.getD 1 []]).length:=by simp
   rw[this]at sep4
   exact sep4
  ·rw[bfind_app,h.n];exact nameOf_s hn m
end Go.AM.Fd

namespace Go.AM.Fd
open Go.Proofs Go.AM.F
theorem nameOf_p{L:Ly}{n:List UInt8}(i:Int)(h:nameOf L n=none)(m:List UInt8):(match nameOf L m with
 |some y=>some y
 |none=>if m=n then some (81,((L.p.length:Nat):Int))else none)=nameOf {L with p:=L.p++[(n,i)]} m:=by
 have e0:(L.p++[(n,i)]).map (·.1)=L.p.map (·.1)++[n]:=by simp
 have el:(L.p.map (·.1)).length=L.p.length:=by simp
 unfold nameOf at h ⊢
 simp only[e0,ixT_app,el]
 by_cases e:m=n
 ·subst e
  cases hs:ixT m L.s with
  |some j=>simp[hs]at h
  |none=>
   rw[hs]at h
   simp only at h ⊢
   cases hp:ixT m (L.p.map (·.1))with
   |some j=>simp[hp]at h
   |none=>
    rw[hp]at h
    simp only at h ⊢
    rw[h];simp
 ·have e':¬n=m:=fun x=>e x.symm
  simp only[if_neg e']
  cases hs:ixT m L.s with
  |some j=>rfl
  |none=>
   simp only[if_neg e]
   cases hp:ixT m (L.p.map (·.1))with
   |some j=>rfl
   |none=>
    simp only
    cases hg:ixT m (L.g.map (·.1))with
    |some j=>rfl
    |none=>
     simp only
     cases hr:ixT m (L.r.map (·.n))<;>rfl
theorem nameOf_g{L:Ly}{n:List UInt8}(i:Int)(h:nameOf L n=none)(m:List UInt8):(match nameOf L m with
 |some y=>some y
 |none=>if m=n then some (83,((L.g.length:Nat):Int))else none)=nameOf {L with g:=L.g++[(n,i)]} m:=by
 have e0:(L.g++[(n,i)]).map (·.1)=L.g.map (·.1)++[n]:=by simp
 have el:(L.g.map (·.1)).length=L.g.length:=by simp
 unfold nameOf at h ⊢
 simp only[e0,ixT_app,el]
 by_cases e:m=n
 ·subst e
  cases hs:ixT m L.s with
  |some j=>simp[hs]at h
  |none=>
   rw[hs]at h
   simp only at h ⊢
   cases hp:ixT m (L.p.map (·.1))with
   |some j=>simp[hp]at h
   |none=>
    rw[hp]at h
    simp only at h ⊢
    cases hg:ixT m (L.g.map (·.1))with
    |some j=>simp[hg]at h
    |none=>
     rw[hg]at h
     simp only at h ⊢
     rw[h];simp
 ·have e':¬n=m:=fun x=>e x.symm
  simp only[if_neg e']
  cases hs:ixT m L.s with
  |some j=>rfl
  |none=>
   simp only[if_neg e]
   cases hp:ixT m (L.p.map (·.1))with
   |some j=>rfl
   |none=>
    simp only
    cases hg:ixT m (L.g.map (·.1))with
    |some j=>rfl
    |none=>
     simp only
     cases hr:ixT m (L.r.map (·.n))<;>rfl
def kN(t:Nat)(L:Ly)(n:List UInt8):Option Int:=match nameOf L n with
 |some (u,i)=>if u=t then some i else none
 |none=>none
theorem BkR.kN{B K:AHeap}{b mb:Nat}{u:V4}{xs:List RV}{L:Ly}{M:MB}{ex:List Th}(h:BkR B K b mb u xs L M ex)(t:Nat)(n:List UInt8):kOf t M n=kN t L n:=by
 unfold kOf Fd.kN;rw[h.n];try (cases nameOf L n<;>rfl)
theorem a_mgetT{K:AHeap}{mb:Nat}{M:MB}(hm:MP sEnc K mb (mbs M))(n:List UInt8):asem (.mget .string .nilIface true (.map (some mb)) (.string ⟨n.toArray⟩)) K=some (.tuple #[((bfind n M).map mval).getD .nilIface,.bool (bfind n M).isSome],K):=by
 have:=a_mget sEnc_e hm n .nilIface true
 rw[mfind_mbs]at this
 simp only[sEnc]at this
 rw[this]
 cases bfind n M<;>rfl
end Go.AM.Fd

namespace Go.AM.Fd
open Nat (reduceAdd reduceEqDiff reduceLT reduceLeDiff reduceMul reduceSub)
open Go.Proofs Go.AM.F
def wPoint:List UInt8:=[112,111,105,110,116]
def partP(L:Ly)(ws:List (List UInt8)):Int×Ly:=
 if ws.length≠3∨rightB (ws.getD 1 [])=false then(40,L)
 else if(nameOf L (ws.getD 1 [])).isSome then(41,L)
 else match kN 80 L (ws.getD 2 [])with
  |none=>(42,L)
  |some i=>
   if ws.getD 0 []=wPoint then(if L.p.length=32 then(3,L)else(0,{L with p:=L.p++[(ws.getD 1 [],i)]}))
   else if L.g.length=32 then(3,L)else(0,{L with g:=L.g++[(ws.getD 1 [],i)]})
set_option maxHeartbeats 4000000 in
theorem t51{B K:AHeap}{b mb:Nat}{u:V4}{xs:List RV}{L:Ly}{M:MB}{ex:List Th}{v:Value}{ws:List (List UInt8)}(h:BkR B K b mb u xs L M ex)(hv:TL K v ws)(ha:Aw v (bkT b mb u xs L M ex))(hl:ws.length≤1000000000)(hw:∀w∈ws,w.length≤1000000000)(hpl:L.p.length≤32)(hgl:L.g.length≤32):
 ∃w K',ARun Tryz.prog 4 51 [ptr b 0,v] K w K'∧Keeps B K'∧w=.int .i64 (partP L ws).1 ∧((partP L ws).1 =0→∃u' M',BkR B K' b mb u' xs (partP L ws).2 M' ex):=by
 refine walk2 f51_ok f51_n ?_
 intro Q hq1 hq2
 have ia:=Sl.is hv
 have la:=hv.len
 have gb:=h.gb
 simp only[bkO]at gb
 by_cases h2:ws.length=3
 rotate_left
 ·have e2:(((ws.length:Nat):Int) != 3)=true:=by simp;omega
  have ep:partP L ws=(40,L):=by simp[partP,h2]
  simp(disch:=first|assumption|omega)only[f51,W_block,P3,seval,initFr,clsA,la,e2]
  refine hq2 _ _ ⟨_,rfl,h.sep.k,by rw[ep];rfl,by rw[ep];intro e;cases e⟩
 have e2:(((ws.length:Nat):Int) != 3)=false:=by simp;omega
 obtain⟨na,ra⟩:=hv.at_ (i:=1) (by omega)
 obtain⟨_,rb⟩:=hv.at_ (i:=2) (by omega)
 obtain⟨_,rc⟩:=hv.at_ (i:=0) (by omega)
 have hlen:=hw _ (getD_mem (d:=[]) (show 1<ws.length by omega))
 have h0:(0:Int)≤0:=by omega
 have h1:(0:Int)≤1:=by omega
 have h12:(0:Int)≤2:=by omega
 have h3:(1:Int)<((lenS v:Nat):Int):=by omega
 have h32:(2:Int)<((lenS v:Nat):Int):=by omega
 have h30:(0:Int)<((lenS v:Nat):Int):=by omega
 unfold tRow at ra rb rc
 have t1:Int.toNat 1=1:=rfl
 have t2:Int.toNat 2=2:=rfl
 have ed:partP L ws=if rightB (ws.getD 1 [])=false then((40:Int),L)else if(nameOf L (ws.getD 1 [])).isSome then(41,L)else match kN 80 L (ws.getD 2 [])with
  |none=>(42,L)
  |some i=>if ws.getD 0 []=wPoint then(if L.p.length=32 then(3,L)else(0,{L with p:=L.p++[(ws.getD 1 [],i)]}))else if L.g.length=32 then(3,L)else(0,{L with g:=L.g++[(ws.getD 1 [],i)]}):=by
  unfold partP
  cases rightB (ws.getD 1 [])with
  |false=>rw[if_pos (.inr rfl),if_pos rfl]
  |true=>
   have e:¬(ws.length≠3∨False):=by intro e;rcases e with e|e;exact e h2;exact e
   simp only[Bool.true_eq_false,if_false,if_neg e]
 simp(disch:=first|assumption|omega)only[f51,W_block,P3,seval,initFr,clsA,la,e2,ra,na,a_load1v,t1]
 refine callQ (t37 _ _ (Nat.le_trans hlen (by decide))) ?_
 cases hr:rightB (ws.getD 1 [])with
 |false=>
  have ep:partP L ws=(40,L):=by rw[ed,hr];rfl
  simp(disch:=first|assumption|omega)only[W_block,P3,seval,initFr,clsA]
  refine hq2 _ _ ⟨_,rfl,h.sep.k,by rw[ep];rfl,by rw[ep];intro e;cases e⟩
 |true=>
 simp only[hr,Bool.true_eq_false,if_false]at ed
 have gm:=a_mgetT h.gm (ws.getD 1 [])
 have gn:=a_mgetN h.gm (ws.getD 2 [])
 have ga:=a_assertN (K:=K) 80 (ws.getD 2 []) M
 rw[h.n]at gm
 rw[h.kN]at ga
 cases hn:nameOf L (ws.getD 1 [])with
 |some y=>
  have ep:partP L ws=(41,L):=by rw[ed,hn];rfl
  rw[hn]at gm
  simp only[Option.isSome_some]at gm
  simp(disch:=first|assumption|omega)only[W_block,P3,seval,initFr,clsA,la,ra,na,a_load1v,t1,gb,sd_mget,gm]
  refine hq2 _ _ ⟨_,rfl,h.sep.k,by rw[ep];rfl,by rw[ep];intro e;cases e⟩
 |none=>
 rw[hn]at gm
 simp only[hn,Option.isSome_none,Bool.false_eq_true,if_false]at ed gm
 cases hk:kN 80 L (ws.getD 2 [])with
 |none=>
  have ep:partP L ws=(42,L):=by rw[ed,hk]
  rw[hk]at ga
  simp only[Option.getD_none,Option.isSome_none]at ga
  simp(disch:=first|assumption|omega)only[W_block,P3,seval,initFr,clsA,la,ra,rb,na,a_load1v,t1,t2,gb,sd_mget,gm,gn,ga]
  refine hq2 _ _ ⟨_,rfl,h.sep.k,by rw[ep];rfl,by rw[ep];intro e;cases e⟩
 |some i=>
 simp only[hk]at ed
 rw[hk]at ga
 simp only[Option.getD_some,Option.isSome_some]at ga
 have t0:Int.toNat 0=0:=rfl
 have hq:binA .eql (.string ⟨(ws.getD 0 []).toArray⟩) (.string ⟨⟨[112,111,105,110,116]⟩⟩)=some (.bool (decide (ws.getD 0 []=wPoint))):=b_eqS _ wPoint
 have lp:lenS u.p=L.p.length:=h.ly.p.len
 have lg:lenS u.g=L.g.length:=h.ly.g.len
 have ip:=Sl.is h.ly.p
 have ig:=Sl.is h.ly.g
 by_cases hq0:ws.getD 0 []=wPoint
 ·simp only[hq0,decide_true,if_true]at hq ed
  rw[hq0]at rc
  by_cases h64:L.p.length=32
  ·have e3:(((L.p.length:Nat):Int)==32)=true:=by simp;omega
   have ep:partP L ws=(3,L):=by rw[ed,if_pos h64]
   simp(disch:=first|assumption|omega)only[W_block,P3,seval,initFr,clsA,la,ra,rb,rc,na,a_load1v,t1,t2,t0,gb,sd_mget,gm,gn,ga,hq,lp,e3]
   refine hq2 _ _ ⟨_,rfl,h.sep.k,by rw[ep];rfl,by rw[ep];intro e;cases e⟩
  have e3:(((L.p.length:Nat):Int)==32)=false:=by simp;omega
  have ep:partP L ws=(0,{L with p:=L.p++[(ws.getD 1 [],i)]}):=by rw[ed,if_neg h64]
  simp(disch:=first|assumption|omega)only[W_block,P3,seval,initFr,clsA,la,ra,rb,rc,na,a_load1v,t1,t2,t0,gb,sd_mget,gm,gn,ga,hq,lp,e3]
  refine callK (h.fresh (ws.getD 1 []) (81,((L.p.length:Nat):Int))) ?_
  rintro _ K1 ⟨rfl,c1,hs1⟩
  have sep1:=hs1 hn
  have gb1:K1.get b=some (bkO u mb):=sep1.at_ 0 rfl
  simp only[bkO]at gb1
  have hv1:TL K1 v ws:=Sl.chgT hv c1 (fun y hy hm=>ha y hy (thM mb M) (by simp[bkT]) (by simpa[thM]using hm))
  obtain⟨na1,ra1⟩:=hv1.at_ (i:=1) (by omega)
  unfold tRow at ra1
  have hf2:fillA [.string ByteArray.empty,.int .i64 0] [(0,1,.string ⟨(ws.getD 1 []).toArray⟩),(1,1,.int .i64 i)]=some [.string ⟨(ws.getD 1 []).toArray⟩,.int .i64 i]:=rfl
  have hf3:fillA [.string ByteArray.empty,.int .i64 0] [(0,2,.agg #[.string ⟨(ws.getD 1 []).toArray⟩,.int .i64 i])]=some [.string ⟨(ws.getD 1 []).toArray⟩,.int .i64 i]:=rfl
  simp(disch:=first|assumption|omega)only[W_block,P3,seval,initFr,clsA,gb1,ra1,na1,a_load1v,t1,hf2,hf3]
  have sep2:=sep1.keeps ((Keeps.refl K1).alloc (.cells true false 2 [.string ⟨(ws.getD 1 []).toArray⟩,.int .i64 i] 46))
  have as2:AP _ 46 2 u.p L.p.length (L.p.map pRow).flatten:=sep2.at_ 3 rfl
  refine appGD as2 ⟨_,_,rfl⟩ (elems_new rfl rfl) rfl ⟨by omega,by omega⟩ ?_
  intro v' K3 a3 c3 hb3
  have ov:v'.oneCell'=true:=by obtain⟨a,rfl⟩:=a3.shape;rfl
  have o1:one1 v'=True:=by simp[one1,ov]
  have sep3:=sep2.u3 (t':=thA 46 2 v' (L.p.length+1) ((L.p.map pRow).flatten++[Value.string ⟨(ws.getD 1 []).toArray⟩,Value.int .i64 i])) c3 a3 (fun y hy=>by
   rcases hb3 with e|e
   ·left;have:=mem_blkL.1 hy;rw[e]at this;exact mem_blkL.2 this
   ·right;have:=mem_blkL.1 hy;rw[e]at this;cases this;exact Nat.le_refl _)
  have gb3:K3.get b=some (bkO u mb):=sep3.at_ 0 rfl
  simp only[bkO]at gb3
  simp(disch:=first|assumption|omega)only[W_block,P3,seval,initFr,clsA,gb3,o1,ov]
  have sep4:=sep3.u0 (t':=thB b (bkO ⟨u.s,v',u.g,u.r⟩ mb)) (Chg.set K3 (AHeap.get_lt gb3) (bkO ⟨u.s,v',u.g,u.r⟩ mb)) (AHeap.get_set_same gb3 _) (fun y hy=>.inl hy)
  refine hq2 _ _ ⟨_,rfl,sep4.k,by rw[ep];rfl,fun _=>⟨⟨u.s,v',u.g,u.r⟩,M++[(ws.getD 1 [],(81,((L.p.length:Nat):Int)))],?_⟩⟩
  rw[ep]
  have ef:(L.p.map pRow).flatten++[Value.string ⟨(ws.getD 1 []).toArray⟩,Value.int .i64 i]=((L.p++[(ws.getD 1 [],i)]).map pRow).flatten:=by simp[pRow]
  rw[ef]at sep4
  refine⟨?_,h.e,fun m=>?_⟩
  ·have:L.p.length+1=(L.p++[(ws.getD 1 [],i)]).length:=by simp
   rw[this]at sep4
   exact sep4
  ·rw[bfind_app,h.n];exact nameOf_p i hn m
 ·have hd:decide (ws.getD 0 []=wPoint)=false:=by simpa using hq0
  rw[hd]at hq
  simp only[if_neg hq0]at ed
  by_cases h64:L.g.length=32
  ·have e3:(((L.g.length:Nat):Int)==32)=true:=by simp;omega
   have ep:partP L ws=(3,L):=by rw[ed,if_pos h64]
   simp(disch:=first|assumption|omega)only[W_block,P3,seval,initFr,clsA,la,ra,rb,rc,na,a_load1v,t1,t2,t0,gb,sd_mget,gm,gn,ga,hq,lg,e3]
   refine hq2 _ _ ⟨_,rfl,h.sep.k,by rw[ep];rfl,by rw[ep];intro e;cases e⟩
  have e3:(((L.g.length:Nat):Int)==32)=false:=by simp;omega
  have ep:partP L ws=(0,{L with g:=L.g++[(ws.getD 1 [],i)]}):=by rw[ed,if_neg h64]
  simp(disch:=first|assumption|omega)only[W_block,P3,seval,initFr,clsA,la,ra,rb,rc,na,a_load1v,t1,t2,t0,gb,sd_mget,gm,gn,ga,hq,lg,e3]
  refine callK (h.fresh (ws.getD 1 []) (83,((L.g.length:Nat):Int))) ?_
  rintro _ K1 ⟨rfl,c1,hs1⟩
  have sep1:=hs1 hn
  have gb1:K1.get b=some (bkO u mb):=sep1.at_ 0 rfl
  simp only[bkO]at gb1
  have hv1:TL K1 v ws:=Sl.chgT hv c1 (fun y hy hm=>ha y hy (thM mb M) (by simp[bkT]) (by simpa[thM]using hm))
  obtain⟨na1,ra1⟩:=hv1.at_ (i:=1) (by omega)
  unfold tRow at ra1
  have hf2:fillA [.string ByteArray.empty,.int .i64 0] [(0,1,.string ⟨(ws.getD 1 []).toArray⟩),(1,1,.int .i64 i)]=some [.string ⟨(ws.getD 1 []).toArray⟩,.int .i64 i]:=rfl
  have hf3:fillA [.string ByteArray.empty,.int .i64 0] [(0,2,.agg #[.string ⟨(ws.getD 1 []).toArray⟩,.int .i64 i])]=some [.string ⟨(ws.getD 1 []).toArray⟩,.int .i64 i]:=rfl
  simp(disch:=first|assumption|omega)only[W_block,P3,seval,initFr,clsA,gb1,ra1,na1,a_load1v,t1,hf2,hf3]
  have sep2:=sep1.keeps ((Keeps.refl K1).alloc (.cells true false 2 [.string ⟨(ws.getD 1 []).toArray⟩,.int .i64 i] 47))
  have as2:AP _ 47 2 u.g L.g.length (L.g.map pRow).flatten:=sep2.at_ 4 rfl
  refine appGD as2 ⟨_,_,rfl⟩ (elems_new rfl rfl) rfl ⟨by omega,by omega⟩ ?_
  intro v' K3 a3 c3 hb3
  have ov:v'.oneCell'=true:=by obtain⟨a,rfl⟩:=a3.shape;rfl
  have o1:one1 v'=True:=by simp[one1,ov]
  have sep3:=sep2.u4 (t':=thA 47 2 v' (L.g.length+1) ((L.g.map pRow).flatten++[Value.string ⟨(ws.getD 1 []).toArray⟩,Value.int .i64 i])) c3 a3 (fun y hy=>by
   rcases hb3 with e|e
   ·left;have:=mem_blkL.1 hy;rw[e]at this;exact mem_blkL.2 this
   ·right;have:=mem_blkL.1 hy;rw[e]at this;cases this;exact Nat.le_refl _)
  have gb3:K3.get b=some (bkO u mb):=sep3.at_ 0 rfl
  simp only[bkO]at gb3
  simp(disch:=first|assumption|omega)only[W_block,P3,seval,initFr,clsA,gb3,o1,ov]
  have sep4:=sep3.u0 (t':=thB b (bkO ⟨u.s,u.p,v',u.r⟩ mb)) (Chg.set K3 (AHeap.get_lt gb3) (bkO ⟨u.s,u.p,v',u.r⟩ mb)) (AHeap.get_set_same gb3 _) (fun y hy=>.inl hy)
  refine hq2 _ _ ⟨_,rfl,sep4.k,by rw[ep];rfl,fun _=>⟨⟨u.s,u.p,v',u.r⟩,M++[(ws.getD 1 [],(83,((L.g.length:Nat):Int)))],?_⟩⟩
  rw[ep]
  have ef:(L.g.map pRow).flatten++[Value.string ⟨(ws.getD 1 []).toArray⟩,Value.int .i64 i]=((L.g++[(ws.getD 1 [],i)]).map pRow).flatten:=by simp[pRow]
  rw[ef]at sep4
  refine⟨?_,h.e,fun m=>?_⟩
  ·have:L.g.length+1=(L.g++[(ws.getD 1 [],i)]).length:=by simp
   rw[this]at sep4
   exact sep4
  ·rw[bfind_app,h.n];exact nameOf_g i hn m
end Go.AM.Fd

namespace Go.AM.Fd
open Nat (reduceAdd reduceEqDiff reduceLT reduceLeDiff reduceMul reduceSub)
open Go.Proofs Go.AM.F
def oAll {α : Type} (f : List UInt8 → Option α) : List (List UInt8) → Option (List α)
 | [] => some []
 | n :: l => match f n with
  | some i => (oAll f l).map (i :: ·)
  | none => none
theorem oAll_snoc {α : Type} (f : List UInt8 → Option α) (n : List UInt8) : ∀ (a : List (List UInt8)), oAll f (a ++ [n]) = match oAll f a, f n with
  | some l, some i => some (l ++ [i])
  | _, _ => none
 | [] => by simp only [List.nil_append, oAll]; cases f n <;> rfl
 | x :: a => by
  simp only [List.cons_append, oAll, oAll_snoc f n a]
  cases f x with
  | none => cases f n <;> rfl
  | some i => cases oAll f a <;> cases f n <;> rfl
theorem oAll_stop {α : Type} {f : List UInt8 → Option α} {n : List UInt8} (h : f n = none) : ∀ {l : List (List UInt8)}, n ∈ l → oAll f l = none
 | x :: l, hm => by
  simp only [oAll]
  rcases List.mem_cons.1 hm with rfl | hm
  ·rw [h]
  ·rw [oAll_stop h hm]; cases f x <;> rfl
theorem kAll_o (t : Nat) (M : MB) : ∀ l : List (List UInt8), kAll t M l = oAll (kOf t M) l
 | [] => rfl
 | n :: l => by simp only [kAll, oAll, kAll_o t M l]; cases kOf t M n <;> rfl
theorem nAll_o (t : Nat) (M : MB) : ∀ l : List (List UInt8), nAll t M l = oAll (nOf t M) l
 | [] => rfl
 | n :: l => by simp only [nAll, oAll, nAll_o t M l]; cases nOf t M n <;> rfl
def sIx (L : Ly) (n : List UInt8) : Option Int := (ixT n L.s).map fun i => (i : Int)
theorem kN_s (L : Ly) (n : List UInt8) : kN 80 L n = sIx L n := by
 unfold kN nameOf sIx
 cases ixT n L.s with
 | some i => rfl
 | none =>
  cases ixT n (L.p.map (·.1)) with
  | some i => rfl
  | none =>
   cases ixT n (L.g.map (·.1)) with
   | some i => rfl
   | none => cases ixT n (L.r.map (·.n)) <;> rfl
theorem ixV_s (L : Ly) (n : List UInt8) : (sIx L n = none ∧ ixV n L.s = -1) ∨ ∃ i : Nat, sIx L n = some (i : Int) ∧ ixV n L.s = (i : Int) := by
 unfold sIx ixV
 cases ixT n L.s with
 | none => exact .inl ⟨rfl, rfl⟩
 | some i => exact .inr ⟨i, rfl, rfl⟩
set_option maxHeartbeats 1000000 in
theorem t73 {H : AHeap} {u : V4} {xs : List RV} {L : Ly} {v : Value} {ws : List (List UInt8)} (h : LyR H u xs L) (hs : L.s.length ≤ 1000000000) (hv : TL H v ws) (hl : ws.length ≤ 1000000000) :
  ∃ w H', ARun Tryz.prog 4 73 [.agg u.l.toArray, v] H w H' ∧ Keeps H H' ∧ ∃ x, w = .tuple #[x, .int .i64 (if (oAll (sIx L) ws).isSome then 0 else 42)] ∧ OW 3 1 H H' x (((oAll (sIx L) ws).getD []).map iRow) := by
 refine walk2 f73_ok f73_n ?_
 intro Q hq1 hq2
 have os := Sl.one h.s
 have op := Sl.one h.p
 have og := Sl.one h.g
 have or := Sl.one h.r
 have ia := Sl.is hv
 have la := hv.len
 have kv := vB_k H u
 have gv := vB_g H u
 unfold vB at kv gv
 obtain ⟨us, up, ug, ur⟩ := u
 simp only [V4.l] at *
 simp (disch := first | assumption | omega) only [ f73, P3, seval, initFr, clsA, os, op, og, or]
 generalize H.alloc (.cells true false 4 [us, up, ug, ur] 30) = K0 at *
 rw [W_block]
 refine W_loop2 (fun k fr K => ∃ i s l x7 x8 x9, fr = [.agg #[us, up, ug, ur], v, ptr H.n 0, .slice none 0 0, .int .i64 0, s, .int .i64 ((i : Nat) : Int), x7, x8, x9] ∧ OW 3 1 K0 K s (l.map iRow) ∧ oAll (sIx L) (ws.take i) = some l ∧ l.length = i ∧ i ≤ ws.length ∧ k = ws.length - i) ws.length
  ⟨0, _, [], _, _, _, rfl, OW.nil _ _ (Keeps.refl K0), by simp [oAll], rfl, by omega, rfl⟩ ?_
 rintro Q' k fr K ⟨i, s, l, x7, x8, x9, rfl, ho, hp, hll, hi, rfl⟩ hn hx hret
 have hb := ho.base kv
 by_cases hlt : i < ws.length
 ·obtain ⟨na, ra⟩ := (hv.keeps hb.k).at_ hlt
  have h0 : (0 : Int) ≤ (i : Int) := by omega
  have h1 : (i : Int) < ((lenS v : Nat) : Int) := by omega
  have h3 : (i : Int) < ((ws.length : Nat) : Int) := by omega
  have hw : IntKind.i64.wrap ((i : Int) + 1) = ((i + 1 : Nat) : Int) := by rw [wrap_i64 (by omega) (by omega)]; simp
  have gl := ho.k.at_ gv
  have ts := oAll_snoc (sIx L) (ws.getD i []) (ws.take i)
  rw [← take_snoc [] hlt, hp] at ts
  have stop := fun e => oAll_stop (f := sIx L) (n := ws.getD i []) e (l := ws) (getD_mem hlt)
  unfold tRow at ra
  generalize ws.getD i [] = n at *
  simp (disch := first | assumption | omega) only [W_block, P3, seval, initFr, clsA, la, ra, na, a_load1v, gl]
  refine callQ (t44 (h.s.keeps hb.k) hs n) ?_
  rcases ixV_s L n with ⟨e1, e2⟩ | ⟨j, e1, e2⟩
  ·rw [e2]
   have c1 : (-1 : Int) < 0 := by omega
   simp (disch := first | assumption | omega) only [W_block, P3, seval, initFr, clsA]
   refine hret _ _ (hq2 _ _ ⟨_, rfl, hb.k, .slice none 0 0, ?_, ?_⟩)
   ·rw [stop e1]; rfl
   ·rw [stop e1]; exact OW.nil _ _ hb.k
  ·rw [e2]
   rw [e1] at ts
   have c1 : ¬ ((j : Nat) : Int) < 0 := by omega
   simp (disch := first | assumption | omega) only [W_block, P3, seval, initFr, clsA]
   have ho2 := ho.keeps ((Keeps.refl K).alloc (.cells true false 1 [.int .i64 ((j : Nat) : Int)] 3))
   refine ho2.appR (b := 8) (Sl.one1 rfl rfl) (by simp only [List.length_map, List.length_cons, List.length_nil]; omega) ?_
   intro v' K' ho3 _
   simp (disch := first | assumption | omega) only [W_block, P3, seval, initFr, clsA, hw]
   refine hn _ _ _ ⟨i + 1, _, l ++ [((j : Nat) : Int)], _, _, _, rfl, ?_, ts, by simp [hll], by omega, rfl⟩ (by omega)
   simpa [iRow] using ho3
 ·have h3 : ¬ (i : Int) < ((ws.length : Nat) : Int) := by omega
  simp (disch := first | assumption | omega) only [W_block, P3, seval, initFr, clsA, la]
  refine hx 0 _ _ ?_
  simp (disch := first | assumption | omega) only [W_block, P3, seval, initFr, clsA]
  rw [List.take_of_length_le (by omega)] at hp
  refine hq2 _ _ ⟨_, rfl, hb.k, s, ?_, ?_⟩
  ·rw [hp]; rfl
  ·rw [hp]; exact hb
end Go.AM.Fd

namespace Go.AM.Fd
open Nat (reduceAdd reduceEqDiff reduceLT reduceLeDiff reduceMul reduceSub)
open Go.Proofs Go.AM.F
theorem suf1{n:List UInt8}(c:UInt8)(h:1≤n.length):sufB [c] n=decide (n.getD (n.length-1) 0=c):=by
 have e:n.drop (n.length-1)=[n.getD (n.length-1) 0]:=by
  rw[drop_at (by omega),List.drop_of_length_le (by omega)]
 have e1:decide ([c].length≤n.length)=true:=by simpa using h
 unfold sufB
 rw[e1,Bool.true_and,List.length_singleton,e]
 simp
theorem u8_nei(b:UInt8)(c:Nat)(hc:c<256):(((b.toNat:Nat):Int) != (c:Int))= !decide (b=UInt8.ofNat c):=by
 have h:=u8_eqi b c hc
 show(!(((b.toNat:Nat):Int)==(c:Int)))=_
 rw[h]
 by_cases e:b=UInt8.ofNat c<;>simp[e]
set_option maxHeartbeats 1000000 in
theorem t72{H:AHeap}{v:Value}{ws:List (List UInt8)}(h:TL H v ws)(hl:ws.length≤1000000000)(hw:∀w∈ws,w.length≤1000000000):∃w H',ARun Tryz.prog 4 72 [v] H w H'∧w=.bool (ws.all shpB)∧H'=H:=by
 refine walk2 f72_ok f72_n ?_
 intro Q hq1 hq2
 have ia:=Sl.is h
 have la:=h.len
 simp(disch:=first|assumption|omega)only[f72,P3,seval,initFr,clsA]
 rw[W_block]
 refine W_loop2 (fun k fr K=>∃i x3 x4 x5,fr=[v,.bool false,.int .i64 ((i:Nat):Int),x3,x4,x5]∧K=H∧i≤ws.length∧(ws.take i).all shpB=true∧k=ws.length-i) ws.length
  ⟨0,_,_,_,rfl,rfl,by omega,by simp,rfl⟩ ?_
 rintro Q' k fr _ ⟨i,x3,x4,x5,rfl,rfl,hi,hp,rfl⟩ hn hx hret
 by_cases hlt:i<ws.length
 ·obtain⟨na,ra⟩:=h.at_ hlt
  have h0:(0:Int)≤(i:Int):=by omega
  have h1:(i:Int)<((lenS v:Nat):Int):=by omega
  have h3:(i:Int)<((ws.length:Nat):Int):=by omega
  have hwr:IntKind.i64.wrap ((i:Int)+1)=((i+1:Nat):Int):=by rw[wrap_i64 (by omega) (by omega)];simp
  have hlen:=hw _ (getD_mem (d:=[]) hlt)
  have stop:=fun e=>all_not (p:=shpB) (d:=[]) hlt e
  have go:=fun e=>all_take (p:=shpB) (d:=[]) hlt hp e
  unfold tRow at ra
  generalize ws.getD i []=n at*
  by_cases h2:n.length<2
  ·have h2':((n.length:Nat):Int)<(2:Int):=by omega
   simp(disch:=first|assumption|omega)only[W_block,P3,seval,initFr,clsA,la,ra,na,a_load1v,a_lens]
   refine hret _ _ (hq2 _ _ ⟨_,rfl,?_,rfl⟩)
   have:¬2≤n.length:=by omega
   rw[stop (by simp[shpB,this])];rfl
  ·have h2':¬((n.length:Nat):Int)<(2:Int):=by omega
   have h2n:2≤n.length:=by omega
   have hw1:IntKind.i64.wrap (((n.length:Nat):Int)-1)=((n.length-1:Nat):Int):=by rw[wrap_i64 (by omega) (by omega)];omega
   have hix:∀X,asem (.idxs (.string ⟨n.toArray⟩) (.int .i64 ((n.length-1:Nat):Int))) X=some (.int .u8 ((n.getD (n.length-1) 0).toNat:Nat),X):=fun X=>a_idxS (by omega)
   have es:shpB n=(decide (n.getD (n.length-1) 0=43)||decide (n.getD (n.length-1) 0=45)):=by
    simp only[shpB,h2n,decide_true,Bool.true_and,suf1 43 (show 1≤n.length by omega),suf1 45 (show 1≤n.length by omega)]
   rw[es]at stop go
   have q1:=u8_nei (n.getD (n.length-1) 0) 43 (by omega)
   have q2:=u8_nei (n.getD (n.length-1) 0) 45 (by omega)
   have c43:UInt8.ofNat 43=43:=rfl
   have c45:UInt8.ofNat 45=45:=rfl
   rw[c43]at q1
   rw[c45]at q2
   have q1':((((n.getD (n.length-1) 0).toNat:Nat):Int) != 43)= !decide (n.getD (n.length-1) 0=43):=q1
   have q2':((((n.getD (n.length-1) 0).toNat:Nat):Int) != 45)= !decide (n.getD (n.length-1) 0=45):=q2
   generalize n.getD (n.length-1) 0=c at*
   cases e1:decide (c=43)with
   |true=>
    rw[e1]at q1'
    simp only[Bool.not_true]at q1'
    simp(disch:=first|assumption|omega)only[W_block,P3,seval,initFr,clsA,la,ra,na,a_load1v,a_lens,hw1,hix,q1',hwr]
    exact hn _ _ _ ⟨i+1,_,_,_,rfl,rfl,by omega,go (by rw[e1];rfl),rfl⟩ (by omega)
   |false=>
    rw[e1]at q1'
    simp only[Bool.not_false]at q1'
    cases e2:decide (c=45)with
    |true=>
     rw[e2]at q2'
     simp only[Bool.not_true]at q2'
     simp(disch:=first|assumption|omega)only[W_block,P3,seval,initFr,clsA,la,ra,na,a_load1v,a_lens,hw1,hix,q1',q2',hwr]
     exact hn _ _ _ ⟨i+1,_,_,_,rfl,rfl,by omega,go (by rw[e1,e2];rfl),rfl⟩ (by omega)
    |false=>
     rw[e2]at q2'
     simp only[Bool.not_false]at q2'
     simp(disch:=first|assumption|omega)only[W_block,P3,seval,initFr,clsA,la,ra,na,a_load1v,a_lens,hw1,hix,q1',q2']
     refine hret _ _ (hq2 _ _ ⟨_,rfl,?_,rfl⟩)
     rw[stop (by rw[e1,e2];rfl)];rfl
 ·have h3:¬(i:Int)<((ws.length:Nat):Int):=by omega
  simp(disch:=first|assumption|omega)only[W_block,P3,seval,initFr,clsA,la]
  refine hx 0 _ _ ?_
  simp(disch:=first|assumption|omega)only[W_block,P3,seval,initFr,clsA]
  refine hq2 _ _ ⟨_,rfl,?_,rfl⟩
  rw[List.take_of_length_le (by omega)]at hp
  rw[hp];rfl
end Go.AM.Fd

namespace Go.AM.Fd
open Nat (reduceAdd reduceEqDiff reduceLT reduceLeDiff reduceMul reduceSub)
open Go.Proofs Go.AM.F
def pIx(L:Ly)(n:List UInt8):Option Int:=(ixT n (L.p.map (·.1))).map fun i=>(i:Int)
def nIx(L:Ly)(w:List UInt8):Option (Int×Bool):=(pIx L (w.take (w.length-1))).map fun i=>(i,sufB [45] w)
theorem ixV_p(L:Ly)(n:List UInt8):(pIx L n=none∧ixV n (L.p.map (·.1))= -1)∨∃i:Nat,pIx L n=some (i:Int)∧ixV n (L.p.map (·.1))=(i:Int):=by
 unfold pIx ixV
 cases ixT n (L.p.map (·.1))with
 |none=>exact .inl ⟨rfl,rfl⟩
 |some i=>exact .inr ⟨i,rfl,rfl⟩
set_option maxHeartbeats 2000000 in
theorem t74{H:AHeap}{u:V4}{xs:List RV}{L:Ly}{v:Value}{ws:List (List UInt8)}(h:LyR H u xs L)(hs:L.p.length≤1000000000)(hv:TL H v ws)(hl:ws.length≤1000000000)(hws:∀w∈ws,1≤w.length∧w.length≤1000000000):
 ∃w H',ARun Tryz.prog 4 74 [.agg u.l.toArray,v] H w H'∧Keeps H H'∧∃x,w=.tuple #[x,.int .i64 (if(oAll (nIx L) ws).isSome then 0 else 42)]∧OW 49 2 H H' x (((oAll (nIx L) ws).getD []).map nRow):=by
 refine walk2 f74_ok f74_n ?_
 intro Q hq1 hq2
 have os:=Sl.one h.s
 have op:=Sl.one h.p
 have og:=Sl.one h.g
 have or:=Sl.one h.r
 have ia:=Sl.is hv
 have la:=hv.len
 have ip:=Sl.is h.p
 have lp:=h.p.len
 have kv:=vB_k H u
 have gv:=vB_g H u
 unfold vB at kv gv
 obtain⟨us,up,ug,ur⟩:=u
 simp only[V4.l]at*
 simp(disch:=first|assumption|omega)only[f74,P3,seval,initFr,clsA,os,op,og,or]
 generalize H.alloc (.cells true false 4 [us,up,ug,ur] 30)=K0 at*
 rw[W_block]
 refine W_loop2 (fun k fr K=>∃i s x11,fr=[.agg #[us,up,ug,ur],v,ptr H.n 0,.slice none 0 0,.int .i64 0,s,.int .i64 ((i:Nat):Int),undef,undef,undef,undef,x11,undef,undef]∧OW 9 1 K0 K s (((L.p.take i).map (·.1)).map tRow)∧i≤L.p.length∧k=L.p.length-i) L.p.length
  ⟨0,_,_,rfl,OW.nil _ _ (Keeps.refl K0),by omega,rfl⟩ ?_
 rintro Q' k fr K ⟨i,s,x11,rfl,ho,hi,rfl⟩ hn hx hret
 have gl:=ho.k.at_ gv
 by_cases hlt:i<L.p.length
 ·obtain⟨na,ra⟩:=(h.p.keeps (kv.trans ho.k)).at_ hlt
  have h0:(0:Int)≤(i:Int):=by omega
  have h1:(i:Int)<((lenS up:Nat):Int):=by omega
  have h3:(i:Int)<((L.p.length:Nat):Int):=by omega
  have hw:IntKind.i64.wrap ((i:Int)+1)=((i+1:Nat):Int):=by rw[wrap_i64 (by omega) (by omega)];simp
  have ts:=take_snoc ([],(0:Int)) hlt
  simp(disch:=first|assumption|omega)only[W_block,P3,seval,initFr,clsA,gl,lp,ra,na,a_load1v,fill1s]
  have ho2:=ho.keeps ((Keeps.refl K).alloc (.cells true false 1 [.string ⟨(L.p.getD i ([],0)).1.toArray⟩] 9))
  refine ho2.appR (b:=16) (Sl.one1 rfl rfl) (by simp only[List.length_map,List.length_take,List.length_cons,List.length_nil];omega) ?_
  intro v' K' ho3 _
  simp(disch:=first|assumption|omega)only[W_block,P3,seval,initFr,clsA,hw]
  refine hn _ _ _ ⟨i+1,_,_,rfl,?_,by omega,rfl⟩ (by omega)
  rw[tRows_app]at ho3
  rw[ts];simpa using ho3
 ·have h3:¬(i:Int)<((L.p.length:Nat):Int):=by omega
  simp(disch:=first|assumption|omega)only[W_block,P3,seval,initFr,clsA,gl,lp]
  refine hx 0 _ _ ?_
  rw[List.take_of_length_le (by omega)]at ho
  have hns:TL K s (L.p.map (·.1)):=ho.sl
  clear hn hx hret
  have kk:=kv.trans ho.k
  obtain rfl:i=L.p.length:=by omega
  clear ho gl
  simp(disch:=first|assumption|omega)only[P3,seval,initFr,clsA]
  rw[W_block]
  refine W_loop2 (fun k fr X=>∃i o l x9 x10 x12 x13,fr=[.agg #[us,up,ug,ur],v,ptr H.n 0,.slice none 0 0,.int .i64 0,s,.int .i64 ((L.p.length:Nat):Int),o,.int .i64 ((i:Nat):Int),x9,x10,.bool false,x12,x13]∧OW 49 2 K X o (l.map nRow)∧oAll (nIx L) (ws.take i)=some l∧l.length=i∧i≤ws.length∧k=ws.length-i) ws.length
   ⟨0,_,[],_,_,_,_,rfl,OW.nil _ _ (Keeps.refl K),by simp[oAll],rfl,by omega,rfl⟩ ?_
  rintro Q2 k fr X ⟨i2,o,l,x9,x10,x12,x13,rfl,ho,hp,hll,hi2,rfl⟩ hn hx hret
  have hb:=ho.base kk
  by_cases hlt:i2<ws.length
  ·obtain⟨na,ra⟩:=(hv.keeps hb.k).at_ hlt
   have h0:(0:Int)≤(i2:Int):=by omega
   have h1:(i2:Int)<((lenS v:Nat):Int):=by omega
   have h3:(i2:Int)<((ws.length:Nat):Int):=by omega
   have hw:IntKind.i64.wrap ((i2:Int)+1)=((i2+1:Nat):Int):=by rw[wrap_i64 (by omega) (by omega)];simp
   have hlen:=hws _ (getD_mem (d:=[]) hlt)
   have ts:=oAll_snoc (nIx L) (ws.getD i2 []) (ws.take i2)
   rw[←take_snoc [] hlt,hp]at ts
   have stop:=fun e=>oAll_stop (f:=nIx L) (n:=ws.getD i2 []) e (l:=ws) (getD_mem hlt)
   unfold tRow at ra
   generalize ws.getD i2 []=n at*
   have hw1:IntKind.i64.wrap (((n.length:Nat):Int)-1)=((n.length-1:Nat):Int):=by rw[wrap_i64 (by omega) (by omega)];omega
   have hc1:∀X,asem (.slstr (.string ⟨n.toArray⟩) none (some (.int .i64 ((n.length-1:Nat):Int)))) X=some (.string ⟨(n.take (n.length-1)).toArray⟩,X):=fun X=>a_slsP (by omega)
   have hix:∀X,asem (.idxs (.string ⟨n.toArray⟩) (.int .i64 ((n.length-1:Nat):Int))) X=some (.int .u8 ((n.getD (n.length-1) 0).toNat:Nat),X):=fun X=>a_idxS (by omega)
   have q1:((((n.getD (n.length-1) 0).toNat:Nat):Int)==45)=sufB [45] n:=by
    have:=u8_eqi (n.getD (n.length-1) 0) 45 (by omega)
    rw[suf1 45 hlen.1]
    exact Eq.trans this rfl
   simp(disch:=first|assumption|omega)only[W_block,P3,seval,initFr,clsA,la,ra,na,a_load1v,a_lens,hw1,hc1]
   refine callQ (t44 (hns.keeps ho.k) (by rw[List.length_map];omega) (n.take (n.length-1))) ?_
   rcases ixV_p L (n.take (n.length-1))with⟨e1,e2⟩|⟨j,e1,e2⟩
   ·have en:nIx L n=none:=by simp[nIx,e1]
    rw[e2]
    have c1:(-1:Int)<0:=by omega
    simp(disch:=first|assumption|omega)only[W_block,P3,seval,initFr,clsA]
    refine hret _ _ (hq2 _ _ ⟨_,rfl,hb.k,.slice none 0 0,?_,?_⟩)
    ·rw[stop en];rfl
    ·rw[stop en];exact OW.nil _ _ hb.k
   ·have en:nIx L n=some ((j:Int),sufB [45] n):=by simp[nIx,e1]
    rw[e2]
    rw[en]at ts
    have c1:¬((j:Nat):Int)<0:=by omega
    have hf2:fillA [.int .i64 0,.bool false] [(0,1,.int .i64 ((j:Nat):Int)),(1,1,.bool (sufB [45] n))]=some [.int .i64 ((j:Nat):Int),.bool (sufB [45] n)]:=rfl
    have hf3:fillA [.int .i64 0,.bool false] [(0,2,.agg #[.int .i64 ((j:Nat):Int),.bool (sufB [45] n)])]=some [.int .i64 ((j:Nat):Int),.bool (sufB [45] n)]:=rfl
    simp(disch:=first|assumption|omega)only[W_block,P3,seval,initFr,clsA,la,ra,na,a_load1v,hix,q1,hf2,hf3]
    have ho2:=ho.keeps ((Keeps.refl X).alloc (.cells true false 2 [.int .i64 ((j:Nat):Int),.bool (sufB [45] n)] 49))
    refine ho2.appR (b:=16) (Sl.one1 rfl rfl) (by simp only[List.length_map,List.length_cons,List.length_nil];omega) ?_
    intro v' K' ho3 _
    simp(disch:=first|assumption|omega)only[W_block,P3,seval,initFr,clsA,hw]
    refine hn _ _ _ ⟨i2+1,_,l++[(((j:Nat):Int),sufB [45] n)],_,_,_,_,rfl,?_,ts,by simp[hll],by omega,rfl⟩ (by omega)
    simpa[nRow]using ho3
  ·have h3:¬(i2:Int)<((ws.length:Nat):Int):=by omega
   simp(disch:=first|assumption|omega)only[W_block,P3,seval,initFr,clsA,la]
   refine hx 2 _ _ ?_
   simp(disch:=first|assumption|omega)only[W_block,P3,seval,initFr,clsA]
   rw[List.take_of_length_le (by omega)]at hp
   refine hq2 _ _ ⟨_,rfl,hb.k,o,?_,?_⟩
   ·rw[hp];rfl
   ·rw[hp];exact hb
end Go.AM.Fd

namespace Go.AM.Fd
open Nat (reduceAdd reduceEqDiff reduceLT reduceLeDiff reduceMul reduceSub)
open Go.Proofs Go.AM.F
def okC(l:List UInt8)(x:Nat×Int):Bool:= !decide (x.2<32)&& !(x.2==65533&& !wholeB l x.1)
def okW(l:List UInt8):Bool:=(runF l 0).all (okC l)
def wordsB(l:List UInt8):List (List UInt8):=(splitB 32 l).filter fun t=> !t.isEmpty
def txs(ts:List (List UInt8)):List Value:=ts.map fun t=>.string ⟨t.toArray⟩
theorem txs_len(ts:List (List UInt8)):(txs ts).length=ts.length:=by simp[txs]
theorem txs_app(a:List (List UInt8))(t:List UInt8):txs a++[.string ⟨t.toArray⟩]=txs (a++[t]):=by simp[txs]
theorem AP.tl{H:AHeap}{v:Value}{ts:List (List UInt8)}(h:AP H 9 1 v ts.length (txs ts)):TL H v ts:=by
 refine AP.sl (rows:=ts.map tRow) (e:=9) (n:=ts.length) ?_ (by simp[tRow]) (by simp)
 have:(ts.map tRow).flatten=txs ts:=by
  clear h
  unfold txs
  induction ts with
  |nil=>rfl
  |cons t ts ih=>simp only[List.map_cons,List.flatten_cons,ih];rfl
 rw[this]
 simpa using h
theorem splitB_len(c:UInt8):∀l:List UInt8,(splitB c l).length≤l.length+1
 |[]=>by simp[splitB]
 |x::l=>by
  have ih:=splitB_len c l
  simp only[splitB]
  split
  ·simp;omega
  ·split
   ·rename_i p r h;rw[h]at ih;simp at ih ⊢;omega
   ·simp
theorem wordsB_len(l:List UInt8):(wordsB l).length≤l.length+1:=Nat.le_trans (List.length_filter_le ..) (splitB_len ..)
theorem ixB_drop{c:UInt8}{l:List UInt8}{f i:Nat}(hf:f≤i)(hi:i<l.length)(hc:l.getD i 0=c)(hn:∀j,f≤j→j<i→l.getD j 0≠c):ixB c (l.drop f)=some (i-f):=by
 refine ixB_at (by rw[List.length_drop];omega) ?_ (fun j hj=>?_)
 ·simp only[List.getD,List.getElem?_drop]at hc ⊢
  rw[show f+(i-f)=i by omega];exact hc
 ·have:=hn (f+j) (by omega) (by omega)
  simp only[List.getD,List.getElem?_drop]at this ⊢
  exact this
theorem ixB_drop_no{c:UInt8}{l:List UInt8}{f:Nat}(hn:∀j,f≤j→j<l.length→l.getD j 0≠c):ixB c (l.drop f)=none:=by
 refine ixB_no (fun j hj=>?_)
 rw[List.length_drop]at hj
 have:=hn (f+j) (by omega) (by omega)
 simp only[List.getD,List.getElem?_drop]at this ⊢
 exact this
def WRes(H:AHeap)(w:Value)(K:AHeap)(l:List UInt8):Prop:=
 Keeps H K∧if okW (aheadB l)then∃v,w=.tuple #[v,.int .i64 0]∧AP K 9 1 v (wordsB (aheadB l)).length (txs (wordsB (aheadB l)))∧Fresh H.n v else w=.tuple #[.slice none 0 0,.int .i64 30]
theorem ahead_len(l:List UInt8):(aheadB l).length≤l.length:=by
 unfold aheadB
 split<;>simp;omega
theorem t26(H:AHeap)(l:List UInt8)(hl:l.length≤1000000):∃w K,ARun Tryz.prog 4 26 [.string ⟨l.toArray⟩] H w K∧WRes H w K l:=by
 refine walk2 f26_ok f26_n ?_
 intro Q hq1 hq2
 have hal:=ahead_len l
 simp(disch:=first|assumption|omega)only[f26,P3,seval,initFr,clsA]
 refine callK (t53 H l (by omega)) ?_
 rintro _ K ⟨rfl,rfl⟩
 obtain⟨s,hs⟩:∃s,aheadB l=s:=⟨_,rfl⟩
 unfold WRes at hq1 hq2
 rw[hs]at hal hq1 hq2 ⊢
 simp(disch:=first|assumption|omega)only[P3,seval,initFr,clsA,a_rngS]
 rw[W_block]
 refine W_loop2 (fun k fr L=>∃p x3 x4 x9 x10 x11,fr=[.string ⟨s.toArray⟩,.slice none 0 0,.int .i64 0,x3,x4,undef,undef,undef,ptr K.n 0,x9,x10,x11,undef,undef,undef]∧L.get K.n=some (.obj true (.stringIter ⟨s.toArray⟩ p))∧Keeps K L∧
  okW s=(runF s p).all (okC s)∧k=s.length-p) s.length
  ⟨0,_,_,_,_,_,rfl,AHeap.get_alloc_new _ _,(Keeps.refl K).alloc _,rfl,rfl⟩ ?_
 rintro Q' k fr L ⟨p,x3,x4,x9,x10,x11,rfl,hg,hk,hr,rfl⟩ hn hx hret
 by_cases hp:p<s.length
 ·have hstep:=runF_step hp
  have hpos:=decB_pos (l:=s) (p:=p)
  have hset:=hk.set (Nat.le_refl _) (AHeap.get_lt hg) (.obj true (.stringIter ⟨s.toArray⟩ (p+(decB s p).2)))
  have hnext:okC s (p,((decB s p).1 :Int))=true→okW s=(runF s (p+(decB s p).2)).all (okC s):=fun h=>by rw[hr,hstep];simp[h]
  have hbad:okC s (p,((decB s p).1 :Int))=false→okW s=false:=fun h=>by rw[hr,hstep];simp[h]
  have hgs:=AHeap.get_set_same hg (.obj true (.stringIter ⟨s.toArray⟩ (p+(decB s p).2)))
  obtain⟨d,hd⟩:∃d,(decB s p).1 =d:=⟨_,rfl⟩
  rw[hd]at hnext hbad
  have hnx:=a_nextY hg hp
  rw[hd]at hnx
  by_cases c1:(d:Int)<32
  ·simp(disch:=first|assumption|omega)only[W_block,P3,seval,initFr,clsA,hnx]
   refine hret _ _ (hq2 _ _ ⟨_,rfl,hset,?_⟩)
   rw[hbad (by simp[okC,c1])]
   rfl
  ·by_cases c2:(d:Int)=65533
   ·have e2:((d:Int)==65533)=true:=by simpa using c2
    simp(disch:=first|assumption|omega)only[W_block,P3,seval,initFr,clsA,hnx,e2]
    refine callK (t54 _ s p (by omega) (by omega)) ?_
    rintro _ K2 ⟨rfl,rfl⟩
    cases c3:wholeB s p with
    |true=>
     simp(disch:=first|assumption|omega)only[W_block,P3,seval,initFr,clsA]
     exact hn _ _ _ ⟨p+(decB s p).2,_,_,_,_,_,rfl,hgs,hset,hnext (by simp[okC,c1,c2,c3]),rfl⟩ (by omega)
    |false=>
     simp(disch:=first|assumption|omega)only[W_block,P3,seval,initFr,clsA]
     refine hret _ _ (hq2 _ _ ⟨_,rfl,hset,?_⟩)
     rw[hbad (by simp[okC,c1,c2,c3])]
     rfl
   ·have e2:((d:Int)==65533)=false:=by simpa using c2
    simp(disch:=first|assumption|omega)only[W_block,P3,seval,initFr,clsA,hnx,e2]
    exact hn _ _ _ ⟨p+(decB s p).2,_,_,_,_,_,rfl,hgs,hset,hnext (by simp[okC,c1,c2]),rfl⟩ (by omega)
 ·have hend:=runF_end hp
  rw[hend]at hr
  simp only[List.all_nil]at hr
  rw[hr]at hq1 hq2
  simp only[if_true]at hq1 hq2
  simp(disch:=first|assumption|omega)only[W_block,P3,seval,initFr,clsA,a_nextN hg hp]
  refine hx 0 _ _ ?_
  simp(disch:=first|assumption|omega)only[P3,seval,initFr,clsA]
  rw[W_block]
  refine W_loop2 (fun k fr M=>∃i f ts v x12 x13 x14,fr=[.string ⟨s.toArray⟩,.slice none 0 0,.int .i64 0,x3,x4,v,.int .i64 ((f:Nat):Int),.int .i64 ((i:Nat):Int),ptr K.n 0,.tuple #[.bool false],.bool false,x11,x12,x13,x14]∧
   Keeps K M∧AP M 9 1 v ts.length (txs ts)∧Fresh K.n v∧f≤i∧i≤s.length+1∧k=s.length+1-i∧ts.length≤i∧
   ((i≤s.length∧(∀j,f≤j→j<i→s.getD j 0≠32)∧wordsB s=ts++wordsB (s.drop f))∨(i=s.length+1∧wordsB s=ts))) (s.length+1)
   ⟨0,0,[],_,_,_,_,rfl,hk,.inl ⟨rfl,rfl,rfl⟩,(fun b hb=>by cases hb),Nat.le_refl _,by omega,rfl,by simp,.inl ⟨by omega,fun j h1 h2=>absurd h2 (by omega),by simp⟩⟩ ?_
  rintro Q2 k fr M ⟨i,f,ts,v,x12,x13,x14,rfl,km,ha,hfr,hfi,hi,rfl,htl,hcase⟩ hn2 hx2 hret2
  have hw:IntKind.i64.wrap ((i:Int)+1)=((i+1:Nat):Int):=by rw[wrap_i64 (by omega) (by omega)];simp
  rcases hcase with⟨hi1,hns,hws⟩|⟨rfl,hws⟩
  ·have hle:(i:Int)≤((s.length:Nat):Int):=by omega
   have hfs:f≤s.length:=by omega
   by_cases hlt:i<s.length
   ·have h3:(i:Int)<((s.length:Nat):Int):=by omega
    have e0:((((s.getD i 0).toNat:Nat):Int) != 32)= !(s.getD i 0==32):=by
     have h32:((((s.getD i 0).toNat:Nat):Int)==32)=(s.getD i 0==32):=u8_eqi (s.getD i 0) 32 (by omega)
     simp only[bne]
     rw[h32]
    by_cases he:s.getD i 0=32
    ·have e1:(s.getD i 0==32)=true:=by simpa using he
     rw[e1]at e0
     simp only[Bool.not_true]at e0
     have hix:=ixB_drop hfi hlt he hns
     have hsp:splitB 32 (s.drop f)=(s.take i).drop f::splitB 32 (s.drop (i+1)):=by
      rw[splitB_ix,hix]
      simp only
      rw[List.drop_drop,show f+(i-f+1)=i+1 by omega,List.drop_take]
     by_cases hlf:f<i
     ·have hlf':(f:Int)<(i:Int):=by omega
      have hne:((s.take i).drop f).isEmpty=false:=by
       rw[List.isEmpty_eq_false_iff,←List.length_pos_iff,List.length_drop,List.length_take];omega
      have hfl:fillA [.string ByteArray.empty] [(0,1,.string ⟨((s.take i).drop f).toArray⟩)]=some [.string ⟨((s.take i).drop f).toArray⟩]:=rfl
      have k4:=(Keeps.refl M).alloc (.cells true false 1 [.string ⟨((s.take i).drop f).toArray⟩] 9)
      simp(disch:=first|assumption|omega)only[W_block,P3,seval,initFr,clsA,a_idxS,e0,a_slsM,hfl]
      refine appG (ha.keeps k4) ⟨_,_,rfl⟩ (elems_new rfl rfl) rfl (by omega) ?_
      intro v' M2 a2 c2 b2
      simp(disch:=first|assumption|omega)only[W_block,P3,seval,initFr,clsA,hw]
      have hk2:Keeps K M2:=(km.trans k4).chg_trans c2 (hfr.L)
      refine hn2 _ _ _ ⟨i+1,i+1,ts++[(s.take i).drop f],v',_,_,_,rfl,hk2,?_,hfr.app (by have:=km.n;simp[AHeap.alloc];omega) b2,Nat.le_refl _,by omega,rfl,by simp;omega,.inl ⟨by omega,fun j h1 h2=>absurd h2 (by omega),?_⟩⟩ (by omega)
      ·simpa[txs_app]using a2
      ·rw[hws]
       unfold wordsB
       rw[hsp,List.filter_cons,hne]
       simp
     ·have hfe:f=i:=by omega
      subst hfe
      have hlf':¬(f:Int)<(f:Int):=by omega
      simp(disch:=first|assumption|omega)only[W_block,P3,seval,initFr,clsA,a_idxS,e0,hw]
      refine hn2 _ _ _ ⟨f+1,f+1,ts,v,_,_,_,rfl,km,ha,hfr,Nat.le_refl _,by omega,rfl,by omega,.inl ⟨by omega,fun j h1 h2=>absurd h2 (by omega),?_⟩⟩ (by omega)
      rw[hws]
      unfold wordsB
      rw[hsp,List.filter_cons]
      simp
    ·have e1:(s.getD i 0==32)=false:=by simpa using he
     rw[e1]at e0
     simp only[Bool.not_false]at e0
     simp(disch:=first|assumption|omega)only[W_block,P3,seval,initFr,clsA,a_idxS,e0,hw]
     refine hn2 _ _ _ ⟨i+1,f,ts,v,_,_,_,rfl,km,ha,hfr,by omega,by omega,rfl,by omega,.inl ⟨by omega,fun j h1 h2=>?_,hws⟩⟩ (by omega)
     rcases Nat.lt_or_ge j i with h|h
     ·exact hns j h1 h
     ·rw[show j=i by omega];exact he
   ·have hie:i=s.length:=by omega
    have h3:¬(i:Int)<((s.length:Nat):Int):=by omega
    have hsp:splitB 32 (s.drop f)=[s.drop f]:=by
     rw[splitB_ix,ixB_drop_no (fun j h1 h2=>hns j h1 (by omega))]
    by_cases hlf:f<i
    ·have hlf':(f:Int)<(i:Int):=by omega
     have hse:(s.take i).drop f=s.drop f:=by rw[List.take_of_length_le (by omega)]
     have hne:(s.drop f).isEmpty=false:=by
      rw[List.isEmpty_eq_false_iff,←List.length_pos_iff,List.length_drop];omega
     have hfl:fillA [.string ByteArray.empty] [(0,1,.string ⟨((s.take i).drop f).toArray⟩)]=some [.string ⟨((s.take i).drop f).toArray⟩]:=rfl
     have k4:=(Keeps.refl M).alloc (.cells true false 1 [.string ⟨((s.take i).drop f).toArray⟩] 9)
     simp(disch:=first|assumption|omega)only[W_block,P3,seval,initFr,clsA,a_slsM,hfl]
     refine appG (ha.keeps k4) ⟨_,_,rfl⟩ (elems_new rfl rfl) rfl (by omega) ?_
     intro v' M2 a2 c2 b2
     simp(disch:=first|assumption|omega)only[W_block,P3,seval,initFr,clsA,hw]
     have hk2:Keeps K M2:=(km.trans k4).chg_trans c2 (hfr.L)
     refine hn2 _ _ _ ⟨i+1,i+1,ts++[(s.take i).drop f],v',_,_,_,rfl,hk2,?_,hfr.app (by have:=km.n;simp[AHeap.alloc];omega) b2,Nat.le_refl _,by omega,rfl,by simp;omega,.inr ⟨by omega,?_⟩⟩ (by omega)
     ·simpa[txs_app]using a2
     ·rw[hws,hse]
      unfold wordsB
      rw[hsp,List.filter_cons,hne]
      simp
    ·have hfe:f=i:=by omega
     subst hfe
     have hlf':¬(f:Int)<(f:Int):=by omega
     simp(disch:=first|assumption|omega)only[W_block,P3,seval,initFr,clsA,hw]
     refine hn2 _ _ _ ⟨f+1,f+1,ts,v,_,_,_,rfl,km,ha,hfr,Nat.le_refl _,by omega,rfl,by omega,.inr ⟨by omega,?_⟩⟩ (by omega)
     rw[hws]
     unfold wordsB
     rw[hsp,List.filter_cons]
     simp[hie]
  ·have hle:¬((s.length+1:Nat):Int)≤((s.length:Nat):Int):=by omega
   simp(disch:=first|assumption|omega)only[W_block,P3,seval,initFr,clsA]
   refine hx2 2 _ _ ?_
   simp(disch:=first|assumption|omega)only[W_block,P3,seval,initFr,clsA]
   exact hq2 _ _ ⟨_,rfl,km,v,rfl,by rw[hws];exact ha,hfr⟩
end Go.AM.Fd

set_option maxRecDepth 4000
namespace Go.AM.Fd
open Nat (reduceAdd reduceEqDiff reduceLT reduceLeDiff reduceMul reduceSub)
open Go.Proofs Go.AM.F
def flW(ts:List (List UInt8)):List (List UInt8):=ts.filter fun t=> !t.isEmpty
theorem flW_app(a:List (List UInt8))(x:List UInt8):flW (a++[x])=flW a++(if x=[]then[]else[x]):=by
 unfold flW
 rw[List.filter_append]
 cases x<;>simp
structure WJ (K:AHeap) (L:LRec) (pre:List (List UInt8)) (sc:List UInt8) (H:AHeap) (v:Value):Prop where
 keep:Keeps K H
 row:H.get K.n=some (.cells true false 1 [v] 23)
 txt:H.get (K.n+1)=some (boxS sc)
 sep:H.get (K.n+2)=some (boxS [32])
 sav:H.get (K.n+3)=some (.cells true false 1 [.int .i64 0] 3)
 rec_:H.get (K.n+4)=some (.loop true .ready none L)
 ap:AP H 9 1 v (flW pre).length (txs (flW pre))
 fresh:Fresh (K.n+5) v
theorem WJ.n{K:AHeap}{L:LRec}{pre:List (List UInt8)}{sc:List UInt8}{H:AHeap}{v:Value}(h:WJ K L pre sc H v):K.n+5≤H.n:=AHeap.get_lt h.rec_
theorem WJ.put{K:AHeap}{L:LRec}{pre:List (List UInt8)}{sc:List UInt8}{H:AHeap}{v:Value}(h:WJ K L pre sc H v)(sc':List UInt8):WJ K L pre sc' (H.set (K.n+1) (boxS sc')) v:=by
 have hn:=h.n
 have hlt:K.n+1<H.n:=by omega
 have o:∀{b:Nat} {x:AO},b≠K.n+1→H.get b=some x→(H.set (K.n+1) (boxS sc')).get b=some x:=fun hb hx=>by rw[AHeap.get_set_other H hb hlt];exact hx
 exact⟨h.keep.set (by omega) hlt _,o (by omega) h.row,AHeap.get_set_same h.txt _,o (by omega) h.sep,o (by omega) h.sav,o (by omega) h.rec_,
  h.ap.chg (Chg.set H hlt _) (fun x hx=>by have:=h.fresh x (mem_blkL.1 hx);simp;omega),h.fresh⟩
theorem WJ.round{K:AHeap}{pre:List (List UInt8)}{sc x:List UInt8}{H:AHeap}{v:Value}{x0 x1 x2 x3 x4 x6 x7 x8 x9 x10 x11 x12 x13:Value}
 (h:WJ K ⟨43,[0,2,3,4,5,6,7,15,16,17,32,34,35,37],[x0,x1,x2,x3,x4,ptr K.n 0,x6,x7,x8,x9,x10,x11,x12,x13],#[35],rfA Tryz.prog 49 0,rfB Tryz.prog 49 0⟩ pre sc H v) (hl:pre.length≤10000000):
 ∃w H',AYield Tryz.prog 4 (K.n+4) [.string ⟨x.toArray⟩] H w H'∧w=.bool true∧∃v',WJ K ⟨43,[0,2,3,4,5,6,7,15,16,17,32,34,35,37],[x0,x1,x2,x3,x4,ptr K.n 0,x6,x7,x8,x9,x10,x11,x12,x13],#[35],rfA Tryz.prog 49 0,rfB Tryz.prog 49 0⟩ (pre++[x]) sc H' v':=by
 obtain⟨L,hL⟩:∃L:LRec,(⟨43,[0,2,3,4,5,6,7,15,16,17,32,34,35,37],[x0,x1,x2,x3,x4,ptr K.n 0,x6,x7,x8,x9,x10,x11,x12,x13],#[35],rfA Tryz.prog 49 0,rfB Tryz.prog 49 0⟩:LRec)=L:=⟨_,rfl⟩
 have hn:=h.n
 have hlen:(flW pre).length≤pre.length:=List.length_filter_le ..
 refine yield_of (R:=fun w H'=>w=.bool true∧∃v',WJ K _ (pre++[x]) sc H' v') h.rec_ f49r0a_ok f49r0b_ok f49r0_n rfl rfl ?_
 show W Tryz.prog 4 f49r0a _ [x0,x1,x2,x3,x4,ptr K.n 0,x6,x7,x8,x9,x10,x11,.string ⟨x.toArray⟩,x13] H
 rw[hL]at h ⊢
 simp(disch:=first|assumption|omega)only[f49r0a,W_block,P3,seval,initFr,clsA]
 refine⟨none,L,h.rec_,?_⟩
 have hlt:K.n+4<H.n:=by omega
 obtain⟨H1,hH1⟩:∃H1,H.set (K.n+4) (.loop true .busy none L)=H1:=⟨_,rfl⟩
 have o:∀{b:Nat} {y:AO},b≠K.n+4→H.get b=some y→H1.get b=some y:=fun hb hy=>by rw[←hH1,AHeap.get_set_other H hb hlt];exact hy
 have n1:H1.n=H.n:=by rw[←hH1];rfl
 have r1:=o (by omega) h.row
 have g1:H1.get (K.n+4)=some (.loop true .busy none L):=by rw[←hH1];exact AHeap.get_set_same h.rec_ _
 have k1:Keeps K H1:=by rw[←hH1];exact h.keep.set (by omega) hlt _
 have a1:AP H1 9 1 v (flW pre).length (txs (flW pre)):=by rw[←hH1];exact h.ap.chg (Chg.set H hlt _) (fun x hx=>by have:=h.fresh x (mem_blkL.1 hx);simp;omega)
 rw[hH1]
 have fin:∀(H2:AHeap) (fr:List Value),H2.get (K.n+4)=some (.loop true .busy none L)→(∃v',WJ K L (pre++[x]) sc (H2.set (K.n+4) (.loop true .ready none L)) v')→roundQ (K.n+4) (fun w H'=>w=.bool true∧∃v',WJ K L (pre++[x]) sc H' v') .normal fr H2:=by
  intro H2 fr hg hw
  unfold roundQ
  rw[hg]
  exact⟨rfl,hw⟩
 have back:∀(H2:AHeap) (v':Value),Keeps K H2→H2.get K.n=some (.cells true false 1 [v'] 23)→H2.get (K.n+1)=some (boxS sc)→H2.get (K.n+2)=some (boxS [32])→H2.get (K.n+3)=some (.cells true false 1 [.int .i64 0] 3)→
  H2.get (K.n+4)=some (.loop true .busy none L)→AP H2 9 1 v' (flW (pre++[x])).length (txs (flW (pre++[x])))→Fresh (K.n+5) v'→WJ K L (pre++[x]) sc (H2.set (K.n+4) (.loop true .ready none L)) v':=by
  intro H2 v' c1 c2 c3 c4 c5 c6 c7 c8
  have hl2:=AHeap.get_lt c6
  have o2:∀{b:Nat} {y:AO},b≠K.n+4→H2.get b=some y→(H2.set (K.n+4) (.loop true .ready none L)).get b=some y:=fun hb hy=>by rw[AHeap.get_set_other H2 hb hl2];exact hy
  exact⟨c1.set (by omega) hl2 _,o2 (by omega) c2,o2 (by omega) c3,o2 (by omega) c4,o2 (by omega) c5,AHeap.get_set_same c6 _,c7.chg (Chg.set H2 hl2 _) (fun x hx=>by have:=c8 x (mem_blkL.1 hx);simp;omega),c8⟩
 by_cases hx:x=[]
 ·have e:decide (x=[])=true:=by simpa using hx
  simp(disch:=first|assumption|omega)only[f49r0b,W_block,P3,seval,initFr,clsA,str_emp,bytes_eq,e]
  refine fin _ _ g1 ⟨v,back _ _ k1 r1 (o (by omega) h.txt) (o (by omega) h.sep) (o (by omega) h.sav) g1 ?_ h.fresh⟩
  rw[flW_app,if_pos hx,List.append_nil]
  exact a1
 ·have e:decide (x=[])=false:=by simpa using hx
  have hfl:fillA [.string ⟨([]:List UInt8).toArray⟩] [(0,1,.string ⟨x.toArray⟩)]=some [.string ⟨x.toArray⟩]:=rfl
  have k4:=(Keeps.refl H1).alloc (.cells true false 1 [.string ⟨x.toArray⟩] 9)
  simp(disch:=first|assumption|omega)only[f49r0b,W_block,P3,seval,initFr,clsA,str_emp,bytes_eq,e,r1,hfl]
  refine appG (a1.keeps k4) ⟨_,_,rfl⟩ (elems_new rfl rfl) rfl (by omega) ?_
  intro v' M2 a2 c2 b2
  have q:∀{b:Nat} {y:AO},b<K.n+5→H1.get b=some y→M2.get b=some y:=fun hb hy=>by
   refine c2.at_ (k4.at_ hy) (fun hm=>?_)
   have:=h.fresh _ (mem_blkL.1 hm)
   omega
  have r2:=q (by omega) r1
  have ov':one1 v'=True:=by
   obtain⟨a,ha⟩:=a2.shape
   rw[ha];exact o_sl ..
  have ov2:v'.oneCell'=true:=by
   obtain⟨a,ha⟩:=a2.shape
   rw[ha];rfl
  have f2:Fresh (K.n+5) v':=h.fresh.app (by simp[AHeap.alloc];omega) b2
  have l2:=AHeap.get_lt r2
  simp(disch:=first|assumption|omega)only[W_block,P3,seval,initFr,clsA,r2,ov2]
  have o3:∀{b:Nat} {y:AO},b≠K.n→M2.get b=some y→(M2.set K.n (.cells true false 1 [v'] 23)).get b=some y:=fun hb hy=>by rw[AHeap.get_set_other M2 hb l2];exact hy
  have k2:Keeps K M2:=(k1.trans k4).chg_trans c2 (fun y hy=>by have:=h.fresh y (mem_blkL.1 hy);omega)
  refine fin _ _ (o3 (by omega) (q (by omega) g1)) ⟨v',back _ _ (k2.set (Nat.le_refl _) l2 _) (AHeap.get_set_same r2 _) (o3 (by omega) (q (by omega) (o (by omega) h.txt))) (o3 (by omega) (q (by omega) (o (by omega) h.sep))) (o3 (by omega) (q (by omega) (o (by omega) h.sav))) (o3 (by omega) (q (by omega) g1)) ?_ f2⟩
  rw[flW_app,if_neg hx]
  refine AP.chg ?_ (Chg.set M2 l2 _) (fun y hy=>by have:=f2 y (mem_blkL.1 hy);simp;omega)
  simpa[txs_app]using a2
end Go.AM.Fd

namespace Go.AM.Fd
open Nat (reduceAdd reduceEqDiff reduceLT reduceLeDiff reduceMul reduceSub)
open Go.Proofs Go.AM.F
theorem get5(L:AHeap)(a b c d e:AO):let S:=((((L.alloc a).alloc b).alloc c).alloc d).alloc e
 S.get L.n=some a∧S.get (L.n+1)=some b∧S.get (L.n+2)=some c∧S.get (L.n+3)=some d∧S.get (L.n+4)=some e:=by
 have o:∀(X:AHeap) (x:AO) (i:Nat),i<X.n→(X.alloc x).get i=X.get i:=fun X x i h=>AHeap.get_alloc_old X x h
 refine⟨?_,?_,?_,?_,?_⟩
 ·rw[o _ _ _ (by simp only[alloc_n];omega),o _ _ _ (by simp only[alloc_n];omega),o _ _ _ (by simp only[alloc_n];omega),o _ _ _ (by simp only[alloc_n];omega)];exact AHeap.get_alloc_new _ _
 ·rw[o _ _ _ (by simp only[alloc_n];omega),o _ _ _ (by simp only[alloc_n];omega),o _ _ _ (by simp only[alloc_n];omega)];exact AHeap.get_alloc_new _ _
 ·rw[o _ _ _ (by simp only[alloc_n];omega),o _ _ _ (by simp only[alloc_n];omega)];exact AHeap.get_alloc_new _ _
 ·rw[o _ _ _ (by simp only[alloc_n];omega)];exact AHeap.get_alloc_new _ _
 ·exact AHeap.get_alloc_new _ _
theorem cut_ahead(l:List UInt8):∃y z,cutB 35 l=.tuple #[.string ⟨(aheadB l).toArray⟩,y,z]:=by
 unfold cutB aheadB
 cases ixB 35 l<;>exact⟨_,_,rfl⟩
theorem t49(H:AHeap)(l:List UInt8)(hl:l.length≤1000000):∃w K,ARun Tryz.prog 4 49 [.string ⟨l.toArray⟩] H w K∧WRes H w K l:=by
 refine walk2 f49_ok f49_n ?_
 intro Q hq1 hq2
 have hal:=ahead_len l
 simp(disch:=first|assumption|omega)only[f49,P3,seval,initFr,clsA]
 refine callK (t64 H l 35 (by omega)) ?_
 rintro _ K ⟨hw,rfl⟩
 obtain⟨y,z,hcut⟩:=cut_ahead l
 rw[hcut]at hw
 subst hw
 obtain⟨s,hs⟩:∃s,aheadB l=s:=⟨_,rfl⟩
 unfold WRes at hq1 hq2
 rw[hs]at hal hq1 hq2 ⊢
 simp(disch:=first|assumption|omega)only[P3,seval,initFr,clsA,a_rngS]
 rw[W_block]
 refine W_loop2 (fun k fr L=>∃p x3 x4 x8 x9 x10,fr=[.string ⟨s.toArray⟩,.slice none 0 0,.int .i64 0,x3,x4,undef,undef,ptr K.n 0,x8,x9,x10,undef,undef,undef]∧L.get K.n=some (.obj true (.stringIter ⟨s.toArray⟩ p))∧Keeps K L∧
  okW s=(runF s p).all (okC s)∧k=s.length-p) s.length
  ⟨0,_,_,_,_,_,rfl,AHeap.get_alloc_new _ _,(Keeps.refl K).alloc _,rfl,rfl⟩ ?_
 rintro Q' k fr L ⟨p,x3,x4,x8,x9,x10,rfl,hg,hk,hr,rfl⟩ hn hx hret
 by_cases hp:p<s.length
 ·have hstep:=runF_step hp
  have hpos:=decB_pos (l:=s) (p:=p)
  have hset:=hk.set (Nat.le_refl _) (AHeap.get_lt hg) (.obj true (.stringIter ⟨s.toArray⟩ (p+(decB s p).2)))
  have hnext:okC s (p,((decB s p).1 :Int))=true→okW s=(runF s (p+(decB s p).2)).all (okC s):=fun h=>by rw[hr,hstep];simp[h]
  have hbad:okC s (p,((decB s p).1 :Int))=false→okW s=false:=fun h=>by rw[hr,hstep];simp[h]
  have hgs:=AHeap.get_set_same hg (.obj true (.stringIter ⟨s.toArray⟩ (p+(decB s p).2)))
  obtain⟨d,hd⟩:∃d,(decB s p).1 =d:=⟨_,rfl⟩
  rw[hd]at hnext hbad
  have hnx:=a_nextY hg hp
  rw[hd]at hnx
  by_cases c1:(d:Int)<32
  ·simp(disch:=first|assumption|omega)only[W_block,P3,seval,initFr,clsA,hnx]
   refine hret _ _ (hq2 _ _ ⟨_,rfl,hset,?_⟩)
   rw[hbad (by simp[okC,c1])]
   rfl
  ·by_cases c2:(d:Int)=65533
   ·have e2:((d:Int)==65533)=true:=by simpa using c2
    have hp1:p≤s.length:=by omega
    simp(disch:=first|assumption|omega)only[W_block,P3,seval,initFr,clsA,hnx,e2,a_slsT]
    refine callK (t65 _ (s.drop p) [239,191,189]) ?_
    rintro _ K2 ⟨rfl,rfl⟩
    cases c3:wholeB s p with
    |true=>
     have c3':([239,191,189]:List UInt8).isPrefixOf (s.drop p)=true:=c3
     simp(disch:=first|assumption|omega)only[W_block,P3,seval,initFr,clsA,c3']
     exact hn _ _ _ ⟨p+(decB s p).2,_,_,_,_,_,rfl,hgs,hset,hnext (by simp[okC,c1,c2,c3]),rfl⟩ (by omega)
    |false=>
     have c3':([239,191,189]:List UInt8).isPrefixOf (s.drop p)=false:=c3
     simp(disch:=first|assumption|omega)only[W_block,P3,seval,initFr,clsA,c3']
     refine hret _ _ (hq2 _ _ ⟨_,rfl,hset,?_⟩)
     rw[hbad (by simp[okC,c1,c2,c3])]
     rfl
   ·have e2:((d:Int)==65533)=false:=by simpa using c2
    simp(disch:=first|assumption|omega)only[W_block,P3,seval,initFr,clsA,hnx,e2]
    exact hn _ _ _ ⟨p+(decB s p).2,_,_,_,_,_,rfl,hgs,hset,hnext (by simp[okC,c1,c2]),rfl⟩ (by omega)
 ·have hend:=runF_end hp
  rw[hend]at hr
  simp only[List.all_nil]at hr
  rw[hr]at hq1 hq2
  simp only[if_true]at hq1 hq2
  simp(disch:=first|assumption|omega)only[W_block,P3,seval,initFr,clsA,a_nextN hg hp]
  refine hx 0 _ _ ?_
  simp(disch:=first|assumption|omega)only[P3,seval,initFr,clsA]
  refine callK (t66 _ s 32) ?_
  rintro _ K2 ⟨rfl,rfl⟩
  simp(disch:=first|assumption|omega)only[P3,seval,initFr,clsA]
  rw[W_block]
  refine W_rangeF rfl (bodied_of (by kernel_rfl)) ?_
  obtain⟨R,hR⟩:∃R:LRec,(⟨43,[0,2,3,4,5,6,7,15,16,17,32,34,35,37],[.string ⟨s.toArray⟩,.slice none 0 0,.int .i64 0,x3,x4,ptr L.n 0,undef,ptr K.n 0,.tuple #[.bool false],.bool false,x10,
   .func (.func 95) #[] #[ptr (L.n+1+1) 0,ptr (L.n+1) 0,ptr (L.n+1+2) 0],undef,undef],#[35],rfA Tryz.prog 49 0,rfB Tryz.prog 49 0⟩:LRec)=R:=⟨_,rfl⟩
  rw[hR]
  obtain⟨S0,hS0⟩:∃S0:AHeap,(((((L.alloc (.cells true false 1 [.slice none 0 0] 23)).alloc (boxS s)).alloc (boxS [32])).alloc (.cells true false 1 [.int .i64 0] 3)).alloc (.loop true .ready none R))=S0:=⟨_,rfl⟩
  have hJ0:WJ L R [] s S0 (.slice none 0 0):=by
   rw[←hS0]
   obtain⟨q1,q2,q3,q4,q5⟩:=get5 L (.cells true false 1 [.slice none 0 0] 23) (boxS s) (boxS [32]) (.cells true false 1 [.int .i64 0] 3) (.loop true .ready none R)
   exact⟨(((((Keeps.refl L).alloc _).alloc _).alloc _).alloc _).alloc _,q1,q2,q3,q4,q5,.inl ⟨rfl,rfl,rfl⟩,fun b hb=>by cases hb⟩
  obtain⟨w,H1,r,hfin⟩:=t95 (fun pre sc H=>∃v,WJ L R pre sc H v) (fun _=>False) (c:=32) (b:=L.n+4) (p1:=L.n+2) (p2:=L.n+1) (p3:=L.n+3) (s:=s) (by omega)
   (fun pre sc H ⟨v,h⟩=>⟨h.sep,h.txt,h.sav⟩) (fun pre sc sc' H ⟨v,h⟩=>⟨v,h.put sc'⟩)
   (fun pre x sc H ⟨v,h⟩ ⟨rest,hsp⟩=>by
    have h1:=splitB_len 32 s
    rw[hsp,List.length_append,List.length_cons]at h1
    rw[←hR]at h
    obtain⟨w,H',a,e,v',h'⟩:=WJ.round (x:=x) h (by omega)
    rw[hR]at h'
    exact⟨w,H',a,.inl ⟨e,v',h'⟩⟩) ⟨_,hJ0⟩
  refine⟨w,H1,?_,?_⟩
  ·rw[hS0];exact r
  ·rcases hfin with⟨sc,v,hJ⟩|hf
   ·refine afterR_ready hJ.rec_ ?_
    have hn1:=hJ.n
    have hl4:L.n+4<H1.n:=by omega
    have hrow:(H1.set (L.n+4) .dead).get L.n=some (.cells true false 1 [v] 23):=by rw[AHeap.get_set_other H1 (by omega) hl4];exact hJ.row
    simp(disch:=first|assumption|omega)only[W_block,P3,seval,initFr,clsA,hrow]
    refine hq2 _ _ ⟨_,rfl,(hk.trans hJ.keep).set (by have:=hk.n;omega) hl4 _,v,rfl,?_,?_⟩
    ·exact hJ.ap.chg (Chg.set H1 hl4 _) (fun y hy=>by have:=hJ.fresh y (mem_blkL.1 hy);simp;omega)
    ·intro b hb
     have:=hJ.fresh b hb
     have:=hk.n
     omega
   ·exact hf.elim
end Go.AM.Fd
