/- Part of the proof. -/
import Derived.Test.YtpfnjeiiajeigaaGreatGCS02
set_option linter.unusedSimpArgs false
set_option linter.unusedVariables false
set_option maxRecDepth 100000
set_option maxHeartbeats 0
namespace Go.AM.F
def zclE:TypeId→List Value
 |89=>[(.string ByteArray.empty),(.int .i64 0)]
 |4=>[(.bool false)]
 |39=>[(.int .u64 0)]
 |87=>[(.string ByteArray.empty),(.int .i64 0),(.slice none 0 0),(.slice none 0 0),(.slice none 0 0),(.slice none 0 0)]
 |3=>[(.int .i64 0)]
 |120=>[(.int .i64 0),(.bool false)]
 |210=>[(.map none)]
 |_=>[]
def zvlE:TypeId→Value
 |_=>undef
def zklE:TypeId→List Nat
 |_=>[]
def zrlE:Nat→TypeId→List Value
 |2,84=>[(.slice none 0 0),(.slice none 0 0)]
 |2,85=>[(.slice none 0 0),(.slice none 0 0)]
 |_,_=>[]
noncomputable def f30:AFunc:=by
 refine(fun(_:Cz zclE zvlE zklE zrlE Go.Proofs.Tryz.prog 0 [0,1,2,3,4,7,13] 30 ?a)=>?a) ?h
 case h=>
 intro zc zv zk zr hc hv hk hr
 conv=>lhs;cbv;try simp only[hc,hv,hk,hr,zclE,zvlE,zklE,zrlE]
theorem f30_ok:compF Go.Proofs.Tryz.prog 0 [0,1,2,3,4,7,13] 30=some f30:=by kernel_rfl
theorem f30_n:argsOK Go.Proofs.Tryz.prog 30 1=true:=by kernel_rfl
noncomputable def f31:AFunc:=by
 refine(fun(_:Cz zclE zvlE zklE zrlE Go.Proofs.Tryz.prog 0 [0,1,2] 31 ?a)=>?a) ?h
 case h=>
 intro zc zv zk zr hc hv hk hr
 conv=>lhs;cbv;try simp only[hc,hv,hk,hr,zclE,zvlE,zklE,zrlE]
theorem f31_ok:compF Go.Proofs.Tryz.prog 0 [0,1,2] 31=some f31:=by kernel_rfl
theorem f31_n:argsOK Go.Proofs.Tryz.prog 31 1=true:=by kernel_rfl
noncomputable def f32:AFunc:=by
 refine(fun(_:Cz zclE zvlE zklE zrlE Go.Proofs.Tryz.prog 0 [0,1,2] 32 ?a)=>?a) ?h
 case h=>
 intro zc zv zk zr hc hv hk hr
 conv=>lhs;cbv;try simp only[hc,hv,hk,hr,zclE,zvlE,zklE,zrlE]
theorem f32_ok:compF Go.Proofs.Tryz.prog 0 [0,1,2] 32=some f32:=by kernel_rfl
theorem f32_n:argsOK Go.Proofs.Tryz.prog 32 1=true:=by kernel_rfl
noncomputable def f43:AFunc:=by
 refine(fun(_:Cz zclE zvlE zklE zrlE Go.Proofs.Tryz.prog 0 [0,1,4] 43 ?a)=>?a) ?h
 case h=>
 intro zc zv zk zr hc hv hk hr
 conv=>lhs;cbv;try simp only[hc,hv,hk,hr,zclE,zvlE,zklE,zrlE]
theorem f43_ok:compF Go.Proofs.Tryz.prog 0 [0,1,4] 43=some f43:=by kernel_rfl
theorem f43_n:argsOK Go.Proofs.Tryz.prog 43 2=true:=by kernel_rfl
noncomputable def f45:AFunc:=by
 refine(fun(_:Cz zclE zvlE zklE zrlE Go.Proofs.Tryz.prog 0 [0,1,4] 45 ?a)=>?a) ?h
 case h=>
 intro zc zv zk zr hc hv hk hr
 conv=>lhs;cbv;try simp only[hc,hv,hk,hr,zclE,zvlE,zklE,zrlE]
theorem f45_ok:compF Go.Proofs.Tryz.prog 0 [0,1,4] 45=some f45:=by kernel_rfl
theorem f45_n:argsOK Go.Proofs.Tryz.prog 45 2=true:=by kernel_rfl
noncomputable def f62:AFunc:=by
 refine(fun(_:Cz zclE zvlE zklE zrlE Go.Proofs.Tryz.prog 0 [0,1,4,5,7,8,9,16] 62 ?a)=>?a) ?h
 case h=>
 intro zc zv zk zr hc hv hk hr
 conv=>lhs;cbv;try simp only[hc,hv,hk,hr,zclE,zvlE,zklE,zrlE]
theorem f62_ok:compF Go.Proofs.Tryz.prog 0 [0,1,4,5,7,8,9,16] 62=some f62:=by kernel_rfl
theorem f62_n:argsOK Go.Proofs.Tryz.prog 62 2=true:=by kernel_rfl
noncomputable def f63:AFunc:=by
 refine(fun(_:Cz zclE zvlE zklE zrlE Go.Proofs.Tryz.prog 0 [0,1,2,3] 63 ?a)=>?a) ?h
 case h=>
 intro zc zv zk zr hc hv hk hr
 conv=>lhs;cbv;try simp only[hc,hv,hk,hr,zclE,zvlE,zklE,zrlE]
theorem f63_ok:compF Go.Proofs.Tryz.prog 0 [0,1,2,3] 63=some f63:=by kernel_rfl
theorem f63_n:argsOK Go.Proofs.Tryz.prog 63 2=true:=by kernel_rfl
noncomputable def f64:AFunc:=by
 refine(fun(_:Cz zclE zvlE zklE zrlE Go.Proofs.Tryz.prog 0 [0,1,2,3,4,5,6,7,8,11,31,32,33,34,56] 64 ?a)=>?a) ?h
 case h=>
 intro zc zv zk zr hc hv hk hr
 conv=>lhs;cbv;try simp only[hc,hv,hk,hr,zclE,zvlE,zklE,zrlE]
theorem f64_ok:compF Go.Proofs.Tryz.prog 0 [0,1,2,3,4,5,6,7,8,11,31,32,33,34,56] 64=some f64:=by kernel_rfl
theorem f64_n:argsOK Go.Proofs.Tryz.prog 64 2=true:=by kernel_rfl
noncomputable def f65:AFunc:=by
 refine(fun(_:Cz zclE zvlE zklE zrlE Go.Proofs.Tryz.prog 0 [0,2,3,5,6,8,9,10,11,12,20,25,26,27,28] 65 ?a)=>?a) ?h
 case h=>
 intro zc zv zk zr hc hv hk hr
 conv=>lhs;cbv;try simp only[hc,hv,hk,hr,zclE,zvlE,zklE,zrlE]
theorem f65_ok:compF Go.Proofs.Tryz.prog 0 [0,2,3,5,6,8,9,10,11,12,20,25,26,27,28] 65=some f65:=by kernel_rfl
theorem f65_n:argsOK Go.Proofs.Tryz.prog 65 1=true:=by kernel_rfl
noncomputable def f66:AFunc:=by
 refine(fun(_:Cz zclE zvlE zklE zrlE Go.Proofs.Tryz.prog 0 [0,2,3,5,6,8,9,10,11,12,20,25,26,27,28] 66 ?a)=>?a) ?h
 case h=>
 intro zc zv zk zr hc hv hk hr
 conv=>lhs;cbv;try simp only[hc,hv,hk,hr,zclE,zvlE,zklE,zrlE]
theorem f66_ok:compF Go.Proofs.Tryz.prog 0 [0,2,3,5,6,8,9,10,11,12,20,25,26,27,28] 66=some f66:=by kernel_rfl
theorem f66_n:argsOK Go.Proofs.Tryz.prog 66 1=true:=by kernel_rfl
noncomputable def f67:AFunc:=by
 refine(fun(_:Cz zclE zvlE zklE zrlE Go.Proofs.Tryz.prog 0 [0,1,2,3,4,5,6,7,11,12,13] 67 ?a)=>?a) ?h
 case h=>
 intro zc zv zk zr hc hv hk hr
 have e0A:=(rfl:rfA Go.Proofs.Tryz.prog 67 0=rfA Go.Proofs.Tryz.prog 67 0);conv at e0A=>rhs;cbv
 have e0B:=(rfl:rfB Go.Proofs.Tryz.prog 67 0=rfB Go.Proofs.Tryz.prog 67 0);conv at e0B=>rhs;cbv
 conv=>lhs;cbv;try simp only[hc,hv,hk,hr,zclE,zvlE,zklE,zrlE];simp only[←e0A,←e0B]
theorem f67_ok:compF Go.Proofs.Tryz.prog 0 [0,1,2,3,4,5,6,7,11,12,13] 67=some f67:=by kernel_rfl
theorem f67_n:argsOK Go.Proofs.Tryz.prog 67 3=true:=by kernel_rfl
noncomputable def f67r0a:ACode:=by
 refine(fun(_:CzC zclE zvlE zklE zrlE Go.Proofs.Tryz.prog 0 14 [0,1,2,3,4,5,6,7,11,12,13] (rfA Go.Proofs.Tryz.prog 67 0) ?a)=>?a) ?h
 case h=>intro zc zv zk zr hc hv hk hr;conv=>lhs;cbv;try simp only[hc,hv,hk,hr,zclE,zvlE,zklE,zrlE]
theorem f67r0a_ok:compC Go.Proofs.Tryz.prog 0 14 [0,1,2,3,4,5,6,7,11,12,13] (rfA Go.Proofs.Tryz.prog 67 0)=some f67r0a:=by kernel_rfl
noncomputable def f67r0b:ACode:=by
 refine(fun(_:CzC zclE zvlE zklE zrlE Go.Proofs.Tryz.prog 0 14 [0,1,2,3,4,5,6,7,11,12,13] (rfB Go.Proofs.Tryz.prog 67 0) ?a)=>?a) ?h
 case h=>intro zc zv zk zr hc hv hk hr;conv=>lhs;cbv;try simp only[hc,hv,hk,hr,zclE,zvlE,zklE,zrlE]
theorem f67r0b_ok:compC Go.Proofs.Tryz.prog 0 14 [0,1,2,3,4,5,6,7,11,12,13] (rfB Go.Proofs.Tryz.prog 67 0)=some f67r0b:=by kernel_rfl
theorem f67r0_n:(noRF (rfA Go.Proofs.Tryz.prog 67 0)&&noRF (rfB Go.Proofs.Tryz.prog 67 0))=true:=by kernel_rfl
noncomputable def f75:AFunc:=by
 refine(fun(_:Cz zclE zvlE zklE zrlE Go.Proofs.Tryz.prog 0 [0,1,4,5,7,8,9,16] 75 ?a)=>?a) ?h
 case h=>
 intro zc zv zk zr hc hv hk hr
 conv=>lhs;cbv;try simp only[hc,hv,hk,hr,zclE,zvlE,zklE,zrlE]
theorem f75_ok:compF Go.Proofs.Tryz.prog 0 [0,1,4,5,7,8,9,16] 75=some f75:=by kernel_rfl
theorem f75_n:argsOK Go.Proofs.Tryz.prog 75 2=true:=by kernel_rfl
noncomputable def f76:AFunc:=by
 refine(fun(_:Cz zclE zvlE zklE zrlE Go.Proofs.Tryz.prog 0 [0,1,4,5,7,8,9,16] 76 ?a)=>?a) ?h
 case h=>
 intro zc zv zk zr hc hv hk hr
 conv=>lhs;cbv;try simp only[hc,hv,hk,hr,zclE,zvlE,zklE,zrlE]
theorem f76_ok:compF Go.Proofs.Tryz.prog 0 [0,1,4,5,7,8,9,16] 76=some f76:=by kernel_rfl
theorem f76_n:argsOK Go.Proofs.Tryz.prog 76 2=true:=by kernel_rfl
noncomputable def f118:AFunc:=by
 refine(fun(_:Cz zclE zvlE zklE zrlE Go.Proofs.Tryz.prog 0 [0,1,2,3,4,6,7,8,9,16,23,24,25,26,30,31,32,41] 118 ?a)=>?a) ?h
 case h=>
 intro zc zv zk zr hc hv hk hr
 conv=>lhs;cbv;try simp only[hc,hv,hk,hr,zclE,zvlE,zklE,zrlE]
theorem f118_ok:compF Go.Proofs.Tryz.prog 0 [0,1,2,3,4,6,7,8,9,16,23,24,25,26,30,31,32,41] 118=some f118:=by kernel_rfl
theorem f118_n:argsOK Go.Proofs.Tryz.prog 118 1=true:=by kernel_rfl
noncomputable def f97:AFunc:=by
 refine(fun(_:Cz zclE zvlE zklE zrlE Go.Proofs.Tryz.prog 0 [0,1,3,4,5,6,7,8,9,10,18] 97 ?a)=>?a) ?h
 case h=>
 intro zc zv zk zr hc hv hk hr
 conv=>lhs;cbv;try simp only[hc,hv,hk,hr,zclE,zvlE,zklE,zrlE]
theorem f97_ok:compF Go.Proofs.Tryz.prog 0 [0,1,3,4,5,6,7,8,9,10,18] 97=some f97:=by kernel_rfl
theorem f97_n:argsOK Go.Proofs.Tryz.prog 97 2=true:=by kernel_rfl
noncomputable def f98:AFunc:=by
 refine(fun(_:Cz zclE zvlE zklE zrlE Go.Proofs.Tryz.prog 0 [0,2] 98 ?a)=>?a) ?h
 case h=>
 intro zc zv zk zr hc hv hk hr
 conv=>lhs;cbv;try simp only[hc,hv,hk,hr,zclE,zvlE,zklE,zrlE]
theorem f98_ok:compF Go.Proofs.Tryz.prog 0 [0,2] 98=some f98:=by kernel_rfl
theorem f98_n:argsOK Go.Proofs.Tryz.prog 98 1=true:=by kernel_rfl
noncomputable def f99:AFunc:=by
 refine(fun(_:Cz zclE zvlE zklE zrlE Go.Proofs.Tryz.prog 0 [0,1,4] 99 ?a)=>?a) ?h
 case h=>
 intro zc zv zk zr hc hv hk hr
 conv=>lhs;cbv;try simp only[hc,hv,hk,hr,zclE,zvlE,zklE,zrlE]
theorem f99_ok:compF Go.Proofs.Tryz.prog 0 [0,1,4] 99=some f99:=by kernel_rfl
theorem f99_n:argsOK Go.Proofs.Tryz.prog 99 2=true:=by kernel_rfl
noncomputable def f100:AFunc:=by
 refine(fun(_:Cz zclE zvlE zklE zrlE Go.Proofs.Tryz.prog 0 [0,1,3,4,5,6,7,8,9,10,18] 100 ?a)=>?a) ?h
 case h=>
 intro zc zv zk zr hc hv hk hr
 conv=>lhs;cbv;try simp only[hc,hv,hk,hr,zclE,zvlE,zklE,zrlE]
theorem f100_ok:compF Go.Proofs.Tryz.prog 0 [0,1,3,4,5,6,7,8,9,10,18] 100=some f100:=by kernel_rfl
theorem f100_n:argsOK Go.Proofs.Tryz.prog 100 2=true:=by kernel_rfl
noncomputable def f101:AFunc:=by
 refine(fun(_:Cz zclE zvlE zklE zrlE Go.Proofs.Tryz.prog 0 [0,1,2] 101 ?a)=>?a) ?h
 case h=>
 intro zc zv zk zr hc hv hk hr
 conv=>lhs;cbv;try simp only[hc,hv,hk,hr,zclE,zvlE,zklE,zrlE]
theorem f101_ok:compF Go.Proofs.Tryz.prog 0 [0,1,2] 101=some f101:=by kernel_rfl
theorem f101_n:argsOK Go.Proofs.Tryz.prog 101 1=true:=by kernel_rfl
noncomputable def f102:AFunc:=by
 refine(fun(_:Cz zclE zvlE zklE zrlE Go.Proofs.Tryz.prog 0 [0,1,3,4] 102 ?a)=>?a) ?h
 case h=>
 intro zc zv zk zr hc hv hk hr
 conv=>lhs;cbv;try simp only[hc,hv,hk,hr,zclE,zvlE,zklE,zrlE]
theorem f102_ok:compF Go.Proofs.Tryz.prog 0 [0,1,3,4] 102=some f102:=by kernel_rfl
theorem f102_n:argsOK Go.Proofs.Tryz.prog 102 2=true:=by kernel_rfl
noncomputable def f103:AFunc:=by
 refine(fun(_:Cz zclE zvlE zklE zrlE Go.Proofs.Tryz.prog 0 [0,1,4,6,16] 103 ?a)=>?a) ?h
 case h=>
 intro zc zv zk zr hc hv hk hr
 conv=>lhs;cbv;try simp only[hc,hv,hk,hr,zclE,zvlE,zklE,zrlE]
theorem f103_ok:compF Go.Proofs.Tryz.prog 0 [0,1,4,6,16] 103=some f103:=by kernel_rfl
theorem f103_n:argsOK Go.Proofs.Tryz.prog 103 2=true:=by kernel_rfl
noncomputable def f104:AFunc:=by
 refine(fun(_:Cz zclE zvlE zklE zrlE Go.Proofs.Tryz.prog 0 [0,1,4,6,16] 104 ?a)=>?a) ?h
 case h=>
 intro zc zv zk zr hc hv hk hr
 conv=>lhs;cbv;try simp only[hc,hv,hk,hr,zclE,zvlE,zklE,zrlE]
theorem f104_ok:compF Go.Proofs.Tryz.prog 0 [0,1,4,6,16] 104=some f104:=by kernel_rfl
theorem f104_n:argsOK Go.Proofs.Tryz.prog 104 2=true:=by kernel_rfl
noncomputable def f105:AFunc:=by
 refine(fun(_:Cz zclE zvlE zklE zrlE Go.Proofs.Tryz.prog 0 [0,1,2,3,4,5,6] 105 ?a)=>?a) ?h
 case h=>
 intro zc zv zk zr hc hv hk hr
 conv=>lhs;cbv;try simp only[hc,hv,hk,hr,zclE,zvlE,zklE,zrlE]
theorem f105_ok:compF Go.Proofs.Tryz.prog 0 [0,1,2,3,4,5,6] 105=some f105:=by kernel_rfl
theorem f105_n:argsOK Go.Proofs.Tryz.prog 105 3=true:=by kernel_rfl
noncomputable def f123:AFunc:=by
 refine(fun(_:Cz zclE zvlE zklE zrlE Go.Proofs.Tryz.prog 0 [0,1,2,4] 123 ?a)=>?a) ?h
 case h=>
 intro zc zv zk zr hc hv hk hr
 conv=>lhs;cbv;try simp only[hc,hv,hk,hr,zclE,zvlE,zklE,zrlE]
theorem f123_ok:compF Go.Proofs.Tryz.prog 0 [0,1,2,4] 123=some f123:=by kernel_rfl
theorem f123_n:argsOK Go.Proofs.Tryz.prog 123 3=true:=by kernel_rfl
noncomputable def f124:AFunc:=by
 refine(fun(_:Cz zclE zvlE zklE zrlE Go.Proofs.Tryz.prog 0 [0,1,4,5,7,8,9,16] 124 ?a)=>?a) ?h
 case h=>
 intro zc zv zk zr hc hv hk hr
 conv=>lhs;cbv;try simp only[hc,hv,hk,hr,zclE,zvlE,zklE,zrlE]
theorem f124_ok:compF Go.Proofs.Tryz.prog 0 [0,1,4,5,7,8,9,16] 124=some f124:=by kernel_rfl
theorem f124_n:argsOK Go.Proofs.Tryz.prog 124 2=true:=by kernel_rfl
noncomputable def f125:AFunc:=by
 refine(fun(_:Cz zclE zvlE zklE zrlE Go.Proofs.Tryz.prog 0 [0,1,2,3,4] 125 ?a)=>?a) ?h
 case h=>
 intro zc zv zk zr hc hv hk hr
 conv=>lhs;cbv;try simp only[hc,hv,hk,hr,zclE,zvlE,zklE,zrlE]
theorem f125_ok:compF Go.Proofs.Tryz.prog 0 [0,1,2,3,4] 125=some f125:=by kernel_rfl
theorem f125_n:argsOK Go.Proofs.Tryz.prog 125 3=true:=by kernel_rfl
noncomputable def f126:AFunc:=by
 refine(fun(_:Cz zclE zvlE zklE zrlE Go.Proofs.Tryz.prog 0 [0,1,2,3] 126 ?a)=>?a) ?h
 case h=>
 intro zc zv zk zr hc hv hk hr
 conv=>lhs;cbv;try simp only[hc,hv,hk,hr,zclE,zvlE,zklE,zrlE]
theorem f126_ok:compF Go.Proofs.Tryz.prog 0 [0,1,2,3] 126=some f126:=by kernel_rfl
theorem f126_n:argsOK Go.Proofs.Tryz.prog 126 2=true:=by kernel_rfl
noncomputable def f127:AFunc:=by
 refine(fun(_:Cz zclE zvlE zklE zrlE Go.Proofs.Tryz.prog 0 [0,1,2,3,5,6,8,9,10,11,12,13,14,15,16,17,18,26,31,32,33,34,42,49,50,51,52,105] 127 ?a)=>?a) ?h
 case h=>
 intro zc zv zk zr hc hv hk hr
 conv=>lhs;cbv;try simp only[hc,hv,hk,hr,zclE,zvlE,zklE,zrlE]
theorem f127_ok:compF Go.Proofs.Tryz.prog 0 [0,1,2,3,5,6,8,9,10,11,12,13,14,15,16,17,18,26,31,32,33,34,42,49,50,51,52,105] 127=some f127:=by kernel_rfl
theorem f127_n:argsOK Go.Proofs.Tryz.prog 127 4=true:=by kernel_rfl
noncomputable def f128:AFunc:=by
 refine(fun(_:Cz zclE zvlE zklE zrlE Go.Proofs.Tryz.prog 0 [0,1,2,3,5,9,10,11] 128 ?a)=>?a) ?h
 case h=>
 intro zc zv zk zr hc hv hk hr
 have e0A:=(rfl:rfA Go.Proofs.Tryz.prog 128 0=rfA Go.Proofs.Tryz.prog 128 0);conv at e0A=>rhs;cbv
 have e0B:=(rfl:rfB Go.Proofs.Tryz.prog 128 0=rfB Go.Proofs.Tryz.prog 128 0);conv at e0B=>rhs;cbv
 conv=>lhs;cbv;try simp only[hc,hv,hk,hr,zclE,zvlE,zklE,zrlE];simp only[←e0A,←e0B]
theorem f128_ok:compF Go.Proofs.Tryz.prog 0 [0,1,2,3,5,9,10,11] 128=some f128:=by kernel_rfl
theorem f128_n:argsOK Go.Proofs.Tryz.prog 128 1=true:=by kernel_rfl
noncomputable def f128r0a:ACode:=by
 refine(fun(_:CzC zclE zvlE zklE zrlE Go.Proofs.Tryz.prog 0 18 [0,1,2,3,5,9,10,11] (rfA Go.Proofs.Tryz.prog 128 0) ?a)=>?a) ?h
 case h=>intro zc zv zk zr hc hv hk hr;conv=>lhs;cbv;try simp only[hc,hv,hk,hr,zclE,zvlE,zklE,zrlE]
theorem f128r0a_ok:compC Go.Proofs.Tryz.prog 0 18 [0,1,2,3,5,9,10,11] (rfA Go.Proofs.Tryz.prog 128 0)=some f128r0a:=by kernel_rfl
noncomputable def f128r0b:ACode:=by
 refine(fun(_:CzC zclE zvlE zklE zrlE Go.Proofs.Tryz.prog 0 18 [0,1,2,3,5,9,10,11] (rfB Go.Proofs.Tryz.prog 128 0) ?a)=>?a) ?h
 case h=>intro zc zv zk zr hc hv hk hr;conv=>lhs;cbv;try simp only[hc,hv,hk,hr,zclE,zvlE,zklE,zrlE]
theorem f128r0b_ok:compC Go.Proofs.Tryz.prog 0 18 [0,1,2,3,5,9,10,11] (rfB Go.Proofs.Tryz.prog 128 0)=some f128r0b:=by kernel_rfl
theorem f128r0_n:(noRF (rfA Go.Proofs.Tryz.prog 128 0)&&noRF (rfB Go.Proofs.Tryz.prog 128 0))=true:=by kernel_rfl
noncomputable def f138:AFunc:=by
 refine(fun(_:Cz zclE zvlE zklE zrlE Go.Proofs.Tryz.prog 0 [0,1,2] 138 ?a)=>?a) ?h
 case h=>
 intro zc zv zk zr hc hv hk hr
 conv=>lhs;cbv;try simp only[hc,hv,hk,hr,zclE,zvlE,zklE,zrlE]
theorem f138_ok:compF Go.Proofs.Tryz.prog 0 [0,1,2] 138=some f138:=by kernel_rfl
theorem f138_n:argsOK Go.Proofs.Tryz.prog 138 1=true:=by kernel_rfl
noncomputable def f139:AFunc:=by
 refine(fun(_:Cz zclE zvlE zklE zrlE Go.Proofs.Tryz.prog 0 [0,1,3,8,18] 139 ?a)=>?a) ?h
 case h=>
 intro zc zv zk zr hc hv hk hr
 conv=>lhs;cbv;try simp only[hc,hv,hk,hr,zclE,zvlE,zklE,zrlE]
theorem f139_ok:compF Go.Proofs.Tryz.prog 0 [0,1,3,8,18] 139=some f139:=by kernel_rfl
theorem f139_n:argsOK Go.Proofs.Tryz.prog 139 2=true:=by kernel_rfl
end Go.AM.F

namespace Go.AM.Fd
open Nat (reduceAdd reduceEqDiff reduceLT reduceLeDiff reduceMul reduceSub)
open Go.Proofs Go.AM.F
def WRr(H:AHeap)(e esz:Nat)(v:Value)(rows:List (List Value)):Prop:=WR H e esz v rows.length rows.flatten∧∀r∈rows,r.length=esz
theorem WRr.sl{H:AHeap}{e esz:Nat}{v:Value}{rows:List (List Value)}(h:WRr H e esz v rows):Sl H esz v rows:=h.1.sl h.2 rfl
theorem WRr.keeps{H K:AHeap}{e esz:Nat}{v:Value}{rows:List (List Value)}(h:WRr H e esz v rows)(k:Keeps H K):WRr K e esz v rows:=⟨h.1.keeps k,h.2⟩
theorem WRr.pre{H:AHeap}{e esz:Nat}{v:Value}{rows:List (List Value)}(h:WRr H e esz v rows){kd:IntKind}{i:Nat}(hi:i≤rows.length):∃w,asem (.slsl esz v none (some (.int kd (i:Nat))) none) H=some (w,H)∧Sl H esz w (rows.take i):=by
 have hr:∀r∈rows.take i,r.length=esz:=fun r hm=>h.2 r (List.mem_of_mem_take hm)
 rcases h.1 with⟨rfl,h1,h2⟩|⟨b,k,room,d,rfl,h1,h2,h3,h4⟩
 ·have:rows=[]:=List.eq_nil_of_length_eq_zero h1
  subst this
  have:i=0:=by simpa using hi
  subst this
  exact⟨_,a_slsl_nil ⟨0,0,0,bnd_none 0 0,bnd_some kd 0 0 0 (Nat.le_refl _),bnd_none 0 0⟩,Sl.nil _ _⟩
 ·refine⟨_,a_slsl h4 (bnd_none _ _) (bnd_some kd i rows.length k (by omega)) (bnd_none 0 i),⟨⟨_,_,by rw[List.length_take,Nat.min_eq_left hi,Nat.sub_zero];rfl⟩,hr,?_⟩⟩
  have hle:i*esz≤k*esz:=Nat.mul_le_mul_right _ (by omega)
  have hle2:i*esz≤rows.length*esz:=Nat.mul_le_mul_right _ hi
  simp only[elemsA,slc,h4,Nat.zero_mul,Nat.add_zero,Nat.zero_add,Nat.sub_zero]
  rw[if_pos (by omega),List.drop_zero]
  congr 1
  have e:rows.flatten=(rows.take i).flatten++(rows.drop i).flatten:=by rw[←List.flatten_append,List.take_append_drop]
  have hl:(rows.take i).flatten.length=i*esz:=by rw[flat_len hr,List.length_take,Nat.min_eq_left hi]
  have e2:d.take (i*esz)=(d.take (rows.length*esz)).take (i*esz):=by rw[List.take_take,Nat.min_eq_left hle2]
  rw[e2,h3,e,←hl,List.take_left]
theorem t103(H:AHeap)(n:Nat)(hn:n≤1000000):∃w H',ARun Tryz.prog 0 103 [.slice none 0 0,.int .i64 (n:Nat)] H w H'∧WR H' 3 1 w 0 []∧Keeps H H'∧Fresh H.n w:=by
 refine walk2 f103_ok f103_n ?_
 intro Q hq1 hq2
 have h0:¬((n:Nat):Int)<0:=by omega
 have hw0:IntKind.i64.wrap (0-((0:Nat):Int))=0:=rfl
 have hw:IntKind.i64.wrap ((n:Int)-0)=(n:Nat):=by rw[wrap_i64 (by omega) (by omega)];omega
 have hs:=a_slsl_nil (H:=H) (esz:=1) (lo:=none) (hi:=some (.int .i64 0)) (mx:=none) ⟨0,0,0,bnd_none 0 0,bnd_some .i64 0 0 0 (Nat.le_refl _),bnd_none 0 0⟩
 by_cases hz:n=0
 ·subst hz
  have h1:¬(0:Int)<((0:Nat):Int):=by omega
  simp(disch:=first|assumption|omega|(simp only[LN]<;>omega)|(simp(disch:=first|assumption|omega|(simp only[LN]<;>omega))only[row_alloc,row_set];assumption))only[f103,W_block,P3,↓reduceIte,reduceAdd,reduceEqDiff,reduceCtorEq,initFr,reduceLT,clsA,reduceLeDiff,reduceMul,reduceSub,reduceIte,st_cap,st_appz,hw0,hw,a_cap0,lenS]
  exact hq2 _ _ ⟨.slice none 0 0,rfl,.inl ⟨rfl,rfl,rfl⟩,Keeps.refl _,fun b hb=>by cases hb⟩
 ·have h1:(0:Int)<((n:Nat):Int):=by omega
  have hlen:(List.replicate n [Value.int .i64 0]).flatten.length=n*1:=by simp
  have ha:asem (.appz 3 1 8 [Value.int .i64 0] (.slice none 0 0) (.int .i64 (n:Nat))) H=some (slc H.n 0 n n,H.alloc (.cells true true 1 (List.replicate n [Value.int .i64 0]).flatten 3)):=by
   simp only[asem,Int.toNat_natCast,appA,if_neg hz]
   rw[if_pos (by omega)]
   simp only[and_self,if_true]
   rw[if_pos (by omega)]
  have hs2:=a_slsl (AHeap.get_alloc_new H (.cells true true 1 (List.replicate n [Value.int .i64 0]).flatten 3)) (o:=0) (n:=n) (k:=n) (lo:=none) (hi:=some (.int .i64 (0:Nat))) (mx:=none) (bnd_none _ _) (bnd_some .i64 0 n n (by omega)) (bnd_none 0 0)
  simp only[slc]at ha hs2
  simp(disch:=first|assumption|omega|(simp only[LN]<;>omega)|(simp(disch:=first|assumption|omega|(simp only[LN]<;>omega))only[row_alloc,row_set];assumption))only[f103,W_block,P3,↓reduceIte,reduceAdd,reduceEqDiff,reduceCtorEq,initFr,reduceLT,clsA,reduceLeDiff,reduceMul,reduceSub,reduceIte,st_cap,st_appz,hw0,hw,a_cap0,lenS,hs,ha,hs2]
  exact hq2 _ _ ⟨slc H.n 0 0 n,rfl,.inr ⟨H.n,n,true,_,rfl,Nat.zero_le _,hlen,by simp,AHeap.get_alloc_new H _⟩,(Keeps.refl H).alloc _,fun b hb=>by cases hb;exact Nat.le_refl _⟩
theorem t65{H:AHeap}{V:Value}{vs:List (Value×List (List Value))}(hV:Sl H 1 V (vs.map fun x=>[x.1]))(hx:∀x∈vs,Sl H 1 x.1 x.2)(hl:vs.length≤1000)(hT:(vs.map (·.2.length)).sum≤1000000):
 ∃w H',ARun Tryz.prog 0 65 [V] H w H'∧WRr H' 3 1 w (vs.map (·.2)).flatten∧Keeps H H'∧Fresh H.n w:=by
 refine walk2 f65_ok f65_n ?_
 intro Q hq1 hq2
 have iV:=Sl.is hV
 have lV:lenS V=vs.length:=by have:=Sl.len hV;simpa using this
 have el:∀{i:Nat} (hi:i<vs.length) {K:AHeap},Keeps H K→nnS V=true∧rowA K 1 V i=some [vs[i].1]:=fun{i} hi {K} k=>by
  have:=Sl.at_ (hV.keeps k) (by omega) (i:=i) (by simpa using hi)
  simpa using this
 have tk:∀{i:Nat} (hi:i<vs.length),((vs.take (i+1)).map (·.2.length)).sum=((vs.take i).map (·.2.length)).sum+vs[i].2.length:=fun{i} hi=>by
  rw[List.take_succ_eq_append_getElem hi,List.map_append,List.sum_append];simp
 have tle:∀i,((vs.take i).map (·.2.length)).sum≤1000000:=fun i=>by
  have:vs=vs.take i++vs.drop i:=(List.take_append_drop i vs).symm
  rw[this,List.map_append,List.sum_append]at hT;omega
 simp(disch:=first|assumption|omega)only[f65,P3,seval,initFr,clsA,lV]
 rw[W_block]
 refine W_loop2 (fun k fr K=>∃i x3 x9 x10,fr=[V,.slice none 0 0,.int .i64 (((vs.take i).map (·.2.length)).sum:Nat),x3,undef,undef,V,.int .i64 ((vs.length:Nat):Int),.int .i64 ((i:Nat):Int),x9,x10,undef,undef,undef,undef]∧K=H∧i≤vs.length∧k=vs.length-i) vs.length
  ⟨0,_,_,_,rfl,rfl,by omega,rfl⟩ ?_
 rintro Q' k fr K0 ⟨i,x3,x9,x10,rfl,rfl,hi,rfl⟩ hn hx1 hret
 by_cases hlt:i<vs.length
 ·obtain⟨na,ra⟩:=el hlt (Keeps.refl _)
  have h0:(0:Int)≤(i:Int):=by omega
  have h1:(i:Int)<((vs.length:Nat):Int):=by omega
  have hw:IntKind.i64.wrap ((i:Int)+1)=((i+1:Nat):Int):=by rw[wrap_i64 (by omega) (by omega)];simp
  have lx:lenS vs[i].1 =vs[i].2.length:=Sl.len (hx _ (List.getElem_mem _))
  have ix:=Sl.is (hx _ (List.getElem_mem hlt))
  have hs:IntKind.i64.wrap ((((vs.take i).map (·.2.length)).sum:Nat)+(vs[i].2.length:Nat):Int)=((((vs.take (i+1)).map (·.2.length)).sum:Nat):Int):=by
   have:=tle (i+1);have:=tk hlt
   rw[wrap_i64 (by omega) (by omega)];omega
  have hneg:¬((((vs.take (i+1)).map (·.2.length)).sum:Nat):Int)<0:=by omega
  simp(disch:=first|assumption|omega)only[W_block,P3,seval,initFr,clsA,lV,ra,na,a_load1v,hw,lx,hs]
  exact hn _ _ _ ⟨i+1,_,_,_,rfl,rfl,by omega,rfl⟩ (by omega)
 ·have h1:¬(i:Int)<((vs.length:Nat):Int):=by omega
  have:i=vs.length:=by omega
  subst this
  simp(disch:=first|assumption|omega)only[W_block,P3,seval,initFr,clsA,lV]
  refine hx1 0 _ _ ?_
  simp(disch:=first|assumption|omega)only[P3,seval,initFr,clsA]
  refine callK (t103 _ _ (tle _)) ?_
  rintro w K ⟨wr,kk,fw⟩
  simp(disch:=first|assumption|omega)only[P3,seval,initFr,clsA,lV]
  rw[W_block]
  refine W_loop2 (fun k fr M=>∃i w x3 x5 x9 x10 x14,fr=[V,.slice none 0 0,.int .i64 (((vs.take vs.length).map (·.2.length)).sum:Nat),x3,w,x5,V,.int .i64 ((vs.length:Nat):Int),.int .i64 ((vs.length:Nat):Int),x9,x10,V,.int .i64 ((vs.length:Nat):Int),.int .i64 ((i:Nat):Int),x14]∧
   WR M 3 1 w ((vs.take i).map (·.2.length)).sum ((vs.take i).map (·.2)).flatten.flatten∧Keeps K0 M∧Fresh K0.n w∧i≤vs.length∧k=vs.length-i) vs.length
   ⟨0,w,_,_,_,_,_,rfl,wr,kk,fw,by omega,rfl⟩ ?_
  clear wr kk fw w K
  rintro Q2 k fr M ⟨i,w,x3,x5,x9,x10,x14,rfl,wr,kk,fw,hi,rfl⟩ hn2 hx2 hret2
  by_cases hlt:i<vs.length
  ·obtain⟨na,ra⟩:=el hlt kk
   have h0:(0:Int)≤(i:Int):=by omega
   have h1:(i:Int)<((vs.length:Nat):Int):=by omega
   have hw:IntKind.i64.wrap ((i:Int)+1)=((i+1:Nat):Int):=by rw[wrap_i64 (by omega) (by omega)];simp
   have sx:=(hx _ (List.getElem_mem hlt)).keeps kk
   have iw:=wr.is
   have t1:=tk hlt
   have t2:=tle (i+1)
   simp(disch:=first|assumption|omega)only[W_block,P3,seval,initFr,clsA,lV,ra,na,a_load1v]
   refine wr.appR (bytes:=8) sx.sh sx.el (flat_len sx.row) (by omega) ?_
   intro w' M' wr' c' hb'
   simp(disch:=first|assumption|omega)only[W_block,P3,seval,initFr,clsA,hw]
   refine hn2 _ _ _ ⟨i+1,w',_,_,_,_,_,rfl,?_,kk.chg_trans c' (fun x hx=>fw x (mem_blkL.1 hx)),fun b hb=>?_,by omega,rfl⟩ (by omega)
   ·rw[t1]
    have e:((vs.take (i+1)).map (·.2)).flatten.flatten=((vs.take i).map (·.2)).flatten.flatten++vs[i].2.flatten:=by
     rw[List.take_succ_eq_append_getElem hlt,List.map_append,List.flatten_append,List.flatten_append];simp
    rw[e];exact wr'
   ·rcases hb' with e|e
    ·exact fw b (by rw[←e];exact hb)
    ·rw[e]at hb;cases hb;exact kk.n
  ·have h1:¬(i:Int)<((vs.length:Nat):Int):=by omega
   have:i=vs.length:=by omega
   subst this
   simp(disch:=first|assumption|omega)only[W_block,P3,seval,initFr,clsA,lV]
   refine hx2 2 _ _ ?_
   simp(disch:=first|assumption|omega)only[W_block,P3,seval,initFr,clsA]
   refine hq2 _ _ ⟨_,rfl,?_,kk,fw⟩
   rw[List.take_length]at wr
   refine⟨?_,fun r hr=>?_⟩
   ·have e:(vs.map (·.2)).flatten.length=(vs.map (·.2.length)).sum:=by simp[List.length_flatten,List.map_map,Function.comp_def]
    rw[e];exact wr
   ·obtain⟨l,hl,hm⟩:=List.mem_flatten.1 hr
    obtain⟨x,hxm,rfl⟩:=List.mem_map.1 hl
    exact(hx x hxm).row r hm
theorem t104(H:AHeap)(n:Nat)(hn:n≤1000000):∃w H',ARun Tryz.prog 0 104 [.slice none 0 0,.int .i64 (n:Nat)] H w H'∧WR H' 120 2 w 0 []∧Keeps H H'∧Fresh H.n w:=by
 refine walk2 f104_ok f104_n ?_
 intro Q hq1 hq2
 have h0:¬((n:Nat):Int)<0:=by omega
 have hw0:IntKind.i64.wrap (0-((0:Nat):Int))=0:=rfl
 have hw:IntKind.i64.wrap ((n:Int)-0)=(n:Nat):=by rw[wrap_i64 (by omega) (by omega)];omega
 have hs:=a_slsl_nil (H:=H) (esz:=2) (lo:=none) (hi:=some (.int .i64 0)) (mx:=none) ⟨0,0,0,bnd_none 0 0,bnd_some .i64 0 0 0 (Nat.le_refl _),bnd_none 0 0⟩
 by_cases hz:n=0
 ·subst hz
  have h1:¬(0:Int)<((0:Nat):Int):=by omega
  simp(disch:=first|assumption|omega|(simp only[LN]<;>omega)|(simp(disch:=first|assumption|omega|(simp only[LN]<;>omega))only[row_alloc,row_set];assumption))only[f104,W_block,P3,↓reduceIte,reduceAdd,reduceEqDiff,reduceCtorEq,initFr,reduceLT,clsA,reduceLeDiff,reduceMul,reduceSub,reduceIte,st_cap,st_appz,hw0,hw,a_cap0,lenS]
  exact hq2 _ _ ⟨.slice none 0 0,rfl,.inl ⟨rfl,rfl,rfl⟩,Keeps.refl _,fun b hb=>by cases hb⟩
 ·have h1:(0:Int)<((n:Nat):Int):=by omega
  have hlen:(List.replicate n [Value.int .i64 0,Value.bool false]).flatten.length=n*2:=by simp
  have ha:asem (.appz 120 2 16 [Value.int .i64 0,Value.bool false] (.slice none 0 0) (.int .i64 (n:Nat))) H=some (slc H.n 0 n n,H.alloc (.cells true true 2 (List.replicate n [Value.int .i64 0,Value.bool false]).flatten 120)):=by
   simp only[asem,Int.toNat_natCast,appA,if_neg hz]
   rw[if_pos (by omega)]
   simp only[and_self,if_true]
   rw[if_pos (by omega)]
  have hs2:=a_slsl (AHeap.get_alloc_new H (.cells true true 2 (List.replicate n [Value.int .i64 0,Value.bool false]).flatten 120)) (o:=0) (n:=n) (k:=n) (lo:=none) (hi:=some (.int .i64 (0:Nat))) (mx:=none) (bnd_none _ _) (bnd_some .i64 0 n n (by omega)) (bnd_none 0 0)
  simp only[slc]at ha hs2
  simp(disch:=first|assumption|omega|(simp only[LN]<;>omega)|(simp(disch:=first|assumption|omega|(simp only[LN]<;>omega))only[row_alloc,row_set];assumption))only[f104,W_block,P3,↓reduceIte,reduceAdd,reduceEqDiff,reduceCtorEq,initFr,reduceLT,clsA,reduceLeDiff,reduceMul,reduceSub,reduceIte,st_cap,st_appz,hw0,hw,a_cap0,lenS,hs,ha,hs2]
  exact hq2 _ _ ⟨slc H.n 0 0 n,rfl,.inr ⟨H.n,n,true,_,rfl,Nat.zero_le _,hlen,by simp,AHeap.get_alloc_new H _⟩,(Keeps.refl H).alloc _,fun b hb=>by cases hb;exact Nat.le_refl _⟩
theorem t66{H:AHeap}{V:Value}{vs:List (Value×List (List Value))}(hV:Sl H 1 V (vs.map fun x=>[x.1]))(hx:∀x∈vs,Sl H 2 x.1 x.2)(hl:vs.length≤1000)(hT:(vs.map (·.2.length)).sum≤1000000):
 ∃w H',ARun Tryz.prog 0 66 [V] H w H'∧WRr H' 120 2 w (vs.map (·.2)).flatten∧Keeps H H'∧Fresh H.n w:=by
 refine walk2 f66_ok f66_n ?_
 intro Q hq1 hq2
 have iV:=Sl.is hV
 have lV:lenS V=vs.length:=by have:=Sl.len hV;simpa using this
 have el:∀{i:Nat} (hi:i<vs.length) {K:AHeap},Keeps H K→nnS V=true∧rowA K 1 V i=some [vs[i].1]:=fun{i} hi {K} k=>by
  have:=Sl.at_ (hV.keeps k) (by omega) (i:=i) (by simpa using hi)
  simpa using this
 have tk:∀{i:Nat} (hi:i<vs.length),((vs.take (i+1)).map (·.2.length)).sum=((vs.take i).map (·.2.length)).sum+vs[i].2.length:=fun{i} hi=>by
  rw[List.take_succ_eq_append_getElem hi,List.map_append,List.sum_append];simp
 have tle:∀i,((vs.take i).map (·.2.length)).sum≤1000000:=fun i=>by
  have:vs=vs.take i++vs.drop i:=(List.take_append_drop i vs).symm
  rw[this,List.map_append,List.sum_append]at hT;omega
 simp(disch:=first|assumption|omega)only[f66,P3,seval,initFr,clsA,lV]
 rw[W_block]
 refine W_loop2 (fun k fr K=>∃i x3 x9 x10,fr=[V,.slice none 0 0,.int .i64 (((vs.take i).map (·.2.length)).sum:Nat),x3,undef,undef,V,.int .i64 ((vs.length:Nat):Int),.int .i64 ((i:Nat):Int),x9,x10,undef,undef,undef,undef]∧K=H∧i≤vs.length∧k=vs.length-i) vs.length
  ⟨0,_,_,_,rfl,rfl,by omega,rfl⟩ ?_
 rintro Q' k fr K0 ⟨i,x3,x9,x10,rfl,rfl,hi,rfl⟩ hn hx1 hret
 by_cases hlt:i<vs.length
 ·obtain⟨na,ra⟩:=el hlt (Keeps.refl _)
  have h0:(0:Int)≤(i:Int):=by omega
  have h1:(i:Int)<((vs.length:Nat):Int):=by omega
  have hw:IntKind.i64.wrap ((i:Int)+1)=((i+1:Nat):Int):=by rw[wrap_i64 (by omega) (by omega)];simp
  have lx:lenS vs[i].1 =vs[i].2.length:=Sl.len (hx _ (List.getElem_mem _))
  have ix:=Sl.is (hx _ (List.getElem_mem hlt))
  have hs:IntKind.i64.wrap ((((vs.take i).map (·.2.length)).sum:Nat)+(vs[i].2.length:Nat):Int)=((((vs.take (i+1)).map (·.2.length)).sum:Nat):Int):=by
   have:=tle (i+1);have:=tk hlt
   rw[wrap_i64 (by omega) (by omega)];omega
  have hneg:¬((((vs.take (i+1)).map (·.2.length)).sum:Nat):Int)<0:=by omega
  simp(disch:=first|assumption|omega)only[W_block,P3,seval,initFr,clsA,lV,ra,na,a_load1v,hw,lx,hs]
  exact hn _ _ _ ⟨i+1,_,_,_,rfl,rfl,by omega,rfl⟩ (by omega)
 ·have h1:¬(i:Int)<((vs.length:Nat):Int):=by omega
  have:i=vs.length:=by omega
  subst this
  simp(disch:=first|assumption|omega)only[W_block,P3,seval,initFr,clsA,lV]
  refine hx1 0 _ _ ?_
  simp(disch:=first|assumption|omega)only[P3,seval,initFr,clsA]
  refine callK (t104 _ _ (tle _)) ?_
  rintro w K ⟨wr,kk,fw⟩
  simp(disch:=first|assumption|omega)only[P3,seval,initFr,clsA,lV]
  rw[W_block]
  refine W_loop2 (fun k fr M=>∃i w x3 x5 x9 x10 x14,fr=[V,.slice none 0 0,.int .i64 (((vs.take vs.length).map (·.2.length)).sum:Nat),x3,w,x5,V,.int .i64 ((vs.length:Nat):Int),.int .i64 ((vs.length:Nat):Int),x9,x10,V,.int .i64 ((vs.length:Nat):Int),.int .i64 ((i:Nat):Int),x14]∧
   WR M 120 2 w ((vs.take i).map (·.2.length)).sum ((vs.take i).map (·.2)).flatten.flatten∧Keeps K0 M∧Fresh K0.n w∧i≤vs.length∧k=vs.length-i) vs.length
   ⟨0,w,_,_,_,_,_,rfl,wr,kk,fw,by omega,rfl⟩ ?_
  clear wr kk fw w K
  rintro Q2 k fr M ⟨i,w,x3,x5,x9,x10,x14,rfl,wr,kk,fw,hi,rfl⟩ hn2 hx2 hret2
  by_cases hlt:i<vs.length
  ·obtain⟨na,ra⟩:=el hlt kk
   have h0:(0:Int)≤(i:Int):=by omega
   have h1:(i:Int)<((vs.length:Nat):Int):=by omega
   have hw:IntKind.i64.wrap ((i:Int)+1)=((i+1:Nat):Int):=by rw[wrap_i64 (by omega) (by omega)];simp
   have sx:=(hx _ (List.getElem_mem hlt)).keeps kk
   have iw:=wr.is
   have t1:=tk hlt
   have t2:=tle (i+1)
   simp(disch:=first|assumption|omega)only[W_block,P3,seval,initFr,clsA,lV,ra,na,a_load1v]
   refine wr.appR (bytes:=16) sx.sh sx.el (flat_len sx.row) (by omega) ?_
   intro w' M' wr' c' hb'
   simp(disch:=first|assumption|omega)only[W_block,P3,seval,initFr,clsA,hw]
   refine hn2 _ _ _ ⟨i+1,w',_,_,_,_,_,rfl,?_,kk.chg_trans c' (fun x hx=>fw x (mem_blkL.1 hx)),fun b hb=>?_,by omega,rfl⟩ (by omega)
   ·rw[t1]
    have e:((vs.take (i+1)).map (·.2)).flatten.flatten=((vs.take i).map (·.2)).flatten.flatten++vs[i].2.flatten:=by
     rw[List.take_succ_eq_append_getElem hlt,List.map_append,List.flatten_append,List.flatten_append];simp
    rw[e];exact wr'
   ·rcases hb' with e|e
    ·exact fw b (by rw[←e];exact hb)
    ·rw[e]at hb;cases hb;exact kk.n
  ·have h1:¬(i:Int)<((vs.length:Nat):Int):=by omega
   have:i=vs.length:=by omega
   subst this
   simp(disch:=first|assumption|omega)only[W_block,P3,seval,initFr,clsA,lV]
   refine hx2 2 _ _ ?_
   simp(disch:=first|assumption|omega)only[W_block,P3,seval,initFr,clsA]
   refine hq2 _ _ ⟨_,rfl,?_,kk,fw⟩
   rw[List.take_length]at wr
   refine⟨?_,fun r hr=>?_⟩
   ·have e:(vs.map (·.2)).flatten.length=(vs.map (·.2.length)).sum:=by simp[List.length_flatten,List.map_map,Function.comp_def]
    rw[e];exact wr
   ·obtain⟨l,hl,hm⟩:=List.mem_flatten.1 hr
    obtain⟨x,hxm,rfl⟩:=List.mem_map.1 hl
    exact(hx x hxm).row r hm
end Go.AM.Fd

namespace Go.AM.Fd
open Nat (reduceAdd reduceEqDiff reduceLT reduceLeDiff reduceMul reduceSub)
open Go.Proofs Go.AM.F
theorem t124{H:AHeap}{v:Value}{l:List Int}(h:IL H v l)(hl:l.length≤1000000)(x:Int):
 ∃w H',ARun Tryz.prog 0 124 [v,.int .i64 x] H w H'∧H'=H∧∃i:Int,w=.int .i64 i∧decide (0≤i)=l.contains x:=by
 refine walk2 f124_ok f124_n ?_
 intro Q hq1 hq2
 have ia:=Sl.is h
 have la:=h.len
 simp(disch:=first|assumption|omega)only[f124,P3,seval,initFr,clsA,la]
 rw[W_block]
 refine W_loop2 (fun k fr K=>∃i x3 x6 x7,fr=[v,.int .i64 x,.int .i64 0,x3,.int .i64 ((l.length:Nat):Int),.int .i64 ((i:Nat):Int),x6,x7]∧K=H∧i≤l.length∧(l.take i).contains x=false∧k=l.length-i) l.length
  ⟨0,_,_,_,rfl,rfl,by omega,by simp,rfl⟩ ?_
 rintro Q' k fr K ⟨i,x3,x6,x7,rfl,rfl,hi,hp,rfl⟩ hn hx hret
 by_cases hlt:i<l.length
 ·obtain⟨na,ra⟩:=h.at_ hlt
  have h0:(0:Int)≤(i:Int):=by omega
  have h1:(i:Int)<((lenS v:Nat):Int):=by omega
  have h3:(i:Int)<((l.length:Nat):Int):=by omega
  have hw:IntKind.i64.wrap ((i:Int)+1)=((i+1:Nat):Int):=by rw[wrap_i64 (by omega) (by omega)];simp
  have e1:l.getD i 0=l[i]:=by simp[List.getD,List.getElem?_eq_getElem hlt]
  have tk:x≠l[i]→(l.take (i+1)).contains x=false:=fun e=>by
   rw[List.take_succ_eq_append_getElem hlt]
   simp only[List.contains_eq_any_beq,List.any_append]at hp ⊢
   rw[hp];simpa using e
  have an:x=l[i]→l.contains x=true:=fun e=>by rw[e];simp
  rw[e1]at ra
  generalize l[i]=y at*
  by_cases hxy:x=y
  ·have e2:(x==y)=true:=by simpa using hxy
   simp(disch:=first|assumption|omega)only[W_block,P3,seval,initFr,clsA,la,ra,na,a_load1v,e2]
   exact hret _ _ (hq2 _ _ ⟨_,rfl,rfl,(i:Int),rfl,by rw[an hxy];simp⟩)
  ·have e2:(x==y)=false:=by simpa using hxy
   simp(disch:=first|assumption|omega)only[W_block,P3,seval,initFr,clsA,la,ra,na,a_load1v,e2,hw]
   exact hn _ _ _ ⟨i+1,_,_,_,rfl,rfl,by omega,tk hxy,rfl⟩ (by omega)
 ·have h3:¬(i:Int)<((l.length:Nat):Int):=by omega
  simp(disch:=first|assumption|omega)only[W_block,P3,seval,initFr,clsA,la]
  refine hx 0 _ _ ?_
  simp(disch:=first|assumption|omega)only[W_block,P3,seval,initFr,clsA]
  refine hq2 _ _ ⟨_,rfl,rfl,-1,rfl,?_⟩
  rw[List.take_of_length_le (by omega)]at hp
  rw[hp];rfl
theorem t99{H:AHeap}{v:Value}{l:List Int}(h:IL H v l)(hl:l.length≤1000000)(x:Int):
 ∃w H',ARun Tryz.prog 0 99 [v,.int .i64 x] H w H'∧w=.bool (l.contains x)∧H'=H:=by
 refine walk2 f99_ok f99_n ?_
 intro Q hq1 hq2
 simp(disch:=first|assumption|omega)only[f99,P3,seval,initFr,clsA]
 refine callK (t124 h hl x) ?_
 rintro _ _ ⟨rfl,i,rfl,hi⟩
 simp(disch:=first|assumption|omega)only[W_block,P3,seval,initFr,clsA]
 exact hq2 _ _ ⟨_,rfl,by rw[←hi];rfl,rfl⟩
theorem t75{H:AHeap}{v:Value}{l:List Int}(h:IL H v l)(hl:l.length≤1000000){g:FuncId}{fi ca:Array Value}{p:Int→Bool}
 (hF:∀x∈l,∃w K',ARun Tryz.prog 0 g (fi.toList++[Value.int .i64 x]++ca.toList) H w K'∧w=.bool (p x)∧K'=H):
 ∃w H',ARun Tryz.prog 0 75 [v,.func (.func g) fi ca] H w H'∧H'=H∧∃i:Int,w=.int .i64 i∧decide (0≤i)=l.any p:=by
 refine walk2 f75_ok f75_n ?_
 intro Q hq1 hq2
 have ia:=Sl.is h
 have la:=h.len
 simp(disch:=first|assumption|omega)only[f75,P3,seval,initFr,clsA,la]
 rw[W_block]
 refine W_loop2 (fun k fr K=>∃i x3 x6 x7,fr=[v,.func (.func g) fi ca,.int .i64 0,x3,.int .i64 ((l.length:Nat):Int),.int .i64 ((i:Nat):Int),x6,x7]∧K=H∧i≤l.length∧(l.take i).any p=false∧k=l.length-i) l.length
  ⟨0,_,_,_,rfl,rfl,by omega,by simp,rfl⟩ ?_
 rintro Q' k fr K ⟨i,x3,x6,x7,rfl,rfl,hi,hp,rfl⟩ hn hx hret
 by_cases hlt:i<l.length
 ·obtain⟨na,ra⟩:=h.at_ hlt
  have h0:(0:Int)≤(i:Int):=by omega
  have h1:(i:Int)<((lenS v:Nat):Int):=by omega
  have h3:(i:Int)<((l.length:Nat):Int):=by omega
  have hw:IntKind.i64.wrap ((i:Int)+1)=((i+1:Nat):Int):=by rw[wrap_i64 (by omega) (by omega)];simp
  have e1:l.getD i 0=l[i]:=by simp[List.getD,List.getElem?_eq_getElem hlt]
  have hf:=hF _ (List.getElem_mem hlt)
  have tk:(l.take (i+1)).any p=p l[i]:=by rw[List.take_succ_eq_append_getElem hlt,List.any_append,hp];simp
  have an:p l[i]=true→l.any p=true:=fun e=>List.any_eq_true.2 ⟨_,List.getElem_mem hlt,e⟩
  rw[e1]at ra
  generalize l[i]=x at*
  simp(disch:=first|assumption|omega)only[W_block,P3,seval,initFr,clsA,la,ra,na,a_load1v,a_loadnv,st_callv,ia]
  refine callK hf ?_
  rintro _ _ ⟨rfl,rfl⟩
  cases hpx:p x with
  |true=>
   simp(disch:=first|assumption|omega)only[W_block,P3,seval,initFr,clsA]
   exact hret _ _ (hq2 _ _ ⟨_,rfl,rfl,(i:Int),rfl,by rw[an hpx];simp⟩)
  |false=>
   simp(disch:=first|assumption|omega)only[W_block,P3,seval,initFr,clsA,hw]
   exact hn _ _ _ ⟨i+1,_,_,_,rfl,rfl,by omega,by rw[tk,hpx],rfl⟩ (by omega)
 ·have h3:¬(i:Int)<((l.length:Nat):Int):=by omega
  simp(disch:=first|assumption|omega)only[W_block,P3,seval,initFr,clsA,la]
  refine hx 0 _ _ ?_
  simp(disch:=first|assumption|omega)only[W_block,P3,seval,initFr,clsA]
  refine hq2 _ _ ⟨_,rfl,rfl,-1,rfl,?_⟩
  rw[List.take_of_length_le (by omega)]at hp
  rw[hp];rfl
theorem t43{H:AHeap}{v:Value}{l:List Int}(h:IL H v l)(hl:l.length≤1000000){g:FuncId}{fi ca:Array Value}{p:Int→Bool}
 (hF:∀x∈l,∃w K',ARun Tryz.prog 0 g (fi.toList++[Value.int .i64 x]++ca.toList) H w K'∧w=.bool (p x)∧K'=H):
 ∃w H',ARun Tryz.prog 0 43 [v,.func (.func g) fi ca] H w H'∧w=.bool (l.any p)∧H'=H:=by
 refine walk2 f43_ok f43_n ?_
 intro Q hq1 hq2
 simp(disch:=first|assumption|omega)only[f43,P3,seval,initFr,clsA]
 refine callK (t75 h hl hF) ?_
 rintro _ _ ⟨rfl,i,rfl,hi⟩
 simp(disch:=first|assumption|omega)only[W_block,P3,seval,initFr,clsA]
 exact hq2 _ _ ⟨_,rfl,by rw[←hi];rfl,rfl⟩
theorem t76{H:AHeap}{v:Value}{l:List (Int×Bool)}(h:NL H v l)(hl:l.length≤1000000){g:FuncId}{fi ca:Array Value}{p:(Int×Bool)→Bool}
 (hF:∀x∈l,∃w K',ARun Tryz.prog 0 g (fi.toList++[Value.agg (nRow x).toArray]++ca.toList) H w K'∧w=.bool (p x)∧K'=H):
 ∃w H',ARun Tryz.prog 0 76 [v,.func (.func g) fi ca] H w H'∧H'=H∧∃i:Int,w=.int .i64 i∧decide (0≤i)=l.any p:=by
 refine walk2 f76_ok f76_n ?_
 intro Q hq1 hq2
 have ia:=Sl.is h
 have la:=h.len
 simp(disch:=first|assumption|omega)only[f76,P3,seval,initFr,clsA,la]
 rw[W_block]
 refine W_loop2 (fun k fr K=>∃i x3 x6 x7,fr=[v,.func (.func g) fi ca,.int .i64 0,x3,.int .i64 ((l.length:Nat):Int),.int .i64 ((i:Nat):Int),x6,x7]∧K=H∧i≤l.length∧(l.take i).any p=false∧k=l.length-i) l.length
  ⟨0,_,_,_,rfl,rfl,by omega,by simp,rfl⟩ ?_
 rintro Q' k fr K ⟨i,x3,x6,x7,rfl,rfl,hi,hp,rfl⟩ hn hx hret
 by_cases hlt:i<l.length
 ·obtain⟨na,ra⟩:=h.at_ hlt
  have h0:(0:Int)≤(i:Int):=by omega
  have h1:(i:Int)<((lenS v:Nat):Int):=by omega
  have h3:(i:Int)<((l.length:Nat):Int):=by omega
  have hw:IntKind.i64.wrap ((i:Int)+1)=((i+1:Nat):Int):=by rw[wrap_i64 (by omega) (by omega)];simp
  have e1:l.getD i (0,false)=l[i]:=by simp[List.getD,List.getElem?_eq_getElem hlt]
  have hf:=hF _ (List.getElem_mem hlt)
  have tk:(l.take (i+1)).any p=p l[i]:=by rw[List.take_succ_eq_append_getElem hlt,List.any_append,hp];simp
  have an:p l[i]=true→l.any p=true:=fun e=>List.any_eq_true.2 ⟨_,List.getElem_mem hlt,e⟩
  rw[e1]at ra
  generalize l[i]=x at*
  simp(disch:=first|assumption|omega)only[W_block,P3,seval,initFr,clsA,la,ra,na,a_load1v,a_loadnv,st_callv,nRow]
  refine callK hf ?_
  rintro _ _ ⟨rfl,rfl⟩
  cases hpx:p x with
  |true=>
   simp(disch:=first|assumption|omega)only[W_block,P3,seval,initFr,clsA]
   exact hret _ _ (hq2 _ _ ⟨_,rfl,rfl,(i:Int),rfl,by rw[an hpx];simp⟩)
  |false=>
   simp(disch:=first|assumption|omega)only[W_block,P3,seval,initFr,clsA,hw]
   exact hn _ _ _ ⟨i+1,_,_,_,rfl,rfl,by omega,by rw[tk,hpx],rfl⟩ (by omega)
 ·have h3:¬(i:Int)<((l.length:Nat):Int):=by omega
  simp(disch:=first|assumption|omega)only[W_block,P3,seval,initFr,clsA,la]
  refine hx 0 _ _ ?_
  simp(disch:=first|assumption|omega)only[W_block,P3,seval,initFr,clsA]
  refine hq2 _ _ ⟨_,rfl,rfl,-1,rfl,?_⟩
  rw[List.take_of_length_le (by omega)]at hp
  rw[hp];rfl
theorem t45{H:AHeap}{v:Value}{l:List (Int×Bool)}(h:NL H v l)(hl:l.length≤1000000){g:FuncId}{fi ca:Array Value}{p:(Int×Bool)→Bool}
 (hF:∀x∈l,∃w K',ARun Tryz.prog 0 g (fi.toList++[Value.agg (nRow x).toArray]++ca.toList) H w K'∧w=.bool (p x)∧K'=H):
 ∃w H',ARun Tryz.prog 0 45 [v,.func (.func g) fi ca] H w H'∧w=.bool (l.any p)∧H'=H:=by
 refine walk2 f45_ok f45_n ?_
 intro Q hq1 hq2
 simp(disch:=first|assumption|omega)only[f45,P3,seval,initFr,clsA]
 refine callK (t76 h hl hF) ?_
 rintro _ _ ⟨rfl,i,rfl,hi⟩
 simp(disch:=first|assumption|omega)only[W_block,P3,seval,initFr,clsA]
 exact hq2 _ _ ⟨_,rfl,by rw[←hi];rfl,rfl⟩
theorem t62{H:AHeap}{v:Value}{l:List RV}(h:RL H v l)(hl:l.length≤1000000){g:FuncId}{fi ca:Array Value}{p:RV→Bool}
 (hF:∀x∈l,∃w K',ARun Tryz.prog 0 g (fi.toList++[Value.agg x.row.toArray]++ca.toList) H w K'∧w=.bool (p x)∧K'=H):
 ∃w H',ARun Tryz.prog 0 62 [v,.func (.func g) fi ca] H w H'∧H'=H∧∃i:Int,w=.int .i64 i∧decide (0≤i)=l.any p:=by
 refine walk2 f62_ok f62_n ?_
 intro Q hq1 hq2
 have ia:=Sl.is h
 have la:=h.len
 simp(disch:=first|assumption|omega)only[f62,P3,seval,initFr,clsA,la]
 rw[W_block]
 refine W_loop2 (fun k fr K=>∃i x3 x6 x7,fr=[v,.func (.func g) fi ca,.int .i64 0,x3,.int .i64 ((l.length:Nat):Int),.int .i64 ((i:Nat):Int),x6,x7]∧K=H∧i≤l.length∧(l.take i).any p=false∧k=l.length-i) l.length
  ⟨0,_,_,_,rfl,rfl,by omega,by simp,rfl⟩ ?_
 rintro Q' k fr K ⟨i,x3,x6,x7,rfl,rfl,hi,hp,rfl⟩ hn hx hret
 by_cases hlt:i<l.length
 ·obtain⟨na,ra⟩:=h.at_ hlt
  have h0:(0:Int)≤(i:Int):=by omega
  have h1:(i:Int)<((lenS v:Nat):Int):=by omega
  have h3:(i:Int)<((l.length:Nat):Int):=by omega
  have hw:IntKind.i64.wrap ((i:Int)+1)=((i+1:Nat):Int):=by rw[wrap_i64 (by omega) (by omega)];simp
  have e1:l.getD i rv0=l[i]:=by simp[List.getD,List.getElem?_eq_getElem hlt]
  have hf:=hF _ (List.getElem_mem hlt)
  have tk:(l.take (i+1)).any p=p l[i]:=by rw[List.take_succ_eq_append_getElem hlt,List.any_append,hp];simp
  have an:p l[i]=true→l.any p=true:=fun e=>List.any_eq_true.2 ⟨_,List.getElem_mem hlt,e⟩
  rw[e1]at ra
  generalize l[i]=x at*
  simp(disch:=first|assumption|omega)only[W_block,P3,seval,initFr,clsA,la,ra,na,a_load1v,a_loadnv,st_callv,RV.row]
  refine callK hf ?_
  rintro _ _ ⟨rfl,rfl⟩
  cases hpx:p x with
  |true=>
   simp(disch:=first|assumption|omega)only[W_block,P3,seval,initFr,clsA]
   exact hret _ _ (hq2 _ _ ⟨_,rfl,rfl,(i:Int),rfl,by rw[an hpx];simp⟩)
  |false=>
   simp(disch:=first|assumption|omega)only[W_block,P3,seval,initFr,clsA,hw]
   exact hn _ _ _ ⟨i+1,_,_,_,rfl,rfl,by omega,by rw[tk,hpx],rfl⟩ (by omega)
 ·have h3:¬(i:Int)<((l.length:Nat):Int):=by omega
  simp(disch:=first|assumption|omega)only[W_block,P3,seval,initFr,clsA,la]
  refine hx 0 _ _ ?_
  simp(disch:=first|assumption|omega)only[W_block,P3,seval,initFr,clsA]
  refine hq2 _ _ ⟨_,rfl,rfl,-1,rfl,?_⟩
  rw[List.take_of_length_le (by omega)]at hp
  rw[hp];rfl
end Go.AM.Fd

namespace Go.AM.Fd
open Nat (reduceAdd reduceEqDiff reduceLT reduceLeDiff reduceMul reduceSub)
open Go.Proofs Go.AM.F
theorem fnc(f:Fn)(a b:Array Value):(Value.func f a b).cells.toList=[.func f a b]:=rfl
theorem fna(f:Fn)(a b:Array Value):(Value.func f a b).oneCell'=true:=rfl
def trk(r:Ro):List Int:=r.path++r.ov
def nds(r:Ro):List (Int×Bool):=r.pts++r.fl
theorem nodup_step{α:Type}[BEq α][LawfulBEq α]{l:List α}{i:Nat}(h:i<l.length)(hn:(l.take i).Nodup)(hc:(l.take i).contains l[i]=false):(l.take (i+1)).Nodup:=by
 rw[List.take_succ_eq_append_getElem h,List.nodup_append]
 refine⟨hn,by simp,fun a ha b hb=>?_⟩
 simp only[List.mem_singleton]at hb
 subst hb
 rintro rfl
 simp at hc
 exact hc ha
theorem t98(H:AHeap)(n:Int):∃w H',ARun Tryz.prog 0 98 [.int .i64 n] H w H'∧w=.int .i64 n∧H'=H:=by
 refine walk2 f98_ok f98_n ?_
 intro Q hq1 hq2
 simp(disch:=first|assumption|omega)only[f98,W_block,P3,seval,initFr,clsA]
 exact hq2 _ _ ⟨_,rfl,rfl,rfl⟩
theorem t101(H:AHeap)(x:Int×Bool):∃w H',ARun Tryz.prog 0 101 [.agg (nRow x).toArray] H w H'∧w=.int .i64 x.1∧H'=H:=by
 suffices h':∃w H',ARun Tryz.prog 0 101 [.agg (nRow x).toArray] H w H'∧w=.int .i64 x.1∧Keeps H H' by
  obtain⟨_,_,a,rfl,k⟩:=h'
  exact⟨_,_,a.gc0 k (.inr (.int _ _)),rfl,rfl⟩
 refine walk2 f101_ok f101_n ?_
 intro Q hq1 hq2
 have o1:one1 (Value.int .i64 x.1)=True:=by simp[one1,one_int]
 simp(disch:=first|assumption|omega)only[f101,W_block,P3,seval,initFr,clsA,nRow,o1]
 exact hq2 _ _ ⟨_,rfl,rfl,(Keeps.refl H).alloc _⟩
theorem t123{H:AHeap}{a b:Nat}{oa ob ra rb:Bool}{ta tb:Nat}{x:Int}(ga:H.get a=some (.cells oa ra 1 [.func (.func 98) #[] #[]] ta))(gb:H.get b=some (.cells ob rb 1 [.int .i64 x] tb))(y:Int):
 ∃w H',ARun Tryz.prog 0 123 [.int .i64 y,ptr a 0,ptr b 0] H w H'∧w=.bool (x==y)∧H'=H:=by
 refine walk2 f123_ok f123_n ?_
 intro Q hq1 hq2
 simp(disch:=first|assumption|omega)only[f123,W_block,P3,seval,initFr,clsA,ga,gb,stD_callv]
 refine callK (t98 H x) ?_
 rintro _ _ ⟨rfl,rfl⟩
 simp(disch:=first|assumption|omega)only[W_block,P3,seval,initFr,clsA,ga,gb,stD_callv]
 refine⟨AHeap.get_lt ga,callK (t98 _ y) ?_⟩
 rintro _ _ ⟨rfl,rfl⟩
 simp(disch:=first|assumption|omega)only[W_block,P3,seval,initFr,clsA]
 exact hq2 _ _ ⟨_,rfl,rfl,rfl⟩
theorem t125{H:AHeap}{a b:Nat}{oa ob ra rb:Bool}{ta tb:Nat}{x:Int×Bool}(ga:H.get a=some (.cells oa ra 1 [.func (.func 101) #[] #[]] ta))(gb:H.get b=some (.cells ob rb 2 (nRow x) tb))(y:Int×Bool):
 ∃w H',ARun Tryz.prog 0 125 [.agg (nRow y).toArray,ptr a 0,ptr b 0] H w H'∧w=.bool (x.1==y.1)∧H'=H:=by
 refine gcb ?_
 refine walk2 f125_ok f125_n ?_
 intro Q hq1 hq2
 have fx:=fun K=>t101 K x
 have fy:=fun K=>t101 K y
 have la:=AHeap.get_lt ga
 have lb:=AHeap.get_lt gb
 have o1:one1 (Value.int .i64 y.1)=True:=by simp[one1,one_int]
 simp only[nRow]at gb fx fy
 simp(disch:=first|assumption|omega|(simp only[LN]<;>omega)|(simp(disch:=first|assumption|omega|(simp only[LN]<;>omega))only[row_alloc,row_set];assumption))only[f125,W_block,P3,seval,initFr,clsA,ga,gb,nRow,stD_callv]
 refine callK (fx _) ?_
 rintro _ _ ⟨rfl,rfl⟩
 simp(disch:=first|assumption|omega|(simp only[LN]<;>omega)|(simp(disch:=first|assumption|omega|(simp only[LN]<;>omega))only[row_alloc,row_set];assumption))only[W_block,P3,seval,initFr,clsA,ga,gb,stD_callv]
 refine callK (fy _) ?_
 rintro _ _ ⟨rfl,rfl⟩
 simp(disch:=first|assumption|omega)only[W_block,P3,seval,initFr,clsA]
 exact hq2 _ _ ⟨_,rfl,rfl,(Keeps.refl H).alloc _⟩
theorem t97{H:AHeap}{v:Value}{l:List Int}(h:WRr H 3 1 v (l.map iRow))(hl:l.length≤1000000):
 ∃w H',ARun Tryz.prog 0 97 [v,.func (.func 98) #[] #[]] H w H'∧w=.bool (!decide l.Nodup)∧H'=H:=by
 refine gcb ?_
 refine walk2 f97_ok f97_n ?_
 intro Q hq1 hq2
 have hI:IL H v l:=h.sl
 have ia:=Sl.is hI
 have la:=hI.len
 have gk:=AHeap.get_alloc_new H (.cells true false 1 [.func (.func 98) #[] #[]] 184)
 simp(disch:=first|assumption|omega)only[f97,P3,seval,initFr,clsA,la,fnc,fna]
 rw[W_block]
 refine W_loop2 (fun k fr K=>∃i x4 x5 x9 x10,fr=[v,.func (.func 98) #[] #[],ptr H.n 0,.bool false,x4,x5,v,.int .i64 ((l.length:Nat):Int),.int .i64 ((i:Nat):Int),x9,x10]∧
  Keeps (H.alloc (.cells true false 1 [.func (.func 98) #[] #[]] 184)) K∧i≤l.length∧(l.take i).Nodup∧k=l.length-i) l.length
  ⟨0,_,_,_,_,rfl,Keeps.refl _,by omega,by simp,rfl⟩ ?_
 rintro Q' k fr K ⟨i,x4,x5,x9,x10,rfl,kk,hi,hp,rfl⟩ hn hx hret
 have kH:Keeps H K:=((Keeps.refl H).alloc _).trans kk
 by_cases hlt:i<l.length
 ·obtain⟨na,ra⟩:=(hI.keeps kH).at_ hlt
  have h0:(0:Int)≤(i:Int):=by omega
  have h1:(i:Int)<((lenS v:Nat):Int):=by omega
  have h3:(i:Int)<((l.length:Nat):Int):=by omega
  have hw:IntKind.i64.wrap ((i:Int)+1)=((i+1:Nat):Int):=by rw[wrap_i64 (by omega) (by omega)];simp
  have e1:l.getD i 0=l[i]:=by simp[List.getD,List.getElem?_eq_getElem hlt]
  have nd:=nodup_step hlt hp
  have nt:=nodup_take (d:=0) hlt
  rw[e1]at ra nt
  generalize l[i]=x at*
  have kA:=(Keeps.refl K).alloc (.cells true false 1 [.int .i64 x] 3)
  obtain⟨w,e2,s2⟩:=(h.keeps (kH.trans kA)).pre (kd:=.i64) (i:=i) (by simpa using hi)
  have gk2:=(kk.trans kA).at_ gk
  have gx:=AHeap.get_alloc_new K (.cells true false 1 [.int .i64 x] 3)
  have s2':IL (K.alloc (.cells true false 1 [.int .i64 x] 3)) w (l.take i):=by unfold IL;rw[List.map_take];exact s2
  simp(disch:=first|assumption|omega)only[W_block,P3,seval,initFr,clsA,la,ra,na,a_load1v,e2]
  refine callK (t43 s2' (by rw[List.length_take];omega) (p:=fun y=>x==y) (fun y _=>t123 gk2 gx y)) ?_
  rintro _ _ ⟨rfl,rfl⟩
  have ec:((l.take i).any fun y=>x==y)=(l.take i).contains x:=by rw[List.contains_eq_any_beq]
  rw[ec]
  cases hc:(l.take i).contains x with
  |true=>
   simp(disch:=first|assumption|omega)only[W_block,P3,seval,initFr,clsA]
   exact hret _ _ (hq2 _ _ ⟨_,rfl,by simp[nt hc,tupV],kH.trans kA⟩)
  |false=>
   simp(disch:=first|assumption|omega)only[W_block,P3,seval,initFr,clsA,hw]
   exact hn _ _ _ ⟨i+1,_,_,_,_,rfl,kk.trans kA,by omega,nd hc,rfl⟩ (by omega)
 ·have h3:¬(i:Int)<((l.length:Nat):Int):=by omega
  simp(disch:=first|assumption|omega)only[W_block,P3,seval,initFr,clsA,la]
  refine hx 0 _ _ ?_
  simp(disch:=first|assumption|omega)only[W_block,P3,seval,initFr,clsA]
  refine hq2 _ _ ⟨_,rfl,?_,kH⟩
  rw[List.take_of_length_le (by omega)]at hp
  simp[hp,tupV]
theorem t100{H:AHeap}{v:Value}{l:List (Int×Bool)}(h:WRr H 120 2 v (l.map nRow))(hl:l.length≤1000000):
 ∃w H',ARun Tryz.prog 0 100 [v,.func (.func 101) #[] #[]] H w H'∧w=.bool (!decide (l.map (·.1)).Nodup)∧H'=H:=by
 refine gcb ?_
 refine walk2 f100_ok f100_n ?_
 intro Q hq1 hq2
 have hI:NL H v l:=h.sl
 have ia:=Sl.is hI
 have la:=hI.len
 have gk:=AHeap.get_alloc_new H (.cells true false 1 [.func (.func 101) #[] #[]] 186)
 simp(disch:=first|assumption|omega)only[f100,P3,seval,initFr,clsA,la,fnc,fna]
 rw[W_block]
 refine W_loop2 (fun k fr K=>∃i x4 x5 x9 x10,fr=[v,.func (.func 101) #[] #[],ptr H.n 0,.bool false,x4,x5,v,.int .i64 ((l.length:Nat):Int),.int .i64 ((i:Nat):Int),x9,x10]∧
  Keeps (H.alloc (.cells true false 1 [.func (.func 101) #[] #[]] 186)) K∧i≤l.length∧((l.map (·.1)).take i).Nodup∧k=l.length-i) l.length
  ⟨0,_,_,_,_,rfl,Keeps.refl _,by omega,by simp,rfl⟩ ?_
 rintro Q' k fr K ⟨i,x4,x5,x9,x10,rfl,kk,hi,hp,rfl⟩ hn hx hret
 have kH:Keeps H K:=((Keeps.refl H).alloc _).trans kk
 by_cases hlt:i<l.length
 ·obtain⟨na,ra⟩:=(hI.keeps kH).at_ hlt
  have h0:(0:Int)≤(i:Int):=by omega
  have h1:(i:Int)<((lenS v:Nat):Int):=by omega
  have h3:(i:Int)<((l.length:Nat):Int):=by omega
  have hw:IntKind.i64.wrap ((i:Int)+1)=((i+1:Nat):Int):=by rw[wrap_i64 (by omega) (by omega)];simp
  have e1:l.getD i (0,false)=l[i]:=by simp[List.getD,List.getElem?_eq_getElem hlt]
  have hlt2:i<(l.map (·.1)).length:=by simpa using hlt
  have nd:=nodup_step hlt2 hp
  have nt:=nodup_take (d:=0) hlt2
  have e3:(l.map (·.1)).getD i 0=l[i].1 :=by simp[List.getD,List.getElem?_eq_getElem hlt]
  have e4:(l.map (·.1))[i]=l[i].1 :=by simp
  rw[e1]at ra
  rw[e3]at nt
  rw[e4]at nd
  generalize l[i]=x at*
  have o1:one1 (Value.int .i64 x.1)=True:=by simp[one1,one_int]
  have o2:one1 (Value.bool x.2)=True:=by simp[one1,one_bool]
  have kA:=(Keeps.refl K).alloc (.cells true false 2 [.int .i64 x.1,.bool x.2] 120)
  obtain⟨w,e2,s2⟩:=(h.keeps (kH.trans kA)).pre (kd:=.i64) (i:=i) (by simpa using hi)
  have gk2:=(kk.trans kA).at_ gk
  have gx:=AHeap.get_alloc_new K (.cells true false 2 [.int .i64 x.1,.bool x.2] 120)
  have s2':NL (K.alloc (.cells true false 2 [.int .i64 x.1,.bool x.2] 120)) w (l.take i):=by unfold NL;rw[List.map_take];exact s2
  simp(disch:=first|assumption|omega|(simp only[LN]<;>omega)|(simp(disch:=first|assumption|omega|(simp only[LN]<;>omega))only[row_alloc,row_set];assumption))only[W_block,P3,seval,initFr,clsA,la,ra,na,a_loadnvf,o1,o2,e2]
  refine callK (t45 s2' (by rw[List.length_take];omega) (p:=fun y=>x.1==y.1) (fun y _=>t125 gk2 gx y)) ?_
  rintro _ _ ⟨rfl,rfl⟩
  have ec:((l.take i).any fun y=>x.1==y.1)=((l.map (·.1)).take i).contains x.1:=by rw[List.contains_eq_any_beq,←List.map_take,List.any_map];rfl
  rw[ec]
  cases hc:((l.map (·.1)).take i).contains x.1 with
  |true=>
   simp(disch:=first|assumption|omega)only[W_block,P3,seval,initFr,clsA]
   exact hret _ _ (hq2 _ _ ⟨_,rfl,by simp[nt hc,tupV],kH.trans kA⟩)
  |false=>
   simp(disch:=first|assumption|omega)only[W_block,P3,seval,initFr,clsA,hw]
   exact hn _ _ _ ⟨i+1,_,_,_,_,rfl,kk.trans kA,by omega,nd hc,rfl⟩ (by omega)
 ·have h3:¬(i:Int)<((l.length:Nat):Int):=by omega
  simp(disch:=first|assumption|omega)only[W_block,P3,seval,initFr,clsA,la]
  refine hx 0 _ _ ?_
  simp(disch:=first|assumption|omega)only[W_block,P3,seval,initFr,clsA]
  refine hq2 _ _ ⟨_,rfl,?_,kH⟩
  rw[List.take_of_length_le (by simp;omega)]at hp
  simp[hp,tupV]
theorem t126{H:AHeap}{b:Nat}{ob rb:Bool}{tb:Nat}{p:Int}(gb:H.get b=some (.cells ob rb 1 [.int .i64 p] tb))(x:Int×Bool):
 ∃w H',ARun Tryz.prog 0 126 [.agg (nRow x).toArray,ptr b 0] H w H'∧w=.bool (x.1==p)∧H'=H:=by
 refine gcb ?_
 refine walk2 f126_ok f126_n ?_
 intro Q hq1 hq2
 have o1:one1 (Value.int .i64 x.1)=True:=by simp[one1,one_int]
 have lb:=AHeap.get_lt gb
 simp(disch:=first|assumption|omega)only[f126,W_block,P3,seval,initFr,clsA,nRow,o1,gb]
 exact hq2 _ _ ⟨_,rfl,rfl,(Keeps.refl H).alloc _⟩
theorem t102{H:AHeap}{v:Value}{l:List (Int×Bool)}(h:NL H v l)(hl:l.length≤1000000)(p:Int):
 ∃w H',ARun Tryz.prog 0 102 [v,.int .i64 p] H w H'∧w=.bool (l.any fun x=>x.1==p)∧H'=H:=by
 refine gcb ?_
 refine walk2 f102_ok f102_n ?_
 intro Q hq1 hq2
 have kA:=(Keeps.refl H).alloc (.cells true false 1 [.int .i64 p] 3)
 have gx:=AHeap.get_alloc_new H (.cells true false 1 [.int .i64 p] 3)
 simp(disch:=first|assumption|omega)only[f102,W_block,P3,seval,initFr,clsA]
 refine callK (t45 (h.keeps kA) hl (p:=fun x=>x.1==p) (fun y _=>t126 gx y)) ?_
 rintro _ _ ⟨rfl,rfl⟩
 simp(disch:=first|assumption|omega)only[W_block,P3,seval,initFr,clsA]
 exact hq2 _ _ ⟨_,rfl,rfl,kA⟩
end Go.AM.Fd

namespace Go.AM.Fd
open Nat (reduceAdd reduceEqDiff reduceLT reduceLeDiff reduceMul reduceSub)
open Go.Proofs Go.AM.F
structure LyLim (L:Ly):Prop where
 s:L.s.length≤64
 p:L.p.length≤32
 g:L.g.length≤32
 r:L.r.length≤64
theorem full_may{L:Ly}(h:fullB L=true):mayB L=false:=by simp[mayB,h]
theorem full_not{L:Ly}(h:fullB L=false):LyLim L:=by
 simp only[fullB,Bool.or_eq_false_iff,decide_eq_false_iff_not]at h
 exact⟨by omega,by omega,by omega,by omega⟩
theorem LyIn.fit2{L:Ly}(h:LyIn 9223372036854775807 L)(k:LyLim L):LyFit L:=
 ⟨⟨by have:=k.s;omega,h.s.2⟩,⟨by have:=k.p;omega,h.p.2⟩,⟨by have:=k.g;omega,h.g.2⟩,⟨by have:=k.r;omega,h.r.2⟩⟩
set_option maxHeartbeats 1000000 in
theorem lMayA{H:AHeap}{u:V4}{xs:List RV}{L:Ly}(h:LyR H u xs L)(hf:LyIn 9223372036854775807 L):∃w H',ARun Tryz.prog 0 61 [.agg u.l.toArray] H w H'∧w=.bool (mayB L)∧H'=H:=by
 cases hfl:fullB L with
 |false=>exact t61 h (hf.fit2 (full_not hfl))
 |true=>
 refine gcb ?_
 refine walk2 f61_ok f61_n ?_
 intro Q hq1 hq2
 rw[full_may hfl]at hq1 hq2
 have os:=Sl.one h.s
 have op:=Sl.one h.p
 have og:=Sl.one h.g
 have or:=Sl.one h.r
 have is:=Sl.is h.s
 have ip:=Sl.is h.p
 have ig:=Sl.is h.g
 have ir:=Sl.is h.r
 have ls:=h.s.len
 have lp:=h.p.len
 have lg:=h.g.len
 have lr:=h.r.len
 rw[h.rlen]at lr
 obtain⟨us,up,ug,ur⟩:=u
 simp only[V4.l]at*
 have kk:Keeps H (H.alloc (.cells true false 4 [us,up,ug,ur] 27)):=(Keeps.refl H).alloc _
 simp only[fullB,Bool.or_eq_true,decide_eq_true_eq]at hfl
 by_cases h1:64<L.s.length
 ·have e1:(64:Int)<((L.s.length:Nat):Int):=by omega
  simp(disch:=first|assumption|omega)only[f61,W_block,P3,seval,initFr,clsA,os,op,og,or,ls,lp,lg,lr]
  exact hq2 _ _ ⟨_,rfl,rfl,kk⟩
 have e1:¬(64:Int)<((L.s.length:Nat):Int):=by omega
 by_cases h2:32<L.p.length
 ·have e2:(32:Int)<((L.p.length:Nat):Int):=by omega
  simp(disch:=first|assumption|omega)only[f61,W_block,P3,seval,initFr,clsA,os,op,og,or,ls,lp,lg,lr]
  exact hq2 _ _ ⟨_,rfl,rfl,kk⟩
 have e2:¬(32:Int)<((L.p.length:Nat):Int):=by omega
 by_cases h3:32<L.g.length
 ·have e3:(32:Int)<((L.g.length:Nat):Int):=by omega
  simp(disch:=first|assumption|omega)only[f61,W_block,P3,seval,initFr,clsA,os,op,og,or,ls,lp,lg,lr]
  exact hq2 _ _ ⟨_,rfl,rfl,kk⟩
 have e3:¬(32:Int)<((L.g.length:Nat):Int):=by omega
 have e4:(64:Int)<((L.r.length:Nat):Int):=by omega
 simp(disch:=first|assumption|omega)only[f61,W_block,P3,seval,initFr,clsA,os,op,og,or,ls,lp,lg,lr]
 exact hq2 _ _ ⟨_,rfl,rfl,kk⟩
theorem two_rows{H:AHeap}{a b:Value}(T:Nat)(ha:a.oneCell'=true)(hb:b.oneCell'=true):Sl (H.alloc (.cells true false 1 [a,b] T)) 1 (slc H.n 0 2 2) [[a],[b]]:=
 ⟨⟨_,_,rfl⟩,by simp,by rw[elems_new rfl rfl];rfl⟩
theorem fill2{a b:Value}(ha:isS a=true)(hb:isS b=true):fillA [.slice none 0 0,.slice none 0 0] [(0,1,a),(1,1,b)]=some [a,b]:=by
 cases a with
 |slice p n k=>cases b with
  |slice q m j=>rfl
  |_=>cases hb
 |_=>cases ha
theorem t31{H:AHeap}{x:RV}(h:x.ok H)(hl:x.r.path.length+x.r.ov.length≤1000000):
 ∃w H',ARun Tryz.prog 0 31 [.agg x.row.toArray] H w H'∧WRr H' 3 1 w ((trk x.r).map iRow)∧Keeps H H'∧Fresh H.n w:=by
 refine walk2 f31_ok f31_n ?_
 intro Q hq1 hq2
 have o1:one1 (Value.int .i64 x.r.g)=True:=by simp[one1,one_int]
 have o2:one1 (Value.string ⟨x.r.n.toArray⟩)=True:=by simp[one1,one_str]
 have o3:=one_isS (Sl.is h.p)
 have o4:=one_isS (Sl.is h.q)
 have o5:=one_isS (Sl.is h.o)
 have o6:=one_isS (Sl.is h.f)
 have op:=Sl.one h.p
 have oo:=Sl.one h.o
 have fl:=fill2 (Sl.is h.p) (Sl.is h.o)
 have al:[x.vp,x.vo].all Value.oneCell'=true:=by simp[op,oo]
 have k1:=(Keeps.refl H).alloc (.cells true false 6 x.row 87)
 have k2:=k1.alloc (.cells true false 1 [x.vp,x.vo] 84)
 have hV:=two_rows (H:=H.alloc (.cells true false 6 x.row 87)) 84 op oo
 have hp:Sl _ 1 x.vp (x.r.path.map iRow):=h.p.keeps k2
 have ho:Sl _ 1 x.vo (x.r.ov.map iRow):=h.o.keeps k2
 obtain⟨⟨xn,xg,xp,xq,xo,xf⟩,vp,vq,vo,vf⟩:=x
 simp only[RV.row]at*
 simp(disch:=first|assumption|omega)only[f31,W_block,P3,seval,initFr,clsA,o1,o2,o3,o4,o5,o6,op,oo,fl,al]
 refine callK (t65 (vs:=[(vp,xp.map iRow),(vo,xo.map iRow)]) hV (by
  intro y hy
  simp only[List.mem_cons,List.not_mem_nil,or_false]at hy
  rcases hy with rfl|rfl
  ·exact hp
  ·exact ho) (by simp) (by simpa using hl)) ?_
 rintro w K ⟨s,k,f⟩
 simp(disch:=first|assumption|omega)only[W_block,P3,seval,initFr,clsA]
 refine hq2 _ _ ⟨w,rfl,?_,k2.trans k,fun b hb=>Nat.le_trans k2.n (f b hb)⟩
 simpa[trk]using s
theorem t32{H:AHeap}{x:RV}(h:x.ok H)(hl:x.r.pts.length+x.r.fl.length≤1000000):
 ∃w H',ARun Tryz.prog 0 32 [.agg x.row.toArray] H w H'∧WRr H' 120 2 w ((nds x.r).map nRow)∧Keeps H H'∧Fresh H.n w:=by
 refine walk2 f32_ok f32_n ?_
 intro Q hq1 hq2
 have o1:one1 (Value.int .i64 x.r.g)=True:=by simp[one1,one_int]
 have o2:one1 (Value.string ⟨x.r.n.toArray⟩)=True:=by simp[one1,one_str]
 have o3:=one_isS (Sl.is h.p)
 have o4:=one_isS (Sl.is h.q)
 have o5:=one_isS (Sl.is h.o)
 have o6:=one_isS (Sl.is h.f)
 have op:=Sl.one h.q
 have oo:=Sl.one h.f
 have fl:=fill2 (Sl.is h.q) (Sl.is h.f)
 have al:[x.vq,x.vf].all Value.oneCell'=true:=by simp[op,oo]
 have k1:=(Keeps.refl H).alloc (.cells true false 6 x.row 87)
 have k2:=k1.alloc (.cells true false 1 [x.vq,x.vf] 85)
 have hV:=two_rows (H:=H.alloc (.cells true false 6 x.row 87)) 85 op oo
 have hp:Sl _ 2 x.vq (x.r.pts.map nRow):=h.q.keeps k2
 have ho:Sl _ 2 x.vf (x.r.fl.map nRow):=h.f.keeps k2
 obtain⟨⟨xn,xg,xp,xq,xo,xf⟩,vp,vq,vo,vf⟩:=x
 simp only[RV.row]at*
 simp(disch:=first|assumption|omega)only[f32,W_block,P3,seval,initFr,clsA,o1,o2,o3,o4,o5,o6,op,oo,fl,al]
 refine callK (t66 (vs:=[(vq,xq.map nRow),(vf,xf.map nRow)]) hV (by
  intro y hy
  simp only[List.mem_cons,List.not_mem_nil,or_false]at hy
  rcases hy with rfl|rfl
  ·exact hp
  ·exact ho) (by simp) (by simpa using hl)) ?_
 rintro w K ⟨s,k,f⟩
 simp(disch:=first|assumption|omega)only[W_block,P3,seval,initFr,clsA]
 refine hq2 _ _ ⟨w,rfl,?_,k2.trans k,fun b hb=>Nat.le_trans k2.n (f b hb)⟩
 simpa[nds]using s
end Go.AM.Fd

namespace Go.AM.Fd
open Nat (reduceAdd reduceEqDiff reduceLT reduceLeDiff reduceMul reduceSub)
open Go.Proofs Go.AM.F
def ptB(L:Ly)(r:Ro)(i:Nat):Bool:=
 ((trk r).contains (L.p.getD i ([],0)).2 ==r.pts.any (fun x=>x.1==(i:Int)))&& !((trk r).contains (L.p.getD i ([],0)).2 &&r.fl.any (fun x=>x.1==(i:Int)))
def badB(L:Ly)(r:Ro):Bool:=r.path.isEmpty|| !decide (trk r).Nodup||(trk r).contains (L.g.getD r.g.toNat ([],0)).2 || !decide ((nds r).map (·.1)).Nodup
def formedB(L:Ly)(r:Ro):Bool:= !badB L r&&(List.range L.p.length).all (ptB L r)
theorem formed_bad{L:Ly}{r:Ro}(h:badB L r=true):formedB L r=false:=by simp[formedB,h]
theorem formed_at{L:Ly}{r:Ro}{i:Nat}(hi:i<L.p.length)(h:ptB L r i=false):formedB L r=false:=by
 have:(List.range L.p.length).all (ptB L r)=false:=List.all_eq_false.2 ⟨i,List.mem_range.2 hi,by simp[h]⟩
 simp[formedB,this]
structure RoLim (L:Ly) (r:Ro):Prop where
 g:0≤r.g∧r.g<L.g.length
 p:r.path.length≤16
 o:r.ov.length≤16
 q:r.pts.length≤16
 f:r.fl.length≤16
theorem roB_lim{L:Ly}{r:Ro}(h:roB L r=true):RoLim L r:=by
 simp only[roB,needB,inB,Bool.and_eq_true,decide_eq_true_eq]at h
 exact⟨by omega,by omega,by omega,by omega,by omega⟩
set_option maxHeartbeats 4000000 in
theorem t64{H:AHeap}{u:V4}{xs:List RV}{L:Ly}{x:RV}(h:LyR H u xs L)(hx:x.ok H)(hr:RoLim L x.r)(hL:LyLim L):
 ∃w H',ARun Tryz.prog 0 64 [.agg u.l.toArray,.agg x.row.toArray] H w H'∧w=.bool (formedB L x.r)∧H'=H:=by
 refine gcb ?_
 refine walk2 f64_ok f64_n ?_
 intro Q hq1 hq2
 have lp':=hL.p
 have lg':=hL.g
 have lP:=hr.p
 have lO:=hr.o
 have lQ:=hr.q
 have lF:=hr.f
 have os:=Sl.one h.s
 have op:=Sl.one h.p
 have og:=Sl.one h.g
 have or:=Sl.one h.r
 have is:=Sl.is h.s
 have ip:=Sl.is h.p
 have ig:=Sl.is h.g
 have ir:=Sl.is h.r
 have lp:=h.p.len
 have lg:=h.g.len
 have q1:one1 (Value.int .i64 x.r.g)=True:=by simp[one1,one_int]
 have q2:one1 (Value.string ⟨x.r.n.toArray⟩)=True:=by simp[one1,one_str]
 have q3:=one_isS (Sl.is hx.p)
 have q4:=one_isS (Sl.is hx.q)
 have q5:=one_isS (Sl.is hx.o)
 have q6:=one_isS (Sl.is hx.f)
 have lpt:=hx.p.len
 have ipt:=Sl.is hx.p
 obtain⟨n,hn⟩:∃n:Nat,x.r.g=(n:Int):=⟨x.r.g.toNat,by have:=hr.g.1;omega⟩
 have hnl:n<L.g.length:=by have:=hr.g.2;omega
 have gt:x.r.g.toNat=n:=by omega
 -- the two boxes
 obtain⟨K0,hK0⟩:∃X,X=(H.alloc (.cells true false 4 u.l 27)).alloc (.cells true false 6 x.row 87):=⟨_,rfl⟩
 have k0:Keeps H K0:=by rw[hK0];exact((Keeps.refl H).alloc _).alloc _
 have n0:K0.n=H.n+2:=by rw[hK0];rfl
 have gl:K0.get H.n=some (.cells true false 4 u.l 27):=by rw[hK0];exact((Keeps.refl _).alloc _).at_ (AHeap.get_alloc_new H _)
 have gr:K0.get (H.n+1)=some (.cells true false 6 x.row 87):=by rw[hK0];exact AHeap.get_alloc_new (H.alloc _) _
 have x0:=hx.keeps k0
 have row:x.row=[.string ⟨x.r.n.toArray⟩,.int .i64 x.r.g,x.vp,x.vq,x.vo,x.vf]:=rfl
 have tT:=t31 x0 (by omega)
 simp only[V4.l,row]at hK0 gl gr tT ⊢
 have hbad:formedB L x.r=false→∀{K:AHeap} {fr:List Value},Keeps H K→resO f64.res fr K=some (.bool false)→Q .ret fr K:=fun e K fr k hres=>hq2 _ _ ⟨_,hres,by rw[e],k⟩
 simp(disch:=first|assumption|omega|(simp only[LN]<;>omega)|(simp(disch:=first|assumption|omega|(simp only[LN]<;>omega))only[row_alloc,row_set];assumption))only[f64,W_block,P3,seval,initFr,clsA,q1,q2,q3,q4,q5,q6,os,op,og,or,lpt]
 simp only[←hK0]
 refine callK tT ?_
 rintro t K1 ⟨ht,k1,ft⟩
 have hti:IL K1 t (trk x.r):=ht.sl
 have trl:(trk x.r).length≤32:=by simp[trk];omega
 have gl1:=k1.at_ gl
 have gr1:=k1.at_ gr
 have n1:=k1.n
 have pe:x.r.path.isEmpty=(((x.r.path.length:Nat):Int)==0):=by
  cases x.r.path with
  |nil=>rfl
  |cons a b=>simp;omega
 cases hpe:(((x.r.path.length:Nat):Int)==0)with
 |true=>
  simp(disch:=first|assumption|omega)only[W_block,P3,seval,initFr,clsA,gr1,lpt,hpe]
  exact hbad (formed_bad (by simp[badB,pe,hpe])) (k0.trans k1) rfl
 |false=>
 simp(disch:=first|assumption|omega)only[W_block,P3,seval,initFr,clsA,gr1,lpt,hpe]
 refine callQ (t97 ht (by omega)) ?_
 cases hnd:decide (trk x.r).Nodup with
 |false=>
  simp(disch:=first|assumption|omega)only[W_block,P3,seval,initFr,clsA]
  exact hbad (formed_bad (by simp only[badB,hnd];simp)) (k0.trans k1) rfl
 |true=>
 obtain⟨ng,rg⟩:=(h.g.keeps (k0.trans k1)).at_ hnl
 have t0:(Int.toNat (n:Int))=n:=by omega
 have g1:(0:Int)≤(n:Int):=by omega
 have g2:(n:Int)<((L.g.length:Nat):Int):=by omega
 simp(disch:=first|assumption|omega)only[W_block,P3,seval,initFr,clsA,gl1,gr1,hn,ng,rg,lg,a_load1v,a_loadnvf]
 refine callQ (t99 hti (by omega) _) ?_
 cases hc:(trk x.r).contains (L.g.getD n ([],0)).2 with
 |true=>
  simp(disch:=first|assumption|omega)only[W_block,P3,seval,initFr,clsA]
  exact hbad (formed_bad (by simp only[badB,gt,hc];simp)) (k0.trans k1) rfl
 |false=>
 have tN:=t32 (hx.keeps (k0.trans k1)) (by omega)
 simp only[row]at tN
 simp(disch:=first|assumption|omega|(simp only[LN]<;>omega)|(simp(disch:=first|assumption|omega|(simp only[LN]<;>omega))only[row_alloc,row_set];assumption))only[W_block,P3,seval,initFr,clsA,gr1]
 refine callK tN ?_
 rintro nv K2 ⟨hnv,k2,fnv⟩
 have ndl:(nds x.r).length≤32:=by simp[nds];omega
 simp(disch:=first|assumption|omega)only[W_block,P3,seval,initFr,clsA]
 refine callQ (t100 hnv (by omega)) ?_
 cases hnn:decide ((nds x.r).map (·.1)).Nodup with
 |false=>
  simp(disch:=first|assumption|omega)only[W_block,P3,seval,initFr,clsA]
  exact hbad (formed_bad (by simp only[badB,hnn];simp)) ((k0.trans k1).trans k2) rfl
 |true=>
 have kH:Keeps H K2:=(k0.trans k1).trans k2
 have hgood:badB L x.r=false:=by simp only[badB,pe,hpe,hnd,gt,hc,hnn];rfl
 have gl2:=k2.at_ gl1
 have gr2:=k2.at_ gr1
 have n2:=k2.n
 simp(disch:=first|assumption|omega)only[P3,seval,initFr,clsA,gl2,gr2,lp]
 rw[W_block]
 refine W_loop2 (fun k fr K=>∃A B i x6 x7 x8 x13 x14,fr=[A,B,ptr H.n 0,ptr (H.n+1) 0,.bool false,t,x6,x7,x8,.bool false,u.p,.int .i64 ((L.p.length:Nat):Int),.int .i64 ((i:Nat):Int),x13,x14]∧
  Keeps K2 K∧i≤L.p.length∧(List.range i).all (ptB L x.r)=true∧k=L.p.length-i) L.p.length
  ⟨_,_,0,_,_,_,_,_,rfl,Keeps.refl _,by omega,by simp,rfl⟩ ?_
 rintro Q' k fr K ⟨A,B,i,x6,x7,x8,x13,x14,rfl,kk,hi,hp,rfl⟩ hn' hx' hret
 by_cases hlt:i<L.p.length
 ·obtain⟨na,ra⟩:=(h.p.keeps (kH.trans kk)).at_ hlt
  have h0:(0:Int)≤(i:Int):=by omega
  have h1:(i:Int)<((L.p.length:Nat):Int):=by omega
  have hw:IntKind.i64.wrap ((i:Int)+1)=((i+1:Nat):Int):=by rw[wrap_i64 (by omega) (by omega)];simp
  have pdef:ptB L x.r i=(((trk x.r).contains (L.p.getD i ([],0)).2 ==x.r.pts.any (fun x=>x.1==(i:Int)))&& !((trk x.r).contains (L.p.getD i ([],0)).2 &&x.r.fl.any (fun x=>x.1==(i:Int)))):=rfl
  have bad:=fun e=>formed_at (L:=L) (r:=x.r) hlt e
  have good:ptB L x.r i=true→(List.range (i+1)).all (ptB L x.r)=true:=fun e=>by rw[List.range_succ,List.all_append,hp];simp[e]
  generalize L.p.getD i ([],0)=z at*
  have w1:one1 (Value.int .i64 z.2)=True:=by simp[one1,one_int]
  have w2:one1 (Value.string ⟨z.1.toArray⟩)=True:=by simp[one1,one_str]
  have kA:=(Keeps.refl K).alloc (.cells true false 2 [.string ⟨z.1.toArray⟩,.int .i64 z.2] 89)
  have gx:=AHeap.get_alloc_new K (.cells true false 2 [.string ⟨z.1.toArray⟩,.int .i64 z.2] 89)
  obtain⟨K3,hK3⟩:∃X,X=K.alloc (.cells true false 2 [.string ⟨z.1.toArray⟩,.int .i64 z.2] 89):=⟨_,rfl⟩
  have gr3:=(kk.trans kA).at_ gr2
  rw[←hK3]at gr3
  have hti3:IL K3 t (trk x.r):=by rw[hK3];exact((hti.keeps k2).keeps kk).keeps kA
  have hq3:NL K3 x.vq x.r.pts:=by rw[hK3];exact((hx.keeps kH).keeps (kk.trans kA)).q
  have hf3:NL K3 x.vf x.r.fl:=by rw[hK3];exact((hx.keeps kH).keeps (kk.trans kA)).f
  have k3:Keeps K2 K3:=by rw[hK3];exact kk.trans kA
  rw[←hK3]at gx
  simp(disch:=first|assumption|omega|(simp only[LN]<;>omega)|(simp(disch:=first|assumption|omega|(simp only[LN]<;>omega))only[row_alloc,row_set];assumption))only[W_block,P3,seval,initFr,clsA,lp,ra,na,a_loadnvf,w1,w2]
  simp only[←hK3]
  refine callQ (t99 hti3 (by omega) _) ?_
  simp(disch:=first|assumption|omega)only[W_block,P3,seval,initFr,clsA,gr3]
  refine callQ (t102 hq3 (by omega) _) ?_
  cases hin:(trk x.r).contains z.2 with
  |true=>
   cases hpt:x.r.pts.any (fun x=>x.1==(i:Int))with
   |true=>
    simp(disch:=first|assumption|omega)only[W_block,P3,seval,initFr,clsA,gr3]
    refine callQ (t102 hf3 (by omega) _) ?_
    cases hfl:x.r.fl.any (fun x=>x.1==(i:Int))with
    |true=>
     simp(disch:=first|assumption|omega)only[W_block,P3,seval,initFr,clsA]
     refine hret _ _ (hbad (bad (by rw[pdef,hin,hpt,hfl];rfl)) (kH.trans k3) rfl)
    |false=>
     simp(disch:=first|assumption|omega)only[W_block,P3,seval,initFr,clsA,hw]
     exact hn' _ _ _ ⟨_,_,i+1,_,_,_,_,_,rfl,k3,by omega,good (by rw[pdef,hin,hpt,hfl];rfl),rfl⟩ (by omega)
   |false=>
    simp(disch:=first|assumption|omega)only[W_block,P3,seval,initFr,clsA]
    refine hret _ _ (hbad (bad (by rw[pdef,hin,hpt];rfl)) (kH.trans k3) rfl)
  |false=>
   cases hpt:x.r.pts.any (fun x=>x.1==(i:Int))with
   |true=>
    simp(disch:=first|assumption|omega)only[W_block,P3,seval,initFr,clsA]
    refine hret _ _ (hbad (bad (by rw[pdef,hin,hpt];rfl)) (kH.trans k3) rfl)
   |false=>
    simp(disch:=first|assumption|omega)only[W_block,P3,seval,initFr,clsA,hw]
    exact hn' _ _ _ ⟨_,_,i+1,_,_,_,_,_,rfl,k3,by omega,good (by rw[pdef,hin,hpt];rfl),rfl⟩ (by omega)
 ·have h1:¬(i:Int)<((L.p.length:Nat):Int):=by omega
  have:i=L.p.length:=by omega
  subst this
  simp(disch:=first|assumption|omega)only[W_block,P3,seval,initFr,clsA,lp]
  refine hx' 1 _ _ ?_
  simp(disch:=first|assumption|omega)only[W_block,P3,seval,initFr,clsA]
  refine hq2 _ _ ⟨_,rfl,?_,kH.trans kk⟩
  simp[formedB,hgood,hp,tupV]
end Go.AM.Fd

namespace Go.AM.Fd
open Nat (reduceAdd reduceEqDiff reduceLT reduceLeDiff reduceMul reduceSub)
open Go.Proofs Go.AM.F
theorem may_lim{L:Ly}(h:mayB L=true):LyLim L:=by
 simp only[mayB,Bool.and_eq_true,Bool.not_eq_true']at h
 exact full_not h.1
theorem may_ro{L:Ly}(h:mayB L=true){r:Ro}(hr:r∈L.r):RoLim L r:=by
 simp only[mayB,Bool.and_eq_true]at h
 exact roB_lim (List.all_eq_true.1 h.2.2.2 r hr)
theorem t63{H:AHeap}{u:V4}{xs:List RV}{L:Ly}{x:RV}{b:Nat}{ob rb:Bool}{tb:Nat}(h:LyR H u xs L)(hx:x.ok H)(hr:RoLim L x.r)(hL:LyLim L)(gb:H.get b=some (.cells ob rb 4 u.l tb)):
 ∃w H',ARun Tryz.prog 0 63 [.agg x.row.toArray,ptr b 0] H w H'∧w=.bool (!formedB L x.r)∧H'=H:=by
 refine gcb ?_
 refine walk2 f63_ok f63_n ?_
 intro Q hq1 hq2
 have os:=Sl.one h.s
 have op:=Sl.one h.p
 have og:=Sl.one h.g
 have or:=Sl.one h.r
 have q1:one1 (Value.int .i64 x.r.g)=True:=by simp[one1,one_int]
 have q2:one1 (Value.string ⟨x.r.n.toArray⟩)=True:=by simp[one1,one_str]
 have q3:=one_isS (Sl.is hx.p)
 have q4:=one_isS (Sl.is hx.q)
 have q5:=one_isS (Sl.is hx.o)
 have q6:=one_isS (Sl.is hx.f)
 have lb:=AHeap.get_lt gb
 have kA:=(Keeps.refl H).alloc (.cells true false 6 x.row 87)
 have hf:=t64 (h.keeps kA) (hx.keeps kA) hr hL
 have row:x.row=[.string ⟨x.r.n.toArray⟩,.int .i64 x.r.g,x.vp,x.vq,x.vo,x.vf]:=rfl
 simp only[V4.l,row]at*
 simp(disch:=first|assumption|omega|(simp only[LN]<;>omega)|(simp(disch:=first|assumption|omega|(simp only[LN]<;>omega))only[row_alloc,row_set];assumption))only[f63,W_block,P3,seval,initFr,clsA,q1,q2,q3,q4,q5,q6,os,op,og,or,gb]
 refine callK hf ?_
 rintro _ _ ⟨rfl,rfl⟩
 simp(disch:=first|assumption|omega)only[W_block,P3,seval,initFr,clsA]
 exact hq2 _ _ ⟨_,rfl,rfl,kA⟩
def checkE(L:Ly):Int:=if mayB L then(if L.r.all (formedB L)then 0 else 50)else 2
theorem all_any_not{α:Type}(p:α→Bool)(l:List α):(l.any fun x=> !p x)= !l.all p:=by
 induction l with
 |nil=>rfl
 |cons a l ih=>simp[ih]
theorem t30{H:AHeap}{u:V4}{xs:List RV}{L:Ly}(h:LyR H u xs L)(hf:LyIn 9223372036854775807 L):
 ∃w H',ARun Tryz.prog 0 30 [.agg u.l.toArray] H w H'∧H'=H∧∃i,w=.tuple #[.int .i64 (checkE L),.int .i64 i]:=by
 suffices h':∃w H',ARun Tryz.prog 0 30 [.agg u.l.toArray] H w H'∧Keeps H H'∧∃i,w=.tuple #[.int .i64 (checkE L),.int .i64 i] by
  obtain⟨_,_,a,k,i,rfl⟩:=h'
  exact⟨_,_,a.gc0 k (.inr (.tuple _ _ rfl (fun i a b=>by
   match i,a with
   |0,_=>exact .int _ _
   |1,_=>exact .int _ _))),rfl,_,rfl⟩
 refine walk2 f30_ok f30_n ?_
 intro Q hq1 hq2
 have os:=Sl.one h.s
 have op:=Sl.one h.p
 have og:=Sl.one h.g
 have or:=Sl.one h.r
 have kA:=(Keeps.refl H).alloc (.cells true false 4 u.l 27)
 have gA:=AHeap.get_alloc_new H (.cells true false 4 u.l 27)
 have hm:=lMayA (h.keeps kA) hf
 have hA:=h.keeps kA
 simp only[V4.l]at*
 simp(disch:=first|assumption|omega|(simp only[LN]<;>omega)|(simp(disch:=first|assumption|omega|(simp only[LN]<;>omega))only[row_alloc,row_set];assumption))only[f30,W_block,P3,seval,initFr,clsA,os,op,og,or]
 refine callK hm ?_
 rintro _ X ⟨rfl,hX⟩
 rw[hX]
 unfold checkE at hq1 hq2
 cases hmay:mayB L with
 |false=>
  rw[hmay]at hq1 hq2
  simp(disch:=first|assumption|omega)only[W_block,P3,seval,initFr,clsA]
  exact hq2 _ _ ⟨_,rfl,kA,_,rfl⟩
 |true=>
 rw[hmay]at hq1 hq2
 have hl:=may_lim hmay
 have hrl:=h.rlen
 simp(disch:=first|assumption|omega)only[W_block,P3,seval,initFr,clsA]
 refine callK (t62 hA.r (by have:=hl.r;omega) (p:=fun y=> !formedB L y.r) (fun y hy=>t63 hA (hA.ok y hy) (may_ro hmay (by rw[←h.e];exact List.mem_map_of_mem hy)) hl (by simpa only[V4.l]using gA))) ?_
 rintro _ X ⟨hX,i,rfl,hi⟩
 rw[hX]
 have hany:decide (0≤i)= !L.r.all (formedB L):=by
  rw[hi,←h.e,List.all_map]
  exact all_any_not _ _
 by_cases h0:0≤i
 ·have e:L.r.all (formedB L)=false:=by simpa[h0]using hany
  rw[e]at hq1 hq2
  simp(disch:=first|assumption|omega)only[W_block,P3,seval,initFr,clsA]
  exact hq2 _ _ ⟨_,rfl,kA,_,rfl⟩
 ·have e:L.r.all (formedB L)=true:=by simpa[h0]using hany
  rw[e]at hq1 hq2
  simp(disch:=first|assumption|omega)only[W_block,P3,seval,initFr,clsA]
  exact hq2 _ _ ⟨_,rfl,kA,_,rfl⟩
end Go.AM.Fd

set_option maxRecDepth 8000
namespace Go.AM.Fd
open Nat (reduceAdd reduceEqDiff reduceLT reduceLeDiff reduceMul reduceSub)
open Go.Proofs Go.AM.F
def iEnc:Int→Value:=fun n=>.int .i64 n
def sidesM:List (Int×Bool)→List (Int×Value)
 |[]=>[]
 |x::l=>mput x.1 (.bool x.2) (sidesM l)
def sideO(p:Int)(l:List (Int×Bool)):Option Bool:=(l.find? fun x=>x.1==p).map (·.2)
theorem mfind_sides(p:Int):∀l,mfind p (sidesM l)=(sideO p l).map .bool
 |[]=>rfl
 |x::l=>by
  simp only[sidesM,mfind_mput,mfind_sides p l,sideO,List.find?_cons]
  by_cases h:p=x.1
  ·have e:(x.1==p)=true:=by simp[h]
   rw[if_pos h,e];rfl
  ·have e:(x.1==p)=false:=by simp;exact fun e=>h e.symm
   rw[if_neg h,e]
theorem t139{v:Value}{l:List (Int×Bool)}(J:Nat→AHeap→Prop){b p:Nat}(hl:l.length≤1000000)
 (hr:∀k H,J k H→H.get p=some (.cells true false 1 [v] 85)∧NL H v l)
 (hy:∀k H,(h:k<l.length)→J (k+1) H→∃w H',AYield Tryz.prog 0 b [.int .i64 (k:Nat),.agg (nRow l[k]).toArray] H w H'∧w=.bool true∧J k H')
 {H:AHeap} (h0:J l.length H):∃w H',ARun Tryz.prog 0 139 [.chan (some b),ptr p 0] H w H'∧J 0 H':=by
 refine walk2 f139_ok f139_n ?_
 intro Q hq1 hq2
 obtain⟨g1,s1⟩:=hr _ _ h0
 have iv:=Sl.is s1
 have lv:=s1.len
 have hw0:IntKind.i64.wrap (((l.length:Nat):Int)-1)=(l.length:Int)-1:=by rw[wrap_i64 (by omega) (by omega)]
 simp(disch:=first|assumption|omega)only[f139,P3,seval,initFr,clsA,g1,lv,hw0]
 rw[W_block]
 refine W_loop2 (fun k fr H=>∃x3 x4,fr=[.chan (some b),ptr p 0,.int .i64 ((k:Int)-1),x3,x4]∧J k H∧k≤l.length) l.length
  ⟨_,_,rfl,h0,Nat.le_refl _⟩ ?_
 rintro Q' k fr H ⟨x3,x4,rfl,hJ,hk⟩ hn hx hret
 cases k with
 |zero=>
  have e:¬(0:Int)≤((0:Nat):Int)-1:=by omega
  simp(disch:=first|assumption|omega)only[W_block,P3,seval,initFr,clsA]
  refine hx 0 _ _ ?_
  exact hq1 _ _ ⟨_,rfl,hJ⟩
 |succ k=>
  have e0:(((k+1:Nat):Int)-1)=(k:Int):=by omega
  obtain⟨g1,s1⟩:=hr _ _ hJ
  obtain⟨na,ra⟩:=s1.at_ (i:=k) (by omega)
  have h0:(0:Int)≤(k:Int):=by omega
  have h1:(k:Int)<((l.length:Nat):Int):=by omega
  have e1:l.getD k (0,false)=l[k]:=by simp[List.getD,List.getElem?_eq_getElem (show k<l.length by omega)]
  rw[e1]at ra
  have hy':=hy k H (by omega) hJ
  simp only[nRow]at hy'
  have hw:IntKind.i64.wrap ((k:Int)-1)=(k:Int)-1:=by rw[wrap_i64 (by omega) (by omega)]
  simp(disch:=first|assumption|omega)only[W_block,P3,seval,initFr,clsA,e0,g1,lv,na,ra,a_loadnvf,st_callvy]
  refine yieldK hy' ?_
  rintro _ H2 ⟨rfl,hJ2⟩
  simp(disch:=first|assumption|omega)only[W_block,P3,seval,initFr,clsA,hw]
  exact hn k _ _ ⟨_,_,rfl,hJ2,by omega⟩ (by omega)
theorem t138{H:AHeap}{v:Value}(hv:v.oneCell'=true):∃w H',ARun Tryz.prog 0 138 [v] H w H'∧w=.func (.func 139) #[] #[ptr H.n 0]∧H'=H.alloc (.cells true false 1 [v] 85):=by
 refine walk2 f138_ok f138_n ?_
 intro Q hq1 hq2
 have hc:v.cells.toList=[v]:=by rw[cells_one hv]
 simp(disch:=first|assumption|omega)only[f138,W_block,P3,seval,initFr,clsA,hc,hv]
 exact hq2 _ _ ⟨_,rfl,rfl,rfl⟩
structure SJ (B:AHeap) (L:LRec) (v:Value) (l:List (Int×Bool)) (mb vb bb rb:Nat) (k:Nat) (H:AHeap):Prop where
 keep:Keeps B H
 mvar:H.get vb=some (.cells true false 1 [.map (some mb)] 210)
 box:H.get bb=some (.cells true false 1 [v] 85)
 rec_:H.get rb=some (.loop true .ready none L)
 map:MP iEnc H mb (sidesM (l.drop k))
 sl:NL H v l
theorem SJ.round{B:AHeap}{v:Value}{l:List (Int×Bool)}{mb vb bb rb:Nat}{x0 x1 x2 x4 x5 x6 x7:Value}{k:Nat}{H:AHeap}(hk:k<l.length)(o1:B.n≤mb)(o2:mb<vb)(o3:vb<bb)(o4:bb<rb)(fr:Fresh (vb+1) v)(lo:∀b,blk v=some b→b<bb)
 (h:SJ B ⟨18,[0,1,2,3,5,9,10,11],[x0,x1,x2,ptr vb 0,x4,x5,x6,x7],#[10,11],rfA Tryz.prog 128 0,rfB Tryz.prog 128 0⟩ v l mb vb bb rb (k+1) H):
 ∃w H',AYield Tryz.prog 0 rb [.int .i64 (k:Nat),.agg (nRow l[k]).toArray] H w H'∧w=.bool true∧SJ B ⟨18,[0,1,2,3,5,9,10,11],[x0,x1,x2,ptr vb 0,x4,x5,x6,x7],#[10,11],rfA Tryz.prog 128 0,rfB Tryz.prog 128 0⟩ v l mb vb bb rb k H':=by
 obtain⟨L,hL⟩:∃L:LRec,(⟨18,[0,1,2,3,5,9,10,11],[x0,x1,x2,ptr vb 0,x4,x5,x6,x7],#[10,11],rfA Tryz.prog 128 0,rfB Tryz.prog 128 0⟩:LRec)=L:=⟨_,rfl⟩
 refine yield_of (R:=fun w H'=>w=.bool true∧SJ B _ v l mb vb bb rb k H') h.rec_ f128r0a_ok f128r0b_ok f128r0_n rfl rfl ?_
 show W Tryz.prog 0 f128r0a _ [x0,x1,x2,ptr vb 0,x4,x5,.int .i64 (k:Nat),.agg (nRow l[k]).toArray] H
 rw[hL]at h ⊢
 have hd:l.drop k=l[k]::l.drop (k+1):=List.drop_eq_getElem_cons hk
 generalize l[k]=x at*
 have q1:one1 (Value.int .i64 x.1)=True:=by simp[one1,one_int]
 have hrl:=AHeap.get_lt h.rec_
 have hml:=h.map.lt
 simp only[nRow]at*
 simp(disch:=first|assumption|omega|(simp only[LN]<;>omega)|(simp(disch:=first|assumption|omega|(simp only[LN]<;>omega))only[row_alloc,row_set];assumption))only[f128r0a,W_block,P3,seval,initFr,clsA,q1]
 refine⟨none,L,h.rec_,?_⟩
 obtain⟨H1,hH1⟩:∃X,X=H.set rb (.loop true .busy none L):=⟨_,rfl⟩
 have n1:H1.n=H.n:=by rw[hH1];rfl
 have c2:Chg [rb] H H1:=by rw[hH1];exact Chg.set H hrl _
 have gr1:H1.get rb=some (.loop true .busy none L):=by rw[hH1];exact AHeap.get_set_same h.rec_ _
 rw[←hH1,←n1]
 have kA:=(Keeps.refl H1).alloc (.cells true false 2 [.int .i64 x.1,.bool x.2] 120)
 have gx2:=AHeap.get_alloc_new H1 (.cells true false 2 [.int .i64 x.1,.bool x.2] 120)
 obtain⟨H2,hH2⟩:∃X,X=H1.alloc (.cells true false 2 [.int .i64 x.1,.bool x.2] 120):=⟨_,rfl⟩
 rw[←hH2]at kA gx2 ⊢
 have n2:H2.n=H1.n+1:=by rw[hH2];rfl
 have gm:H2.get vb=some (.cells true false 1 [.map (some mb)] 210):=kA.at_ (c2.at_ h.mvar (by simp;omega))
 have mp2:MP iEnc H2 mb (sidesM (l.drop (k+1))):=h.map.get (by rw[kA.get mb (by omega),c2.get mb (by omega) (by simp;omega)])
 obtain⟨o,s1,s2⟩:=a_mset encInt mp2 x.1 (x:=.bool x.2) rfl
 have s1':asem (.mset (.int .i64) (.map (some mb)) (.int .i64 x.1) (.bool x.2)) H2=some (undef,H2.set mb o):=s1
 simp(disch:=first|assumption|omega)only[f128r0b,W_block,P3,seval,initFr,clsA,gm,gx2,st_mset,s1']
 have c3:Chg [mb] H2 (H2.set mb o):=Chg.set H2 (by omega) _
 have gr3:(H2.set mb o).get rb=some (.loop true .busy none L):=c3.at_ (kA.at_ gr1) (by simp;omega)
 unfold roundQ
 rw[gr3]
 refine⟨rfl,?_⟩
 obtain⟨H3,hH3⟩:∃X,X=H2.set mb o:=⟨_,rfl⟩
 rw[←hH3]at c3 gr3 s2 ⊢
 have n3:H3.n=H2.n:=by rw[hH3];rfl
 have c4:Chg [rb] H3 (H3.set rb (.loop true .ready none L)):=Chg.set H3 (by omega) _
 refine⟨?_,c4.at_ (c3.at_ gm (by simp;omega)) (by simp;omega),c4.at_ (c3.at_ (kA.at_ (c2.at_ h.box (by simp;omega))) (by simp;omega)) (by simp;omega),AHeap.get_set_same gr3 _,?_,?_⟩
 ·exact(((h.keep.chg_trans c2 (by simp;omega)).trans kA).chg_trans c3 (by simp;omega)).chg_trans c4 (by simp;omega)
 ·rw[hd]
  exact MP.get s2 (c4.get mb (by omega) (by simp;omega))
 ·have hb:∀b,blk v=some b→b≠rb∧b≠mb:=fun b e=>by have:=fr b e;have:=lo b e;omega
  exact Sl.chg (Sl.chg (Sl.keeps (Sl.chg h.sl c2 (fun b e=>by have:=hb b e;simp;omega)) kA) c3 (fun b e=>by have:=hb b e;simp;omega)) c4 (fun b e=>by have:=hb b e;simp;omega)
set_option maxHeartbeats 1000000 in
theorem t128{H:AHeap}{x:RV}(hx:x.ok H)(hl:x.r.pts.length+x.r.fl.length≤1000000):
 ∃w H',ARun Tryz.prog 0 128 [.agg x.row.toArray] H w H'∧Keeps H H'∧∃mb,w=.map (some mb)∧H.n≤mb∧MP iEnc H' mb (sidesM (nds x.r)):=by
 refine walk2 f128_ok f128_n ?_
 intro Q hq1 hq2
 have q1:one1 (Value.int .i64 x.r.g)=True:=by simp[one1,one_int]
 have q2:one1 (Value.string ⟨x.r.n.toArray⟩)=True:=by simp[one1,one_str]
 have q3:=one_isS (Sl.is hx.p)
 have q4:=one_isS (Sl.is hx.q)
 have q5:=one_isS (Sl.is hx.o)
 have q6:=one_isS (Sl.is hx.f)
 have row:x.row=[.string ⟨x.r.n.toArray⟩,.int .i64 x.r.g,x.vp,x.vq,x.vo,x.vf]:=rfl
 obtain⟨K0,hK0⟩:∃X,X=((H.alloc (.cells true false 6 x.row 87)).alloc (.obj true (.map #[] 0))).alloc (.cells true false 1 [.map (some (H.n+1))] 210):=⟨_,rfl⟩
 have n0:K0.n=H.n+3:=by rw[hK0];rfl
 have k0:Keeps H K0:=by rw[hK0];exact(((Keeps.refl H).alloc _).alloc _).alloc _
 have g0:K0.get (H.n+2)=some (.cells true false 1 [.map (some (H.n+1))] 210):=by rw[hK0];exact AHeap.get_alloc_new ((H.alloc _).alloc _) _
 have m0:MP iEnc K0 (H.n+1) []:=by
  have:=MP.new (enc:=iEnc) (H.alloc (.cells true false 6 x.row 87))
  refine this.get ?_
  rw[hK0]
  exact((Keeps.refl ((H.alloc (.cells true false 6 x.row 87)).alloc (.obj true (.map #[] 0)))).alloc _).get _ (by simp[AHeap.alloc])
 have tN:=t32 (hx.keeps k0) hl
 simp only[row]at*
 simp(disch:=first|assumption|omega|(simp only[LN]<;>omega)|(simp(disch:=first|assumption|omega|(simp only[LN]<;>omega))only[row_alloc,row_set];assumption))only[f128,W_block,P3,seval,initFr,clsA,q1,q2,q3,q4,q5,q6,st_mkmap,a_mkmap]
 simp only[←hK0]
 refine callK tN ?_
 rintro v K1 ⟨hv,k1,fv⟩
 have n1:=k1.n
 have hvs:NL K1 v (nds x.r):=hv.sl
 have ndl:(nds x.r).length≤1000000:=by simp[nds];omega
 have ov:=Sl.one hvs
 simp(disch:=first|assumption|omega)only[W_block,P3,seval,initFr,clsA]
 refine callK (t138 ov) ?_
 rintro _ K2 ⟨rfl,hK2⟩
 have kB:=(Keeps.refl K1).alloc (.cells true false 1 [v] 85)
 have gB:=AHeap.get_alloc_new K1 (.cells true false 1 [v] 85)
 rw[←hK2]at kB gB
 have n2:K2.n=K1.n+1:=by rw[hK2];rfl
 simp(disch:=first|assumption|omega)only[W_block,P3,seval,initFr,clsA]
 refine W_rangeF rfl (bodied_of (by kernel_rfl)) ?_
 obtain⟨L,hL⟩:∃L:LRec,L=⟨18,[0,1,2,3,5,9,10,11],[.agg #[.string ⟨x.r.n.toArray⟩,.int .i64 x.r.g,x.vp,x.vq,x.vo,x.vf],ptr H.n 0,.map none,ptr (H.n+2) 0,undef,.func (.func 139) #[] #[ptr K1.n 0],undef,undef],#[10,11],rfA Tryz.prog 128 0,rfB Tryz.prog 128 0⟩:=⟨_,rfl⟩
 have kL:=(Keeps.refl K2).alloc (.loop true .ready none L)
 have gL:=AHeap.get_alloc_new K2 (.loop true .ready none L)
 have kH:Keeps H K2:=(k0.trans k1).trans kB
 have h0:SJ H L v (nds x.r) (H.n+1) (H.n+2) K1.n K2.n (nds x.r).length (K2.alloc (.loop true .ready none L)):=
  ⟨kH.trans kL,kL.at_ (kB.at_ (k1.at_ g0)),kL.at_ gB,gL,by
   rw[List.drop_length]
   exact m0.get (by rw[kL.get _ (by omega),kB.get _ (by omega),k1.get _ (by omega)]),(hvs.keeps kB).keeps kL⟩
 have lo:∀b,blk v=some b→b<K1.n:=fun b e=>hv.1.lt e
 have rd:∀k X,(hk:k<(nds x.r).length)→SJ H L v (nds x.r) (H.n+1) (H.n+2) K1.n K2.n (k+1) X→∃w H',AYield Tryz.prog 0 K2.n [.int .i64 (k:Nat),.agg (nRow (nds x.r)[k]).toArray] X w H'∧w=.bool true∧SJ H L v (nds x.r) (H.n+1) (H.n+2) K1.n K2.n k H':=by
  rw[hL]
  intro k X hk hJ
  exact hJ.round hk (by omega) (by omega) (by omega) (by omega) (fun b e=>by have:=fv b e;omega) lo
 obtain⟨w,K3,a3,j3⟩:=t139 (SJ H L v (nds x.r) (H.n+1) (H.n+2) K1.n K2.n) ndl (fun k X hJ=>⟨hJ.box,hJ.sl⟩) rd h0
 rw[hL]at a3 j3
 refine⟨_,_,a3,afterR_ready j3.rec_ ?_⟩
 have hrl:=AHeap.get_lt j3.rec_
 have c4:Chg [K2.n] K3 (K3.set K2.n .dead):=Chg.set K3 hrl _
 obtain⟨K4,hK4⟩:∃X,X=K3.set K2.n .dead:=⟨_,rfl⟩
 rw[←hK4]at c4 ⊢
 have g4:=c4.at_ j3.mvar (by simp;omega)
 simp(disch:=first|assumption|omega)only[W_block,P3,seval,initFr,clsA,g4]
 refine hq2 _ _ ⟨_,rfl,j3.keep.chg_trans c4 (by simp;have:=kH.n;omega),H.n+1,rfl,by omega,?_⟩
 exact MP.get (by simpa using j3.map) (c4.get _ (by have:=j3.map.lt;omega) (by simp;omega))
end Go.AM.Fd

set_option maxRecDepth 8000
namespace Go.AM.Fd
open Nat (reduceAdd reduceEqDiff reduceLT reduceLeDiff reduceMul reduceSub)
open Go.Proofs Go.AM.F
def cPt(L:Ly)(a b:Ro)(p:Nat):Bool:=
 let x:=sideO p (nds a);let y:=sideO p (nds b);let s:=(L.p.getD p ([],0)).2
 (x.isSome&&y.isSome||x.isSome&&(trk b).contains s||y.isSome&&(trk a).contains s)&& !(x==y)
def confB(L:Ly)(a b:Ro):Bool:=a.g==b.g||(trk a).any (fun s=>(trk b).contains s)||(List.range L.p.length).any (cPt L a b)
theorem mp_side{H:AHeap}{mb:Nat}{l:List (Int×Bool)}(h:MP iEnc H mb (sidesM l))(p:Nat):
 asem (.mget (.int .i64) (.bool false) true (.map (some mb)) (.int .i64 (p:Nat))) H=some (.tuple #[.bool ((sideO p l).getD false),.bool (sideO p l).isSome],H):=by
 have:=a_mget encInt h (p:Int) (.bool false) true
 rw[mfind_sides]at this
 refine this.trans ?_
 cases sideO (p:Int) l<;>rfl
set_option maxHeartbeats 8000000 in
theorem t127{u:V4}{xs:List RV}{L:Ly}{a b:RV}(J Jx:AHeap→Prop){rb pa pb pl:Nat}(la:RoLim L a.r)(lb:RoLim L b.r)(hL:LyLim L)
 (hr:∀H,J H→rb<H.n∧H.get pa=some (.cells true false 6 a.row 87)∧H.get pb=some (.cells true false 6 b.row 87)∧H.get pl=some (.cells true false 4 u.l 27)∧LyR H u xs L∧a.ok H∧b.ok H)
 (hk:∀H H',J H→Keeps H H'→J H')
 (hy:∀H v,J H→∃w H',AYield Tryz.prog 0 rb [.bool v] H w H'∧w=.bool (!v)∧(v=true→Jx H')∧(v=false→J H'∧Chg [rb] H H'))
 {H:AHeap} (h0:J H):∃w H',ARun Tryz.prog 0 127 [.chan (some rb),ptr pa 0,ptr pb 0,ptr pl 0] H w H'∧(confB L a.r b.r=true→Jx H')∧(confB L a.r b.r=false→J H'):=by
 refine walk2 f127_ok f127_n ?_
 intro Q hq1 hq2
 obtain⟨lr,ga,gb,gl,hly,oa,ob⟩:=hr _ h0
 have lP:=la.p
 have lO:=la.o
 have lQ:=la.q
 have lF:=la.f
 have mP:=lb.p
 have mO:=lb.o
 have mQ:=lb.q
 have mF:=lb.f
 have rowa:a.row=[.string ⟨a.r.n.toArray⟩,.int .i64 a.r.g,a.vp,a.vq,a.vo,a.vf]:=rfl
 have rowb:b.row=[.string ⟨b.r.n.toArray⟩,.int .i64 b.r.g,b.vp,b.vq,b.vo,b.vf]:=rfl
 have ga':=ga
 have gb':=gb
 rw[rowa]at ga'
 rw[rowb]at gb'
 have stop:confB L a.r b.r=true→∀{K:AHeap} {fr:List Value},Jx K→Q .ret fr K:=fun e K fr j=>hq2 _ _ ⟨_,rfl,fun _=>j,fun e2=>by rw[e]at e2;cases e2⟩
 simp(disch:=first|assumption|omega)only[f127,W_block,P3,seval,initFr,clsA,ga',gb',st_callvy]
 refine yieldK (hy _ _ h0) ?_
 rintro _ K ⟨rfl,y1,y2⟩
 cases hg:(a.r.g==b.r.g)with
 |true=>
  simp(disch:=first|assumption|omega)only[W_block,P3,seval,initFr,clsA]
  exact stop (by simp only[confB,hg,Bool.true_or]) (y1 hg)
 |false=>
 obtain⟨jK,cK⟩:=y2 hg
 clear y1 y2 ga gb gl hly oa ob ga' gb'
 obtain⟨lr1,ga,gb,gl,hly,oa,ob⟩:=hr _ jK
 have ga':=ga
 have gb':=gb
 rw[rowa]at ga'
 rw[rowb]at gb'
 have tT:=t31 oa (by omega)
 have tU:=fun K' (k:Keeps K K')=>t31 (ob.keeps k) (by omega)
 rw[rowa]at tT
 simp only[rowb]at tU
 simp(disch:=first|assumption|omega|(simp only[LN]<;>omega)|(simp(disch:=first|assumption|omega|(simp only[LN]<;>omega))only[row_alloc,row_set];assumption))only[W_block,P3,seval,initFr,clsA,ga',gb']
 refine callK tT ?_
 rintro t K1 ⟨ht,k1,ft⟩
 have gb1:=k1.at_ gb'
 have lb1:=AHeap.get_lt gb
 have n1:=k1.n
 simp(disch:=first|assumption|omega|(simp only[LN]<;>omega)|(simp(disch:=first|assumption|omega|(simp only[LN]<;>omega))only[row_alloc,row_set];assumption))only[W_block,P3,seval,initFr,clsA,gb1]
 refine⟨gb'.symm,callK (tU _ k1) ?_⟩
 rintro w K2 ⟨hw,k2,fw⟩
 have k12:=k1.trans k2
 have hti:IL K2 t (trk a.r):=ht.sl.keeps k2
 have hwi:IL K2 w (trk b.r):=hw.sl
 have tl:(trk a.r).length≤32:=by simp[trk];omega
 have wl:(trk b.r).length≤32:=by simp[trk];omega
 have j2:=hk _ _ jK k12
 have ftw:∀{S T:AHeap} {l:List Int} {z:Value},z=t∨z=w→Chg [rb] S T→IL S z l→IL T z l:=fun hz c h=>Sl.chg h c (fun y e=>by
  have:K.n≤y:=by
   rcases hz with rfl|rfl
   ·exact ft y e
   ·have:=fw y e;omega
  simp;omega)
 have iT:=Sl.is hti
 have lT:=hti.len
 clear tT tU gb1 lb1 ga gb gl hly oa ob ga' gb'
 simp(disch:=first|assumption|omega)only[P3,seval,initFr,clsA,lT]
 rw[W_block]
 refine W_loop2 (fun k fr M=>∃i x6 x7 x8 x9 x10 x11 x12 x13 x14 x15 x16 x21 x22 x23 x24 x25 x26 x27,fr=[.chan (some rb),ptr pa 0,ptr pb 0,ptr pl 0,t,w,x6,x7,x8,x9,x10,x11,x12,x13,x14,x15,x16,.bool false,t,.int .i64 (((trk a.r).length:Nat):Int),.int .i64 ((i:Nat):Int),x21,x22,x23,x24,x25,x26,x27]∧
  J M∧K2.n≤M.n∧IL M t (trk a.r)∧IL M w (trk b.r)∧i≤(trk a.r).length∧((trk a.r).take i).any (fun s=>(trk b.r).contains s)=false∧k=(trk a.r).length - i) (trk a.r).length
  ⟨0,_,_,_,_,_,_,_,_,_,_,_,_,_,_,_,_,_,_,rfl,j2,Nat.le_refl _,hti,hwi,by omega,by simp,rfl⟩ ?_
 rintro Q' k fr M ⟨i,x6,x7,x8,x9,x10,x11,x12,x13,x14,x15,x16,x21,x22,x23,x24,x25,x26,x27,rfl,jM,nM,hti,hwi,hi,hp,rfl⟩ hn hx hret
 by_cases hlt:i<(trk a.r).length
 ·obtain⟨na,ra⟩:=hti.at_ hlt
  have h0:(0:Int)≤(i:Int):=by omega
  have h1:(i:Int)<(((trk a.r).length:Nat):Int):=by omega
  have hw1:IntKind.i64.wrap ((i:Int)+1)=((i+1:Nat):Int):=by rw[wrap_i64 (by omega) (by omega)];simp
  have e1:(trk a.r).getD i 0=(trk a.r)[i]:=by simp[List.getD,List.getElem?_eq_getElem hlt]
  have tk:((trk a.r).take (i+1)).any (fun s=>(trk b.r).contains s)=(trk b.r).contains (trk a.r)[i]:=by rw[List.take_succ_eq_append_getElem hlt,List.any_append,hp];simp
  have an:(trk b.r).contains (trk a.r)[i]=true→confB L a.r b.r=true:=fun e=>by
   have:(trk a.r).any (fun s=>(trk b.r).contains s)=true:=List.any_eq_true.2 ⟨_,List.getElem_mem hlt,e⟩
   simp only[confB,this,Bool.or_true,Bool.true_or]
  rw[e1]at ra
  generalize(trk a.r)[i]=s at*
  simp(disch:=first|assumption|omega)only[W_block,P3,seval,initFr,clsA,lT,na,ra,a_load1v]
  refine callQ (t99 hwi (by omega) s) ?_
  simp(disch:=first|assumption|omega)only[W_block,P3,seval,initFr,clsA,st_callvy]
  refine yieldK (hy _ _ jM) ?_
  rintro _ M2 ⟨rfl,y1,y2⟩
  cases hc:(trk b.r).contains s with
  |true=>
   simp(disch:=first|assumption|omega)only[W_block,P3,seval,initFr,clsA]
   exact hret _ _ (stop (an hc) (y1 hc))
  |false=>
   obtain⟨jM2,c2⟩:=y2 hc
   simp(disch:=first|assumption|omega)only[W_block,P3,seval,initFr,clsA,hw1]
   exact hn _ _ _ ⟨i+1,_,_,_,_,_,_,_,_,_,_,_,_,_,_,_,_,_,_,rfl,jM2,Nat.le_trans nM c2.n,ftw (.inl rfl) c2 hti,ftw (.inr rfl) c2 hwi,by omega,by rw[tk,hc],rfl⟩ (by omega)
 have h1:¬(i:Int)<(((trk a.r).length:Nat):Int):=by omega
 rw[List.take_of_length_le (by omega)]at hp
 simp(disch:=first|assumption|omega)only[W_block,P3,seval,initFr,clsA,lT]
 refine hx 0 _ _ ?_
 clear hn hret
 obtain⟨lr2,ga,gb,gl,hly,oa,ob⟩:=hr _ jM
 have ga':=ga
 have gb':=gb
 rw[rowa]at ga'
 rw[rowb]at gb'
 have tT:=t128 oa (by omega)
 have tU:=fun K' (k:Keeps M K')=>t128 (ob.keeps k) (by omega)
 rw[rowa]at tT
 simp only[rowb]at tU
 simp(disch:=first|assumption|omega|(simp only[LN]<;>omega)|(simp(disch:=first|assumption|omega|(simp only[LN]<;>omega))only[row_alloc,row_set];assumption))only[W_block,P3,seval,initFr,clsA,ga',gb']
 refine callK tT ?_
 rintro _ M1 ⟨km1,ma,rfl,nma,hma⟩
 have gb1:=km1.at_ gb'
 have lb1:=AHeap.get_lt gb
 simp(disch:=first|assumption|omega|(simp only[LN]<;>omega)|(simp(disch:=first|assumption|omega|(simp only[LN]<;>omega))only[row_alloc,row_set];assumption))only[W_block,P3,seval,initFr,clsA,gb1]
 refine⟨gb'.symm,callK (tU _ km1) ?_⟩
 rintro _ M2 ⟨km2,mb,rfl,nmb,hmb⟩
 --LOOP2
 have km12:=km1.trans km2
 have jM2:=hk _ _ jM km12
 have hti2:IL M2 t (trk a.r):=hti.keeps km12
 have hwi2:IL M2 w (trk b.r):=hwi.keeps km12
 have hma2:MP iEnc M2 ma (sidesM (nds a.r)):=hma.get (km2.get _ hma.lt)
 have l1:=km1.n
 have l2:=km2.n
 have hKM:K.n≤M.n:=Nat.le_trans k12.n nM
 have gl2:=km12.at_ gl
 have lpp:=hL.p
 have ip:=Sl.is hly.p
 have lp:=hly.p.len
 clear tT tU gb1 lb1 ga gb oa ob ga' gb'
 simp only[V4.l]at gl2
 have lrb:rb<K.n:=lr1
 refine⟨trivial,?_⟩
 simp(disch:=first|assumption|omega)only[P3,seval,initFr,clsA,gl2,lp]
 rw[W_block]
 clear hti hwi jM gl hly hx hi hlt h1
 refine W_loop2 (fun k fr X=>∃j y6 y9 y10 y11 y12 y13 y14 y15 y16 y17 y20 y21 y22 y26 y27,fr=[.chan (some rb),ptr pa 0,ptr pb 0,ptr pl 0,t,w,y6,.map (some ma),.map (some mb),y9,y10,y11,y12,y13,y14,y15,y16,y17,t,.int .i64 (((trk a.r).length:Nat):Int),y20,y21,y22,u.p,.int .i64 ((L.p.length:Nat):Int),.int .i64 ((j:Nat):Int),y26,y27]∧
  J X∧M2.n≤X.n∧IL X t (trk a.r)∧IL X w (trk b.r)∧MP iEnc X ma (sidesM (nds a.r))∧MP iEnc X mb (sidesM (nds b.r))∧j≤L.p.length∧(List.range j).any (cPt L a.r b.r)=false∧k=L.p.length-j) L.p.length
  ⟨0,_,_,_,_,_,_,_,_,_,_,_,_,_,_,_,rfl,jM2,Nat.le_refl _,hti2,hwi2,hma2,hmb,by omega,by simp,rfl⟩ ?_
 rintro Q' k fr X ⟨j,y6,y9,y10,y11,y12,y13,y14,y15,y16,y17,y20,y21,y22,y26,y27,rfl,jX,nX,hti,hwi,hma,hmb,hi,hp2,rfl⟩ hn hx hret
 obtain⟨_,_,_,_,hly,_,_⟩:=hr _ jX
 by_cases hlt:j<L.p.length
 ·obtain⟨na,ra⟩:=hly.p.at_ hlt
  have h0:(0:Int)≤(j:Int):=by omega
  have h1:(j:Int)<((L.p.length:Nat):Int):=by omega
  have hw1:IntKind.i64.wrap ((j:Int)+1)=((j+1:Nat):Int):=by rw[wrap_i64 (by omega) (by omega)];simp
  have pdef:cPt L a.r b.r j=((((sideO j (nds a.r)).isSome&&(sideO j (nds b.r)).isSome||(sideO j (nds a.r)).isSome&&(trk b.r).contains (L.p.getD j ([],0)).2)||(sideO j (nds b.r)).isSome&&(trk a.r).contains (L.p.getD j ([],0)).2)&& !(sideO j (nds a.r)==sideO j (nds b.r))):=rfl
  have bad:cPt L a.r b.r j=true→confB L a.r b.r=true:=fun e=>by
   have:(List.range L.p.length).any (cPt L a.r b.r)=true:=List.any_eq_true.2 ⟨j,List.mem_range.2 hlt,e⟩
   simp only[confB,this,Bool.or_true]
  have good:cPt L a.r b.r j=false→(List.range (j+1)).any (cPt L a.r b.r)=false:=fun e=>by rw[List.range_succ,List.any_append,hp2];simp[e]
  have sa:=fun(Y:AHeap) (k:Keeps X Y)=>mp_side (hma.get (k.get _ hma.lt)) j
  have sb:=fun(Y:AHeap) (k:Keeps X Y)=>mp_side (hmb.get (k.get _ hmb.lt)) j
  generalize L.p.getD j ([],0)=z at*
  have w1:one1 (Value.int .i64 z.2)=True:=by simp[one1,one_int]
  have w2:one1 (Value.string ⟨z.1.toArray⟩)=True:=by simp[one1,one_str]
  have kA:=(Keeps.refl X).alloc (.cells true false 2 [.string ⟨z.1.toArray⟩,.int .i64 z.2] 89)
  have gx:=AHeap.get_alloc_new X (.cells true false 2 [.string ⟨z.1.toArray⟩,.int .i64 z.2] 89)
  obtain⟨X1,hX1⟩:∃Y,Y=X.alloc (.cells true false 2 [.string ⟨z.1.toArray⟩,.int .i64 z.2] 89):=⟨_,rfl⟩
  rw[←hX1]at kA gx
  have jX1:=hk _ _ jX kA
  have ht1:IL X1 t (trk a.r):=hti.keeps kA
  have hw2:IL X1 w (trk b.r):=hwi.keeps kA
  have ca:=sa _ kA
  have cb:=sb _ kA
  have nX1:X.n≤X1.n:=kA.n
  have nxt:∀X2,J X2→Chg [rb] X1 X2→cPt L a.r b.r j=false→∀z6 z9 z10 z11 z12 z13 z14 z15 z16 z17 z20 z21 z22 z26 z27,∃j' y6 y9 y10 y11 y12 y13 y14 y15 y16 y17 y20 y21 y22 y26 y27,[.chan (some rb),ptr pa 0,ptr pb 0,ptr pl 0,t,w,z6,.map (some ma),.map (some mb),z9,z10,z11,z12,z13,z14,z15,z16,z17,t,.int .i64 (((trk a.r).length:Nat):Int),z20,z21,z22,u.p,.int .i64 ((L.p.length:Nat):Int),.int .i64 ((j+1:Nat):Int),z26,z27]=[.chan (some rb),ptr pa 0,ptr pb 0,ptr pl 0,t,w,y6,.map (some ma),.map (some mb),y9,y10,y11,y12,y13,y14,y15,y16,y17,t,.int .i64 (((trk a.r).length:Nat):Int),y20,y21,y22,u.p,.int .i64 ((L.p.length:Nat):Int),.int .i64 ((j':Nat):Int),y26,y27]∧
   J X2∧M2.n≤X2.n∧IL X2 t (trk a.r)∧IL X2 w (trk b.r)∧MP iEnc X2 ma (sidesM (nds a.r))∧MP iEnc X2 mb (sidesM (nds b.r))∧j'≤L.p.length∧(List.range j').any (cPt L a.r b.r)=false∧L.p.length-(j+1)=L.p.length-j':=by
   intro X2 jX2 c2 hc
   intros
   have hma1:=hma.get (kA.get _ hma.lt)
   have hmb1:=hmb.get (kA.get _ hmb.lt)
   exact⟨j+1,_,_,_,_,_,_,_,_,_,_,_,_,_,_,_,rfl,jX2,by have:=c2.n;omega,ftw (.inl rfl) c2 ht1,ftw (.inr rfl) c2 hw2,hma1.get (c2.get _ hma1.lt (by simp;omega)),hmb1.get (c2.get _ hmb1.lt (by simp;omega)),by omega,good hc,rfl⟩
  clear sa sb
  simp(disch:=first|assumption|omega|(simp only[LN]<;>omega)|(simp(disch:=first|assumption|omega|(simp only[LN]<;>omega))only[row_alloc,row_set];assumption))only[W_block,P3,seval,initFr,clsA,lp,na,ra,a_loadnvf,w1,w2]
  simp only[←hX1]
  generalize sideO (j:Int) (nds a.r)=x at*
  generalize sideO (j:Int) (nds b.r)=y at*
  cases x with
  |none=>
   cases y with
   |none=>
    have hc:=True.intro
    simp only[Option.getD_none,Option.isSome_none]at ca cb
    simp(disch:=first|assumption|omega)only[W_block,P3,seval,initFr,clsA,st_mget,ca,cb,gx,st_callvy]
    refine yieldK (hy _ _ jX1) ?_
    rintro _ X2 ⟨rfl,y1,y2⟩
    obtain⟨jX2,c2⟩:=y2 rfl
    simp(disch:=first|assumption|omega)only[W_block,P3,seval,initFr,clsA,hw1]
    exact hn _ _ _ (nxt X2 jX2 c2 (by rw[pdef];first|rfl|(rw[hc];rfl)|(simp only[hc];simp)) _ _ _ _ _ _ _ _ _ _ _ _ _ _ _) (by omega)
   |some q=>
    simp only[Option.getD_none,Option.isSome_none,Option.getD_some,Option.isSome_some]at ca cb
    simp(disch:=first|assumption|omega)only[W_block,P3,seval,initFr,clsA,st_mget,ca,cb,gx,st_callvy]
    refine callQ (t99 ht1 (by omega) z.2) ?_
    cases hc:(trk a.r).contains z.2 with
    |true=>
     simp(disch:=first|assumption|omega)only[W_block,P3,seval,initFr,clsA,st_callvy]
     refine yieldK (hy _ _ jX1) ?_
     rintro _ X2 ⟨rfl,y1,y2⟩
     simp(disch:=first|assumption|omega)only[W_block,P3,seval,initFr,clsA]
     exact hret _ _ (stop (bad (by rw[pdef];first|rfl|(rw[hc];rfl)|(simp only[hc];simp))) (y1 rfl))
    |false=>
     simp(disch:=first|assumption|omega)only[W_block,P3,seval,initFr,clsA,st_callvy]
     refine yieldK (hy _ _ jX1) ?_
     rintro _ X2 ⟨rfl,y1,y2⟩
     obtain⟨jX2,c2⟩:=y2 rfl
     simp(disch:=first|assumption|omega)only[W_block,P3,seval,initFr,clsA,hw1]
     exact hn _ _ _ (nxt X2 jX2 c2 (by rw[pdef];first|rfl|(rw[hc];rfl)|(simp only[hc];simp)) _ _ _ _ _ _ _ _ _ _ _ _ _ _ _) (by omega)
  |some p=>
   cases y with
   |none=>
    simp only[Option.getD_none,Option.isSome_none,Option.getD_some,Option.isSome_some]at ca cb
    simp(disch:=first|assumption|omega)only[W_block,P3,seval,initFr,clsA,st_mget,ca,cb,gx,st_callvy]
    refine callQ (t99 hw2 (by omega) z.2) ?_
    cases hc:(trk b.r).contains z.2 with
    |true=>
     simp(disch:=first|assumption|omega)only[W_block,P3,seval,initFr,clsA,st_callvy]
     refine yieldK (hy _ _ jX1) ?_
     rintro _ X2 ⟨rfl,y1,y2⟩
     simp(disch:=first|assumption|omega)only[W_block,P3,seval,initFr,clsA]
     exact hret _ _ (stop (bad (by rw[pdef];first|rfl|(rw[hc];rfl)|(simp only[hc];simp))) (y1 rfl))
    |false=>
     simp(disch:=first|assumption|omega)only[W_block,P3,seval,initFr,clsA,st_callvy]
     refine yieldK (hy _ _ jX1) ?_
     rintro _ X2 ⟨rfl,y1,y2⟩
     obtain⟨jX2,c2⟩:=y2 rfl
     simp(disch:=first|assumption|omega)only[W_block,P3,seval,initFr,clsA,hw1]
     exact hn _ _ _ (nxt X2 jX2 c2 (by rw[pdef];first|rfl|(rw[hc];rfl)|(simp only[hc];simp)) _ _ _ _ _ _ _ _ _ _ _ _ _ _ _) (by omega)
   |some q=>
    simp only[Option.getD_some,Option.isSome_some]at ca cb
    have hc:=True.intro
    cases p with
    |true=>
     cases q with
     |true=>
      simp(disch:=first|assumption|omega)only[W_block,P3,seval,initFr,clsA,st_mget,ca,cb,gx,st_callvy]
      refine yieldK (hy _ _ jX1) ?_
      rintro _ X2 ⟨rfl,y1,y2⟩
      obtain⟨jX2,c2⟩:=y2 rfl
      simp(disch:=first|assumption|omega)only[W_block,P3,seval,initFr,clsA,hw1]
      exact hn _ _ _ (nxt X2 jX2 c2 (by rw[pdef];first|rfl|(rw[hc];rfl)|(simp only[hc];simp)) _ _ _ _ _ _ _ _ _ _ _ _ _ _ _) (by omega)
     |false=>
      simp(disch:=first|assumption|omega)only[W_block,P3,seval,initFr,clsA,st_mget,ca,cb,gx,st_callvy]
      refine yieldK (hy _ _ jX1) ?_
      rintro _ X2 ⟨rfl,y1,y2⟩
      simp(disch:=first|assumption|omega)only[W_block,P3,seval,initFr,clsA]
      exact hret _ _ (stop (bad (by rw[pdef];first|rfl|(rw[hc];rfl)|(simp only[hc];simp))) (y1 rfl))
    |false=>
     cases q with
     |true=>
      simp(disch:=first|assumption|omega)only[W_block,P3,seval,initFr,clsA,st_mget,ca,cb,gx,st_callvy]
      refine yieldK (hy _ _ jX1) ?_
      rintro _ X2 ⟨rfl,y1,y2⟩
      simp(disch:=first|assumption|omega)only[W_block,P3,seval,initFr,clsA]
      exact hret _ _ (stop (bad (by rw[pdef];first|rfl|(rw[hc];rfl)|(simp only[hc];simp))) (y1 rfl))
     |false=>
      simp(disch:=first|assumption|omega)only[W_block,P3,seval,initFr,clsA,st_mget,ca,cb,gx,st_callvy]
      refine yieldK (hy _ _ jX1) ?_
      rintro _ X2 ⟨rfl,y1,y2⟩
      obtain⟨jX2,c2⟩:=y2 rfl
      simp(disch:=first|assumption|omega)only[W_block,P3,seval,initFr,clsA,hw1]
      exact hn _ _ _ (nxt X2 jX2 c2 (by rw[pdef];first|rfl|(rw[hc];rfl)|(simp only[hc];simp)) _ _ _ _ _ _ _ _ _ _ _ _ _ _ _) (by omega)
 ·have h1:¬(j:Int)<((L.p.length:Nat):Int):=by omega
  have:j=L.p.length:=by omega
  subst this
  simp(disch:=first|assumption|omega)only[W_block,P3,seval,initFr,clsA,lp]
  refine hx 2 _ _ ?_
  refine hq1 _ _ ⟨_,rfl,fun e=>?_,fun _=>jX⟩
  simp only[confB,hg,hp,hp2]at e
  cases e
end Go.AM.Fd

set_option maxRecDepth 8000
namespace Go.AM.Fd
open Nat (reduceAdd reduceEqDiff reduceLT reduceLeDiff reduceMul reduceSub)
open Go.Proofs Go.AM.F
theorem resC1(i:Nat)(fr:List Value)(H:AHeap):resO [.c1 i] fr H=cell1 (fr.getD i undef) H:=by
 simp only[resO,resVs,RX.get]
 cases cell1 (fr.getD i undef) H<;>rfl
theorem cell_at{H:AHeap}{b:Nat}{own room:Bool}{T:Nat}{v:Value}(h:H.get b=some (.cells own room 1 [v] T)):cell1 (ptr b 0) H=some v:=by
 rw[cell1p];simp only[cellA,h];rfl
def box3(H:AHeap)(u:V4)(a b:RV):AHeap:=((H.alloc (.cells true false 4 u.l 27)).alloc (.cells true false 6 a.row 87)).alloc (.cells true false 6 b.row 87)
theorem box3_k(H:AHeap)(u:V4)(a b:RV):Keeps H (box3 H u a b):=(((Keeps.refl H).alloc _).alloc _).alloc _
theorem box3_n(H:AHeap)(u:V4)(a b:RV):(box3 H u a b).n=H.n+3:=rfl
theorem box3_l(H:AHeap)(u:V4)(a b:RV):(box3 H u a b).get H.n=some (.cells true false 4 u.l 27):=(((Keeps.refl (H.alloc _)).alloc _).alloc _).at_ (AHeap.get_alloc_new H _)
theorem box3_a(H:AHeap)(u:V4)(a b:RV):(box3 H u a b).get (H.n+1)=some (.cells true false 6 a.row 87):=((Keeps.refl ((H.alloc (.cells true false 4 u.l 27)).alloc _)).alloc _).at_ (AHeap.get_alloc_new (H.alloc _) _)
theorem box3_b(H:AHeap)(u:V4)(a b:RV):(box3 H u a b).get (H.n+2)=some (.cells true false 6 b.row 87):=AHeap.get_alloc_new ((H.alloc _).alloc _) _
theorem RV.ones{H:AHeap}{x:RV}(h:x.ok H):x.vp.oneCell'=true∧x.vq.oneCell'=true∧x.vo.oneCell'=true∧x.vf.oneCell'=true:=⟨Sl.one h.p,Sl.one h.q,Sl.one h.o,Sl.one h.f⟩
theorem t105{H:AHeap}{u:V4}{xs:List RV}{L:Ly}{a b:RV}(h:LyR H u xs L)(oa:a.ok H)(ob:b.ok H):
 ∃w H',ARun Tryz.prog 0 105 [.agg u.l.toArray,.agg a.row.toArray,.agg b.row.toArray] H w H'∧w=.func (.func 127) #[] #[ptr (H.n+1) 0,ptr (H.n+2) 0,ptr H.n 0]∧H'=box3 H u a b:=by
 refine walk2 f105_ok f105_n ?_
 intro Q hq1 hq2
 have os:=Sl.one h.s
 have op:=Sl.one h.p
 have og:=Sl.one h.g
 have or:=Sl.one h.r
 obtain⟨a3,a4,a5,a6⟩:=RV.ones oa
 obtain⟨b3,b4,b5,b6⟩:=RV.ones ob
 have a1:one1 (Value.int .i64 a.r.g)=True:=by simp[one1,one_int]
 have a2:one1 (Value.string ⟨a.r.n.toArray⟩)=True:=by simp[one1,one_str]
 have b1:one1 (Value.int .i64 b.r.g)=True:=by simp[one1,one_int]
 have b2:one1 (Value.string ⟨b.r.n.toArray⟩)=True:=by simp[one1,one_str]
 have rowa:a.row=[.string ⟨a.r.n.toArray⟩,.int .i64 a.r.g,a.vp,a.vq,a.vo,a.vf]:=rfl
 have rowb:b.row=[.string ⟨b.r.n.toArray⟩,.int .i64 b.r.g,b.vp,b.vq,b.vo,b.vf]:=rfl
 unfold box3 at hq1 hq2
 simp only[V4.l,rowa,rowb]at*
 simp(disch:=first|assumption|omega)only[f105,W_block,P3,seval,initFr,clsA,os,op,og,or,a1,a2,a3,a4,a5,a6,b1,b2,b3,b4,b5,b6]
 exact hq2 _ _ ⟨_,rfl,rfl,rfl⟩
structure CJ (K:AHeap) (L:LRec) (X:AHeap):Prop where
 keep:Keeps K X
 rec_:X.get K.n=some (.loop true .ready none L)
structure CX (H:AHeap) (vb rb:Nat) (L:LRec) (X:AHeap):Prop where
 keep:Keeps H X
 var:X.get vb=some (.cells true false 1 [.bool true] 4)
 rec_:X.get rb=some (.loop true .done (some .ret) L)
theorem CJ.round{H K:AHeap}{vb:Nat}{x0 x1 x2 x3 x4 x5 x7 x8 x9 x10:Value}{X:AHeap}(hvH:H.n≤vb)(hv:vb<K.n)(hHK:Keeps H K)(gv:K.get vb=some (.cells true false 1 [.bool false] 4))(v:Bool)
 (h:CJ K ⟨14,[0,1,2,3,4,5,6,7,11,12,13],[x0,x1,x2,x3,x4,x5,ptr vb 0,x7,x8,x9,x10],#[12],rfA Tryz.prog 67 0,rfB Tryz.prog 67 0⟩ X):
 ∃w H',AYield Tryz.prog 0 K.n [.bool v] X w H'∧w=.bool (!v)∧(v=true→CX H vb K.n ⟨14,[0,1,2,3,4,5,6,7,11,12,13],[x0,x1,x2,x3,x4,x5,ptr vb 0,x7,x8,x9,x10],#[12],rfA Tryz.prog 67 0,rfB Tryz.prog 67 0⟩ H')∧
  (v=false→CJ K ⟨14,[0,1,2,3,4,5,6,7,11,12,13],[x0,x1,x2,x3,x4,x5,ptr vb 0,x7,x8,x9,x10],#[12],rfA Tryz.prog 67 0,rfB Tryz.prog 67 0⟩ H'∧Chg [K.n] X H'):=by
 obtain⟨L,hL⟩:∃L:LRec,(⟨14,[0,1,2,3,4,5,6,7,11,12,13],[x0,x1,x2,x3,x4,x5,ptr vb 0,x7,x8,x9,x10],#[12],rfA Tryz.prog 67 0,rfB Tryz.prog 67 0⟩:LRec)=L:=⟨_,rfl⟩
 refine yield_of (R:=fun w H'=>w=.bool (!v)∧(v=true→CX H vb K.n _ H')∧(v=false→CJ K _ H'∧Chg [K.n] X H')) h.rec_ f67r0a_ok f67r0b_ok f67r0_n rfl rfl ?_
 show W Tryz.prog 0 f67r0a _ [x0,x1,x2,x3,x4,x5,ptr vb 0,x7,x8,.bool v,x10] X
 rw[hL]at h ⊢
 have hrl:=AHeap.get_lt h.rec_
 simp(disch:=first|assumption|omega)only[f67r0a,W_block,P3,seval,initFr,clsA]
 refine⟨none,L,h.rec_,?_⟩
 obtain⟨X1,hX1⟩:∃Y,Y=X.set K.n (.loop true .busy none L):=⟨_,rfl⟩
 have n1:X1.n=X.n:=by rw[hX1];rfl
 have c1:Chg [K.n] X X1:=by rw[hX1];exact Chg.set X hrl _
 have gr1:X1.get K.n=some (.loop true .busy none L):=by rw[hX1];exact AHeap.get_set_same h.rec_ _
 have k1:Keeps K X1:=h.keep.chg_trans c1 (by simp)
 have gv1:=k1.at_ gv
 rw[←hX1]
 cases v with
 |true=>
  simp(disch:=first|assumption|omega)only[f67r0b,W_block,P3,seval,initFr,clsA,gv1]
  have hvl:=AHeap.get_lt gv1
  have c2:Chg [vb] X1 (X1.set vb (.cells true false 1 [.bool true] 4)):=Chg.set X1 hvl _
  have gr2:=c2.at_ gr1 (by simp;omega)
  unfold roundQ
  rw[gr2]
  refine⟨rfl,fun _=>⟨?_,?_,AHeap.get_set_same gr2 _⟩,fun e=>by cases e⟩
  ·exact(((hHK.trans k1).chg_trans c2 (by simp;omega)).set (by have:=hHK.n;omega) (by show K.n<X1.n;omega) _)
  ·rw[AHeap.get_set_other _ (by omega) (by show K.n<X1.n;omega)]
   exact AHeap.get_set_same gv1 _
 |false=>
  simp(disch:=first|assumption|omega)only[f67r0b,W_block,P3,seval,initFr,clsA]
  unfold roundQ
  rw[gr1]
  have c2:Chg [K.n] X1 (X1.set K.n (.loop true .ready none L)):=Chg.set X1 (by omega) _
  refine⟨rfl,fun e=>(by cases e),fun _=>⟨⟨k1.chg_trans c2 (by simp),AHeap.get_set_same gr1 _⟩,c1.trans c2 (by simp)⟩⟩
set_option maxHeartbeats 1000000 in
theorem t67{H:AHeap}{u:V4}{xs:List RV}{L:Ly}{a b:RV}(h:LyR H u xs L)(oa:a.ok H)(ob:b.ok H)(la:RoLim L a.r)(lb:RoLim L b.r)(hL:LyLim L):
 ∃w H',ARun Tryz.prog 0 67 [.agg u.l.toArray,.agg a.row.toArray,.agg b.row.toArray] H w H'∧w=.bool (confB L a.r b.r)∧H'=H:=by
 suffices h':∃w H',ARun Tryz.prog 0 67 [.agg u.l.toArray,.agg a.row.toArray,.agg b.row.toArray] H w H'∧w=.bool (confB L a.r b.r)∧Keeps H H' by
  obtain⟨_,_,r,rfl,k⟩:=h'
  exact⟨_,_,r.gc0 k (.inr (.bool _)),rfl,rfl⟩
 refine walk2 f67_ok f67_n ?_
 intro Q hq1 hq2
 have os:=Sl.one h.s
 have op:=Sl.one h.p
 have og:=Sl.one h.g
 have or:=Sl.one h.r
 obtain⟨a3,a4,a5,a6⟩:=RV.ones oa
 obtain⟨b3,b4,b5,b6⟩:=RV.ones ob
 have a1:one1 (Value.int .i64 a.r.g)=True:=by simp[one1,one_int]
 have a2:one1 (Value.string ⟨a.r.n.toArray⟩)=True:=by simp[one1,one_str]
 have b1:one1 (Value.int .i64 b.r.g)=True:=by simp[one1,one_int]
 have b2:one1 (Value.string ⟨b.r.n.toArray⟩)=True:=by simp[one1,one_str]
 have rowa:a.row=[.string ⟨a.r.n.toArray⟩,.int .i64 a.r.g,a.vp,a.vq,a.vo,a.vf]:=rfl
 have rowb:b.row=[.string ⟨b.r.n.toArray⟩,.int .i64 b.r.g,b.vp,b.vq,b.vo,b.vf]:=rfl
 have hul:u.l=[u.s,u.p,u.g,u.r]:=rfl
 obtain⟨K0,hK0⟩:∃X,X=(box3 H u a b).alloc (.cells true false 1 [.bool false] 4):=⟨_,rfl⟩
 have k0:Keeps H K0:=by rw[hK0];exact(box3_k H u a b).alloc _
 have n0:K0.n=H.n+4:=by rw[hK0];rfl
 have gv0:K0.get (H.n+3)=some (.cells true false 1 [.bool false] 4):=by rw[hK0];exact AHeap.get_alloc_new (box3 H u a b) _
 have tR:=t105 (h.keeps k0) (oa.keeps k0) (ob.keeps k0)
 have hK0':=hK0
 unfold box3 at hK0'
 simp only[hul,rowa,rowb]at tR hK0' ⊢
 simp(disch:=first|assumption|omega|(simp only[LN]<;>omega)|(simp(disch:=first|assumption|omega|(simp only[LN]<;>omega))only[row_alloc,row_set];assumption))only[f67,W_block,P3,seval,initFr,clsA,os,op,og,or,a1,a2,a3,a4,a5,a6,b1,b2,b3,b4,b5,b6]
 simp only[←hK0']
 refine callK tR ?_
 rintro _ K ⟨rfl,hK⟩
 have k1:Keeps K0 K:=by rw[hK];exact box3_k _ _ _ _
 have n1:K.n=H.n+7:=by rw[hK,box3_n,n0]
 have kH:Keeps H K:=k0.trans k1
 have gvK:=k1.at_ gv0
 simp(disch:=first|assumption|omega)only[W_block,P3,seval,initFr,clsA]
 refine W_rangeF rfl (bodied_of (by kernel_rfl)) ?_
 obtain⟨L0,hL0⟩:∃L:LRec,L=⟨14,[0,1,2,3,4,5,6,7,11,12,13],[.agg #[u.s,u.p,u.g,u.r],.agg #[.string ⟨a.r.n.toArray⟩,.int .i64 a.r.g,a.vp,a.vq,a.vo,a.vf],.agg #[.string ⟨b.r.n.toArray⟩,.int .i64 b.r.g,b.vp,b.vq,b.vo,b.vf],
  ptr H.n 0,ptr (H.n+1) 0,ptr (H.n+2) 0,ptr (H.n+3) 0,undef,.func (.func 127) #[] #[ptr (K0.n+1) 0,ptr (K0.n+2) 0,ptr K0.n 0],undef,undef],#[12],rfA Tryz.prog 67 0,rfB Tryz.prog 67 0⟩:=⟨_,rfl⟩
 have kL:=(Keeps.refl K).alloc (.loop true .ready none L0)
 have j0:CJ K L0 (K.alloc (.loop true .ready none L0)):=⟨kL,AHeap.get_alloc_new K _⟩
 have gl1:=box3_l K0 u a b
 have ga1:=box3_a K0 u a b
 have gb1:=box3_b K0 u a b
 rw[←hK]at gl1 ga1 gb1
 have rd:∀X v,CJ K L0 X→∃w H',AYield Tryz.prog 0 K.n [.bool v] X w H'∧w=.bool (!v)∧(v=true→CX H (H.n+3) K.n L0 H')∧(v=false→CJ K L0 H'∧Chg [K.n] X H'):=by
  rw[hL0]
  intro X v hJ
  exact hJ.round (by omega) (by omega) kH gvK v
 obtain⟨w,X,r,r1,r2⟩:=t127 (u:=u) (xs:=xs) (L:=L) (a:=a) (b:=b) (CJ K L0) (CX H (H.n+3) K.n L0) (rb:=K.n) (pa:=K0.n+1) (pb:=K0.n+2) (pl:=K0.n) la lb hL
  (fun X hJ=>⟨AHeap.get_lt hJ.rec_,hJ.keep.at_ ga1,hJ.keep.at_ gb1,hJ.keep.at_ gl1,h.keeps (kH.trans hJ.keep),oa.keeps (kH.trans hJ.keep),ob.keeps (kH.trans hJ.keep)⟩)
  (fun X Y hJ k=>⟨hJ.keep.trans k,k.at_ hJ.rec_⟩) rd j0
 rw[hL0]at r r1 r2
 refine⟨w,X,r,?_⟩
 cases hc:confB L a.r b.r with
 |true=>
  obtain⟨q1,q2,q3⟩:=r1 hc
  have hrl:=AHeap.get_lt q3
  refine afterR_ret q3 ?_
  have gv:(X.set K.n .dead).get (H.n+3)=some (.cells true false 1 [.bool true] 4):=by rw[AHeap.get_set_other X (by omega) hrl];exact q2
  refine hq2 _ _ ⟨.bool true,?_,by rw[hc],q1.set (by omega) hrl _⟩
  show resO [.c1 6] _ _=_
  rw[resC1]
  exact cell_at gv
 |false=>
  obtain⟨q1,q2⟩:=r2 hc
  have hrl:=AHeap.get_lt q2
  refine afterR_ready q2 ?_
  have gv:(X.set K.n .dead).get (H.n+3)=some (.cells true false 1 [.bool false] 4):=by rw[AHeap.get_set_other X (by omega) hrl];exact q1.at_ gvK
  simp(disch:=first|assumption|omega)only[W_block,P3,seval,initFr,clsA,gv]
  have hvl:=AHeap.get_lt gv
  refine hq2 _ _ ⟨.bool false,?_,by rw[hc],((kH.trans q1).set (by omega) hrl _).set (by omega) hvl _⟩
  show resO [.c1 6] _ _=_
  rw[resC1]
  exact cell_at (AHeap.get_set_same gv _)
end Go.AM.Fd

namespace Go.AM.Fd
open Go.Proofs Go.AM.F
def bitsN(p:Nat→Bool):Nat→Nat
 |0=>0
 |n+1=>bitsN p n|||(if p n then 2 ^ n else 0)
theorem bitsN_t(p:Nat→Bool)(m:Nat):∀n,(bitsN p n).testBit m=(decide (m<n)&&p m)
 |0=>by simp[bitsN]
 |n+1=>by
  rw[bitsN,Nat.testBit_or,bitsN_t p m n]
  by_cases h:m=n
  ·subst h
   cases hp:p m<;>simp[Nat.testBit_two_pow]
  ·cases hp:p n
   ·simp only[Bool.false_eq_true,if_false,Nat.zero_testBit,Bool.or_false]
    congr 1
    by_cases h2:m<n
    ·simp[h2];omega
    ·have:¬m<n+1:=by omega
     simp[h2,this]
   ·simp only[if_true,Nat.testBit_two_pow]
    have e:decide (n=m)=false:=by simp;omega
    rw[e,Bool.or_false]
    congr 1
    by_cases h2:m<n
    ·simp[h2];omega
    ·have:¬m<n+1:=by omega
     simp[h2,this]
theorem bitsN_lt(p:Nat→Bool)(n:Nat):bitsN p n<2 ^ n:=Nat.lt_pow_two_of_testBit _ (fun i hi=>by rw[bitsN_t];simp;omega)
theorem bits_ext{p q:Nat→Bool}{n:Nat}(h:∀m,m<n→p m=q m):bitsN p n=bitsN q n:=by
 apply Nat.eq_of_testBit_eq
 intro i
 rw[bitsN_t,bitsN_t]
 by_cases hi:i<n
 ·rw[h i hi]
 ·simp[hi]
theorem bits_of{x n:Nat}(h:x<2 ^ n):bitsN (fun i=>x.testBit i) n=x:=by
 apply Nat.eq_of_testBit_eq
 intro i
 rw[bitsN_t]
 by_cases hi:i<n
 ·simp[hi]
 ·have:x.testBit i=false:=Nat.testBit_lt_two_pow (Nat.lt_of_lt_of_le h (Nat.pow_le_pow_right (by omega) (by omega)))
  simp[hi,this]
abbrev U:Nat:=18446744073709551616
theorem uU:U=2 ^ 64:=rfl
theorem bits_u(p:Nat→Bool){n:Nat}(hn:n≤64):bitsN p n<U:=Nat.lt_of_lt_of_le (bitsN_lt p n) (Nat.pow_le_pow_right (by omega) hn)
theorem or_u{a b:Nat}(ha:a<U)(hb:b<U):a|||b<U:=Nat.or_lt_two_pow (n:=64) ha hb
theorem u_shl1{n:Nat}(h:n<64):binA .shl (.int .u64 1) (.int .i64 (n:Int))=some (.int .u64 ((2 ^ n:Nat):Int)):=by
 rw[b_shl .u64 1 (n:Int) .i64 (by omega)]
 have e:min (Int.toNat (n:Int)) IntKind.u64.bits=n:=by
  show min (Int.toNat (n:Int)) 64=n
  omega
 rw[e]
 have:2 ^ n<U:=by rw[uU];exact Nat.pow_lt_pow_right (by omega) h
 have e2:(1:Int)*2 ^ n=((2 ^ n:Nat):Int):=by simp
 rw[e2,wrap_u64]
 have h3:2 ^ n<18446744073709551616:=this
 have h4:((2 ^ n:Nat):Int)<18446744073709551616:=Int.ofNat_lt.2 h3
 rw[Int.emod_eq_of_lt (Int.natCast_nonneg _) h4]
theorem pow_u{n:Nat}(h:n<64):2 ^ n<U:=by rw[uU];exact Nat.pow_lt_pow_right (by omega) h
end Go.AM.Fd

namespace Go.AM.Fd
open Go.Proofs Go.AM.F
def S64(f:Nat→Bool):Value:=.int .u64 (bitsN f 64:Nat)
def S32(f:Nat→Bool):Value:=.int .u32 (bitsN f 32:Nat)
def I1(b:Bool):Value:=.int .u64 (if b then 1 else 0)
def none64(f:Nat→Bool):Bool:=(List.range 64).all fun i=> !f i
def none32(f:Nat→Bool):Bool:=(List.range 32).all fun i=> !f i
theorem bit_and(f g:Nat→Bool)(n:Nat):bitsN f n&&& bitsN g n=bitsN (fun i=>f i&&g i) n:=by
 apply Nat.eq_of_testBit_eq;intro i
 rw[Nat.testBit_and,bitsN_t,bitsN_t,bitsN_t]
 cases decide (i<n)<;>simp
theorem bit_or(f g:Nat→Bool)(n:Nat):bitsN f n|||bitsN g n=bitsN (fun i=>f i||g i) n:=by
 apply Nat.eq_of_testBit_eq;intro i
 rw[Nat.testBit_or,bitsN_t,bitsN_t,bitsN_t]
 cases decide (i<n)<;>simp
theorem bit_xor(f g:Nat→Bool)(n:Nat):bitsN f n ^^^ bitsN g n=bitsN (fun i=>(f i ^^ g i)) n:=by
 apply Nat.eq_of_testBit_eq;intro i
 rw[Nat.testBit_xor,bitsN_t,bitsN_t,bitsN_t]
 cases decide (i<n)<;>simp
theorem bit_pow{k n:Nat}(h:k<n):2 ^ k=bitsN (fun i=>decide (i=k)) n:=by
 apply Nat.eq_of_testBit_eq;intro i
 rw[Nat.testBit_two_pow,bitsN_t]
 by_cases e:i=k
 ·subst e;simp[h]
 ·have:¬k=i:=fun x=>e x.symm
  simp[e,this]
theorem bit_0(n:Nat):bitsN (fun _=>false) n=0:=by
 apply Nat.eq_of_testBit_eq;intro i
 rw[bitsN_t];simp
theorem bit_shr(f:Nat→Bool)(n k:Nat):bitsN f n / 2 ^ k=bitsN (fun i=>decide (i+k<n)&&f (i+k)) n:=by
 apply Nat.eq_of_testBit_eq;intro i
 rw[Nat.testBit_div_two_pow,bitsN_t,bitsN_t]
 by_cases h:i+k<n
 ·have:i<n:=by omega
  simp[h,this]
 ·simp[h]
theorem bit_eq0(f:Nat→Bool)(n:Nat):(((bitsN f n:Nat):Int)==0)=(List.range n).all fun i=> !f i:=by
 rw[Bool.eq_iff_iff,List.all_eq_true,beq_iff_eq]
 constructor
 ·intro h i hi
  have h2:bitsN f n=0:=by omega
  have:=bitsN_t f i n
  rw[h2]at this
  simp[List.mem_range.1 hi]at this
  simp[this]
 ·intro h
  have:bitsN f n=0:=by
   rw[←bit_0 n]
   exact bits_ext fun m hm=>by have:=h m (List.mem_range.2 hm);simpa using this
  omega
theorem bv_u64(f:Nat→Bool):BitVec.ofInt IntKind.u64.bits ((bitsN f 64:Nat):Int)=BitVec.ofNat 64 (bitsN f 64):=by
 show BitVec.ofInt 64 _=_
 rw[BitVec.ofInt_natCast]
theorem bv_u32(f:Nat→Bool):BitVec.ofInt IntKind.u32.bits ((bitsN f 32:Nat):Int)=BitVec.ofNat 32 (bitsN f 32):=by
 show BitVec.ofInt 32 _=_
 rw[BitVec.ofInt_natCast]
theorem w64(n:Nat)(h:n<2 ^ 64):IntKind.u64.wrap (n:Int)=(n:Int):=by
 rw[wrap_u64]
 have:n<18446744073709551616:=h
 omega
theorem w32(n:Nat)(h:n<2 ^ 32):IntKind.u32.wrap (n:Int)=(n:Int):=by
 rw[wrap_u32]
 have:n<4294967296:=h
 omega
theorem m64(f:Nat→Bool):bitsN f 64 % 2 ^ 64=bitsN f 64:=Nat.mod_eq_of_lt (bitsN_lt f 64)
theorem m32(f:Nat→Bool):bitsN f 32 % 2 ^ 32=bitsN f 32:=Nat.mod_eq_of_lt (bitsN_lt f 32)
theorem s_and(f g:Nat→Bool):binA .and (S64 f) (S64 g)=some (S64 fun i=>f i&&g i):=by
 unfold S64;rw[b_and,bv_u64,bv_u64]
 show some (Value.int _ (IntKind.u64.wrap ((BitVec.ofNat 64 (bitsN f 64)&&& BitVec.ofNat 64 (bitsN g 64)).toNat:Int)))=_
 rw[BitVec.toNat_and,BitVec.toNat_ofNat,BitVec.toNat_ofNat,m64,m64,bit_and,w64 _ (bitsN_lt _ _)]
theorem s_or(f g:Nat→Bool):binA .or (S64 f) (S64 g)=some (S64 fun i=>f i||g i):=by
 unfold S64;rw[b_or,bv_u64,bv_u64]
 show some (Value.int _ (IntKind.u64.wrap ((BitVec.ofNat 64 (bitsN f 64)|||BitVec.ofNat 64 (bitsN g 64)).toNat:Int)))=_
 rw[BitVec.toNat_or,BitVec.toNat_ofNat,BitVec.toNat_ofNat,m64,m64,bit_or,w64 _ (bitsN_lt _ _)]
theorem b_andn(k:IntKind)(a b:Int):binA .andNot (.int k a) (.int k b)=some (.int k (k.wrap (BitVec.ofInt k.bits a&&& ~~~ BitVec.ofInt k.bits b).toNat)):=by simp[binA,intA]
theorem bv_andn{w:Nat}(f g:Nat→Bool):(BitVec.ofNat w (bitsN f w)&&& ~~~ BitVec.ofNat w (bitsN g w)).toNat=bitsN (fun i=>f i&& !g i) w:=by
 apply Nat.eq_of_testBit_eq;intro i
 rw[BitVec.testBit_toNat,bitsN_t]
 by_cases h:i<w
 ·simp only[BitVec.getLsbD_and,BitVec.getLsbD_not,BitVec.getLsbD_ofNat,bitsN_t,h,decide_true,Bool.true_and]
 ·simp[h,BitVec.getLsbD_of_ge,Nat.le_of_not_lt h]
theorem s_andn(f g:Nat→Bool):binA .andNot (S64 f) (S64 g)=some (S64 fun i=>f i&& !g i):=by
 unfold S64;rw[b_andn,bv_u64,bv_u64]
 have:=bv_andn (w:=64) f g
 show some (Value.int _ (IntKind.u64.wrap ((BitVec.ofNat 64 (bitsN f 64)&&& ~~~ BitVec.ofNat 64 (bitsN g 64)).toNat:Int)))=_
 rw[this,w64 _ (bitsN_lt _ _)]
theorem p_and(f g:Nat→Bool):binA .and (S32 f) (S32 g)=some (S32 fun i=>f i&&g i):=by
 unfold S32;rw[b_and,bv_u32,bv_u32]
 show some (Value.int _ (IntKind.u32.wrap ((BitVec.ofNat 32 (bitsN f 32)&&& BitVec.ofNat 32 (bitsN g 32)).toNat:Int)))=_
 rw[BitVec.toNat_and,BitVec.toNat_ofNat,BitVec.toNat_ofNat,m32,m32,bit_and,w32 _ (bitsN_lt _ _)]
theorem p_or(f g:Nat→Bool):binA .or (S32 f) (S32 g)=some (S32 fun i=>f i||g i):=by
 unfold S32;rw[b_or,bv_u32,bv_u32]
 show some (Value.int _ (IntKind.u32.wrap ((BitVec.ofNat 32 (bitsN f 32)|||BitVec.ofNat 32 (bitsN g 32)).toNat:Int)))=_
 rw[BitVec.toNat_or,BitVec.toNat_ofNat,BitVec.toNat_ofNat,m32,m32,bit_or,w32 _ (bitsN_lt _ _)]
theorem p_xor(f g:Nat→Bool):binA .xor (S32 f) (S32 g)=some (S32 fun i=>f i ^^ g i):=by
 unfold S32;rw[b_xor,bv_u32,bv_u32]
 show some (Value.int _ (IntKind.u32.wrap ((BitVec.ofNat 32 (bitsN f 32) ^^^ BitVec.ofNat 32 (bitsN g 32)).toNat:Int)))=_
 rw[BitVec.toNat_xor,BitVec.toNat_ofNat,BitVec.toNat_ofNat,m32,m32,bit_xor,w32 _ (bitsN_lt _ _)]
theorem p_andn(f g:Nat→Bool):binA .andNot (S32 f) (S32 g)=some (S32 fun i=>f i&& !g i):=by
 unfold S32;rw[b_andn,bv_u32,bv_u32]
 have:=bv_andn (w:=32) f g
 show some (Value.int _ (IntKind.u32.wrap ((BitVec.ofNat 32 (bitsN f 32)&&& ~~~ BitVec.ofNat 32 (bitsN g 32)).toNat:Int)))=_
 rw[this,w32 _ (bitsN_lt _ _)]
theorem s_zero:Value.int .u64 0=S64 (fun _=>false):=by unfold S64;rw[bit_0];rfl
theorem p_zero:Value.int .u32 0=S32 (fun _=>false):=by unfold S32;rw[bit_0];rfl
theorem s_eq0(f:Nat→Bool):binA .eql (S64 f) (.int .u64 0)=some (.bool (none64 f)):=by
 unfold S64 none64;rw[b_eql,bit_eq0]
theorem s_ne0(f:Nat→Bool):binA .neq (S64 f) (.int .u64 0)=some (.bool (!none64 f)):=by
 unfold S64 none64;rw[b_neq,bne,bit_eq0]
theorem p_eq0(f:Nat→Bool):binA .eql (S32 f) (.int .u32 0)=some (.bool (none32 f)):=by
 unfold S32 none32;rw[b_eql,bit_eq0]
theorem p_ne0(f:Nat→Bool):binA .neq (S32 f) (.int .u32 0)=some (.bool (!none32 f)):=by
 unfold S32 none32;rw[b_neq,bne,bit_eq0]
theorem s_shl1{n:Nat}(h:n<64):binA .shl (.int .u64 1) (.int .i64 (n:Int))=some (S64 fun i=>decide (i=n)):=by
 rw[u_shl1 h,bit_pow h];rfl
theorem p_shl1{n:Nat}(h:n<32):binA .shl (.int .u32 1) (.int .i64 (n:Int))=some (S32 fun i=>decide (i=n)):=by
 rw[b_shl .u32 1 (n:Int) .i64 (by omega)]
 have e:min (Int.toNat (n:Int)) IntKind.u32.bits=n:=by
  show min (Int.toNat (n:Int)) 32=n
  omega
 rw[e]
 have e2:(1:Int)*2 ^ n=((2 ^ n:Nat):Int):=by simp
 rw[e2,w32 _ (Nat.pow_lt_pow_right (by omega) h),bit_pow h];rfl
theorem s_shr(f:Nat→Bool)(n:Nat):binA .shr (S64 f) (.int .i64 (n:Int))=some (S64 fun i=>decide (i+n<64)&&f (i+n)):=by
 unfold S64
 rw[b_shr .u64 _ (n:Int) .i64 (by omega)]
 congr 2
 have e:(2:Int) ^ min (Int.toNat (n:Int)) IntKind.u64.bits=((2 ^ (min n 64):Nat):Int):=by
  have:min (Int.toNat (n:Int)) IntKind.u64.bits=min n 64:=by show min (Int.toNat (n:Int)) 64=min n 64;omega
  rw[this];simp
 rw[e,Int.fdiv_eq_ediv_of_nonneg _ (Int.natCast_nonneg _),←Int.natCast_ediv,bit_shr]
 congr 1
 apply bits_ext
 intro m hm
 by_cases h:n≤64
 ·rw[Nat.min_eq_left h]
 ·have h1:¬m+n<64:=by omega
  have h2:¬m+min n 64<64:=by omega
  simp[h1,h2]
theorem p_shr(f:Nat→Bool)(n:Nat):binA .shr (S32 f) (.int .i64 (n:Int))=some (S32 fun i=>decide (i+n<32)&&f (i+n)):=by
 unfold S32
 rw[b_shr .u32 _ (n:Int) .i64 (by omega)]
 congr 2
 have e:(2:Int) ^ min (Int.toNat (n:Int)) IntKind.u32.bits=((2 ^ (min n 32):Nat):Int):=by
  have:min (Int.toNat (n:Int)) IntKind.u32.bits=min n 32:=by show min (Int.toNat (n:Int)) 32=min n 32;omega
  rw[this];simp
 rw[e,Int.fdiv_eq_ediv_of_nonneg _ (Int.natCast_nonneg _),←Int.natCast_ediv,bit_shr]
 congr 1
 apply bits_ext
 intro m hm
 by_cases h:n≤32
 ·rw[Nat.min_eq_left h]
 ·have h1:¬m+n<32:=by omega
  have h2:¬m+min n 32<32:=by omega
  simp[h1,h2]
theorem bit_1(n:Nat)(f:Nat→Bool)(h:0<n):bitsN f n&&& 1=if f 0 then 1 else 0:=by
 apply Nat.eq_of_testBit_eq;intro i
 have e:(1:Nat).testBit i=decide (i=0):=by
  have:=Nat.testBit_two_pow (n:=0) (m:=i)
  rw[Nat.pow_zero]at this
  rw[this];simp[eq_comm]
 rw[Nat.testBit_and,bitsN_t,e]
 by_cases h2:i=0
 ·subst h2
  cases hf:f 0<;>simp[h]
 ·cases hf:f 0<;>simp[h2,e]
theorem s_and1(f:Nat→Bool):binA .and (S64 f) (.int .u64 1)=some (I1 (f 0)):=by
 unfold S64 I1
 rw[b_and,bv_u64]
 have e1:BitVec.ofInt IntKind.u64.bits 1=BitVec.ofNat 64 1:=rfl
 rw[e1]
 show some (Value.int _ (IntKind.u64.wrap ((BitVec.ofNat 64 (bitsN f 64)&&& BitVec.ofNat 64 1).toNat:Int)))=_
 rw[BitVec.toNat_and,BitVec.toNat_ofNat,BitVec.toNat_ofNat,m64]
 have e2:1 % 2 ^ 64=1:=by decide
 rw[e2,bit_1 64 f (by omega)]
 cases f 0<;>rfl
theorem i1_eq(b:Bool):binA .eql (I1 b) (.int .u64 1)=some (.bool b):=by cases b<;>rfl
theorem s_up(f:Nat→Bool)(H:AHeap):asem (.i2i .u64 (S32 f)) H=some (S64 (fun i=>decide (i<32)&&f i),H):=by
 unfold S32 S64
 rw[a_i2i,w64 _ (Nat.lt_of_lt_of_le (bitsN_lt f 32) (Nat.pow_le_pow_right (by omega) (by omega)))]
 congr 4
 apply Nat.eq_of_testBit_eq;intro i
 rw[bitsN_t,bitsN_t]
 by_cases h:i<32
 ·have:i<64:=by omega
  simp[h,this]
 ·simp[h]
theorem s_down(f:Nat→Bool)(H:AHeap):asem (.i2i .u32 (S64 f)) H=some (S32 f,H):=by
 unfold S32 S64
 rw[a_i2i,wrap_u32]
 congr 3
 have e:((bitsN f 64:Nat):Int) % 4294967296=((bitsN f 64 % 2 ^ 32:Nat):Int):=by omega
 rw[e]
 congr 1
 apply Nat.eq_of_testBit_eq;intro i
 rw[Nat.testBit_mod_two_pow,bitsN_t,bitsN_t]
 by_cases h:i<32
 ·have:i<64:=by omega
  simp[h,this]
 ·simp[h]
theorem o_s64(f:Nat→Bool):one1 (S64 f)=True:=by simp[S64,one1,one_int]
theorem o_s32(f:Nat→Bool):one1 (S32 f)=True:=by simp[S32,one1,one_int]
theorem o_i1(b:Bool):one1 (I1 b)=True:=by simp[I1,one1,one_int]
theorem one_s64(f:Nat→Bool):(S64 f).oneCell'=true:=rfl
theorem one_s32(f:Nat→Bool):(S32 f).oneCell'=true:=rfl
theorem s64_of{x:Int}(h:0≤x)(h2:x<18446744073709551616):∃f,Value.int .u64 x=S64 f:=by
 refine⟨fun i=>x.toNat.testBit i,?_⟩
 unfold S64
 rw[bits_of (by omega:x.toNat<2 ^ 64)]
 congr 1;omega
theorem s32_of{x:Int}(h:0≤x)(h2:x<4294967296):∃f,Value.int .u32 x=S32 f:=by
 refine⟨fun i=>x.toNat.testBit i,?_⟩
 unfold S32
 rw[bits_of (by omega:x.toNat<2 ^ 32)]
 congr 1;omega
theorem s64_ext{f g:Nat→Bool}(h:∀i,i<64→f i=g i):S64 f=S64 g:=by unfold S64;rw[bits_ext h]
theorem s32_ext{f g:Nat→Bool}(h:∀i,i<32→f i=g i):S32 f=S32 g:=by unfold S32;rw[bits_ext h]
theorem gci{P:Program}{ng:Nat}{f:FuncId}{xs:List Value}{H:AHeap}{k:IntKind}{n:Int}(h:∃w H',ARun P ng f xs H w H'∧w=.int k n∧Keeps H H'):∃w H',ARun P ng f xs H w H'∧w=.int k n∧H'=H:=by
 obtain⟨_,_,a,rfl,k⟩:=h
 exact⟨_,_,a.gc0 k (.inr (.int _ _)),rfl,rfl⟩
end Go.AM.Fd

namespace Go.AM.Fd
open Go.Proofs Go.AM.F
def ro(L:Ly)(i:Nat):Ro:=L.r.getD i rv0.r
def cf(L:Ly)(i k:Nat):Bool:=confB L (ro L i) (ro L k)
def dn(i k a b:Nat):Bool:=decide (a<i)||(decide (a=i)&&decide (b<k))
def tb_(L:Ly)(i k j m:Nat):Bool:=(decide (m<j)&&dn i k j m&&cf L j m)||(decide (j<m)&&dn i k m j&&cf L m j)
def tR(L:Ly)(i k j:Nat):Nat:=bitsN (tb_ L i k j) 64
theorem tR_next(L:Ly)(i j:Nat):tR L i i j=tR L (i+1) 0 j:=by
 apply bits_ext
 intro m hm
 unfold tb_ dn
 by_cases h1:m<j
 ·have h2:¬j<m:=by omega
  simp only[h1,h2,decide_true,decide_false,Bool.true_and,Bool.false_and,Bool.or_false]
  congr 1
  by_cases h3:j<i
  ·have:j<i+1:=by omega
   simp[h3,this]
  ·by_cases h4:j=i
   ·subst h4;simp[h1]
   ·have:¬j<i+1:=by omega
    simp[h3,h4,this]
 ·by_cases h2:j<m
  ·simp only[h1,h2,decide_true,decide_false,Bool.true_and,Bool.false_and,Bool.false_or]
   congr 1
   by_cases h3:m<i
   ·have:m<i+1:=by omega
    simp[h3,this]
   ·by_cases h4:m=i
    ·subst h4;simp[h2]
    ·have:¬m<i+1:=by omega
     simp[h3,h4,this]
  ·simp[h1,h2]
theorem tb_step(L:Ly){i k j:Nat}(hk:k<i):∀m,tb_ L i (k+1) j m=(tb_ L i k j m||(decide (j=i)&&decide (m=k)&&cf L i k)||(decide (j=k)&&decide (m=i)&&cf L i k)):=by
 intro m
 unfold tb_ dn
 by_cases e1:j=i
 ·subst e1
  by_cases e2:m=k
  ·subst e2
   have a1:¬j<m:=by omega
   simp[hk,a1]
  ·have a1:decide (m<k+1)=decide (m<k):=by by_cases h:m<k<;>simp[h]<;>omega
   have a2:¬j=k:=by omega
   by_cases h:j<m
   ·have:¬m<j:=by omega
    have:¬m=j:=by omega
    simp[*]
   ·simp[*]
 ·by_cases e3:j=k
  ·subst e3
   by_cases e4:m=i
   ·subst e4
    have a1:¬m<j:=by omega
    simp[hk,a1];try omega
   ·simp[e1,e4]
  ·have a2:decide (j<k+1)=decide (j<k):=by by_cases h:j<k<;>simp[h]<;>omega
   simp[e1,e3,a2]
theorem any_comm{l k:List Int}:(l.any fun s=>k.contains s)=k.any fun s=>l.contains s:=by
 rw[Bool.eq_iff_iff]
 simp only[List.any_eq_true,List.contains_iff_mem]
 exact⟨fun⟨x,a,b⟩=>⟨x,b,a⟩,fun⟨x,a,b⟩=>⟨x,b,a⟩⟩
theorem conf_comm(L:Ly)(a b:Ro):confB L a b=confB L b a:=by
 have h1:(a.g==b.g)=(b.g==a.g):=by rw[Bool.eq_iff_iff];simp only[beq_iff_eq];exact eq_comm
 have h2:∀p,cPt L a b p=cPt L b a p:=by
  intro p
  unfold cPt
  have e:(sideO (p:Int) (nds a)==sideO (p:Int) (nds b))=(sideO (p:Int) (nds b)==sideO (p:Int) (nds a)):=by rw[Bool.eq_iff_iff];simp only[beq_iff_eq];exact eq_comm
  simp only[e]
  congr 1
  generalize(sideO (p:Int) (nds a)).isSome=x
  generalize(sideO (p:Int) (nds b)).isSome=y
  generalize(trk b).contains _=u
  generalize(trk a).contains _=v
  cases x<;>cases y<;>cases u<;>cases v<;>rfl
 unfold confB
 rw[h1,any_comm,funext h2]
def tabR(L:Ly)(j:Nat):Nat:=bitsN (fun m=>decide (m≠j)&&cf L j m) L.r.length
theorem tR_end(L:Ly){j:Nat}(hj:j<L.r.length)(hl:L.r.length≤64):tR L L.r.length 0 j=tabR L j:=by
 apply Nat.eq_of_testBit_eq
 intro m
 rw[tR,tabR,bitsN_t,bitsN_t]
 unfold tb_ dn
 by_cases h1:m<L.r.length
 ·have h2:m<64:=by omega
  by_cases h3:m<j
  ·have h5:¬j<m:=by omega
   have h6:¬m=j:=by omega
   simp[h1,h2,h3,h5,h6,hj]
  ·by_cases h4:j<m
   ·have:m≠j:=by omega
    simp only[h1,h2,h3,h4,this,decide_true,decide_false,Bool.true_and,Bool.false_and,Bool.false_or,Bool.true_or,Bool.and_true]
    simp only[cf]
    have h7:¬m=j:=by omega
    rw[conf_comm];simp[h7]
   ·have e:m=j:=by omega
    subst e
    simp
 ·simp only[h1,decide_false,Bool.false_and]
  by_cases h3:m<j
  ·omega
  ·have:¬j<m∨j<m:=by omega
   simp[h1,h3]
def tc(L:Ly)(i k n:Nat):List Value:=(List.range n).map fun j=>S64 (tb_ L i k j)
theorem tc_len(L:Ly)(i k n:Nat):(tc L i k n).length=n:=by simp[tc]
theorem tc_at(L:Ly)(i k:Nat){n j:Nat}(h:j<n):(tc L i k n)[j]? =some (S64 (tb_ L i k j)):=by simp[tc,h]
theorem tc_0(L:Ly)(n:Nat):List.replicate n (.int .u64 0)=tc L 0 0 n:=by
 apply List.ext_getElem?
 intro j
 by_cases h:j<n
 ·rw[tc_at _ _ _ h,List.getElem?_replicate,if_pos h,s_zero]
  congr 1
  exact s64_ext fun m hm=>by simp[tb_,dn]
 ·simp[tc,h]
theorem tc_next(L:Ly)(i n:Nat):tc L i i n=tc L (i+1) 0 n:=by
 unfold tc
 congr 1
 funext j
 have:=tR_next L i j
 unfold tR at this
 unfold S64
 rw[this]
theorem tc_no(L:Ly){i k n:Nat}(hk:k<i)(hc:cf L i k=false):tc L i k n=tc L i (k+1) n:=by
 unfold tc
 congr 1
 funext j
 apply s64_ext
 intro m hm
 rw[tb_step L hk,hc];simp
theorem tc_yes(L:Ly){i k n:Nat}(hk:k<i)(hi:i<n)(hc:cf L i k=true){f g:Nat→Bool}(hf:∀m,f m=(tb_ L i k i m||decide (m=k)))(hg:∀m,g m=(tb_ L i k k m||decide (m=i))):
 ((tc L i k n).set i (S64 f)).set k (S64 g)=tc L i (k+1) n:=by
 apply List.ext_getElem?
 intro j
 rw[List.getElem?_set,List.getElem?_set]
 simp only[List.length_set,tc_len]
 by_cases e1:k=j
 ·subst e1
  have h1:k<n:=by omega
  have h2:¬k=i:=by omega
  rw[if_pos rfl,if_pos h1,tc_at _ _ _ h1]
  congr 1
  apply s64_ext
  intro m hm
  rw[tb_step L hk,hc,hg]
  simp[h2]
 ·rw[if_neg e1]
  by_cases e2:i=j
  ·subst e2
   rw[if_pos rfl,if_pos hi,tc_at _ _ _ hi]
   congr 1
   apply s64_ext
   intro m hm
   have:¬i=k:=by omega
   rw[tb_step L hk,hc,hf]
   simp[this]
  ·rw[if_neg e2]
   by_cases h:j<n
   ·rw[tc_at _ _ _ h,tc_at _ _ _ h]
    congr 1
    apply s64_ext
    intro m hm
    have e3:¬j=k:=fun e=>e1 e.symm
    have e4:¬j=i:=fun e=>e2 e.symm
    rw[tb_step L hk,hc]
    simp[e3,e4]
   ·simp[tc,h]
def tabP(L:Ly)(j m:Nat):Bool:=decide (m<L.r.length)&&(decide (m≠j)&&cf L j m)
def tabC(L:Ly):List Value:=(List.range L.r.length).map fun j=>S64 (tabP L j)
theorem tc_end(L:Ly)(hl:L.r.length≤64):tc L L.r.length 0 L.r.length=tabC L:=by
 apply List.ext_getElem?
 intro j
 by_cases h:j<L.r.length
 ·rw[tc_at _ _ _ h]
  simp only[tabC,List.getElem?_map,List.getElem?_range h,Option.map_some]
  congr 1
  have:=tR_end L h hl
  unfold tR tabR at this
  apply s64_ext
  intro m hm
  have e:=bitsN_t (tb_ L L.r.length 0 j) m 64
  rw[this,bitsN_t]at e
  simp only[hm,decide_true,Bool.true_and]at e
  rw[←e];rfl
 ·simp[tc,tabC,h]
end Go.AM.Fd

set_option maxRecDepth 8000
namespace Go.AM.Fd
open Nat (reduceAdd reduceEqDiff reduceLT reduceLeDiff reduceMul reduceSub)
open Go.Proofs Go.AM.F
theorem ro_eq{L:Ly}{i:Nat}(h:i<L.r.length):ro L i=L.r[i]:=by unfold ro;rw[List.getD_eq_getElem?_getD,List.getElem?_eq_getElem h];rfl
theorem rv_ro{H:AHeap}{u:V4}{xs:List RV}{L:Ly}(h:LyR H u xs L){i:Nat}(hi:i<L.r.length):(xs.getD i rv0).r=ro L i∧(xs.getD i rv0).ok H:=by
 have hl:i<xs.length:=by have:=h.e;rw[←this]at hi;simpa using hi
 have e0:xs.getD i rv0=xs[i]:=by rw[List.getD_eq_getElem?_getD,List.getElem?_eq_getElem hl];rfl
 rw[e0]
 refine⟨?_,h.ok _ (List.getElem_mem hl)⟩
 rw[ro_eq hi]
 have e:=congrArg (fun l:List Ro=>l[i]?) h.e
 simp only[List.getElem?_map,List.getElem?_eq_getElem hl,List.getElem?_eq_getElem hi,Option.map_some]at e
 exact Option.some.inj e
set_option maxHeartbeats 2000000 in
theorem t118{H:AHeap}{u:V4}{xs:List RV}{L:Ly}(h:LyR H u xs L)(hf:LyIn 9223372036854775807 L):
 ∃w H',ARun Tryz.prog 0 118 [.agg u.l.toArray] H w H'∧Keeps H H'∧(checkE L≠0→w=.tuple #[.slice none 0 0,.int .i64 (checkE L)])∧
  (checkE L=0→∃b,w=.tuple #[slc b 0 L.r.length L.r.length,.int .i64 0]∧H.n≤b∧H'.get b=some (.cells true false 1 (tabC L) 39)):=by
 refine walk2 f118_ok f118_n ?_
 intro Q hq1 hq2
 have os:=Sl.one h.s
 have op:=Sl.one h.p
 have og:=Sl.one h.g
 have or:=Sl.one h.r
 have ir:=Sl.is h.r
 have kA:=(Keeps.refl H).alloc (.cells true false 4 u.l 27)
 have gA:=AHeap.get_alloc_new H (.cells true false 4 u.l 27)
 have hA:=h.keeps kA
 have tC:=t30 hA hf
 have hul:u.l=[u.s,u.p,u.g,u.r]:=rfl
 simp only[hul]at kA gA tC hA ⊢
 simp(disch:=first|assumption|omega|(simp only[LN]<;>omega)|(simp(disch:=first|assumption|omega|(simp only[LN]<;>omega))only[row_alloc,row_set];assumption))only[f118,W_block,P3,seval,initFr,clsA,os,op,og,or]
 refine callK tC ?_
 rintro _ X ⟨hX,ie,rfl⟩
 rw[hX]
 by_cases he:checkE L=0
 case neg=>
  have e1:(checkE L != 0)=true:=by simp[he]
  simp(disch:=first|assumption|omega)only[W_block,P3,seval,initFr,clsA,e1]
  exact hq2 _ _ ⟨_,rfl,kA,fun _=>rfl,fun e=>absurd e he⟩
 case pos=>
 have hmay:mayB L=true:=by
  unfold checkE at he
  cases hm:mayB L with
  |true=>rfl
  |false=>rw[hm]at he;cases he
 have hL:=may_lim hmay
 have hrl:=h.rlen
 have hlr:=hL.r
 have e1:(checkE L != 0)=false:=by simp[he]
 obtain⟨K0,hK0⟩:∃X,X=H.alloc (.cells true false 4 [u.s,u.p,u.g,u.r] 27):=⟨_,rfl⟩
 have n0:K0.n=H.n+1:=by rw[hK0];rfl
 rw[←hK0]at kA gA hA
 have lr:=h.r.len
 obtain⟨n,hn⟩:∃n,L.r.length=n:=⟨_,rfl⟩
 have hmk:asem (.mksl 39 1 8 [.int .u64 0] (.int .i64 ((n:Nat):Int)) (.int .i64 ((n:Nat):Int))) K0=some (slc K0.n 0 n n,K0.alloc (.cells true false 1 (tc L 0 0 n) 39)):=by
  simp only[asem]
  rw[if_pos ⟨by omega,by omega,by omega,by omega,rfl,rfl⟩,Int.toNat_natCast,List.flatten_replicate_singleton,tc_0 L]
 rw[hrl,hn]at lr
 have hmk':=hmk
 rw[hK0]at hmk'
 simp(disch:=first|assumption|omega|(simp only[LN]<;>omega)|(simp(disch:=first|assumption|omega|(simp only[LN]<;>omega))only[row_alloc,row_set];assumption))only[P3,seval,initFr,clsA,e1,gA,lr,ir,hmk']
 rw[←hK0]
 have mk0:=(Keeps.refl K0).alloc (.cells true false 1 (tc L 0 0 n) 39)
 have mg0:=AHeap.get_alloc_new K0 (.cells true false 1 (tc L 0 0 n) 39)
 rw[n0]at mg0
 rw[W_block]
 refine W_loop2 (fun q fr M=>∃i x6 x7 x8 x13 x14 x15 x16 x17,fr=[.agg #[u.s,u.p,u.g,u.r],ptr H.n 0,.slice none 0 0,.int .i64 0,.int .i64 (checkE L),slc (H.n+1) 0 n n,x6,x7,x8,.bool false,u.r,.int .i64 ((n:Nat):Int),.int .i64 ((i:Nat):Int),x13,x14,x15,x16,x17]∧
  Keeps K0 M∧M.get (H.n+1)=some (.cells true false 1 (tc L i 0 n) 39)∧i≤n∧q=n-i) n
  ⟨0,_,_,_,_,_,_,_,_,rfl,mk0,mg0,by omega,rfl⟩ ?_
 rintro Q' q fr M ⟨i,x6,x7,x8,x13,x14,x15,x16,x17,rfl,km,gm,hi,rfl⟩ hn' hx' hret
 by_cases hlt:i<n
 ·obtain⟨hyr,hyo⟩:=rv_ro h (i:=i) (by omega)
  obtain⟨na,ra⟩:=(h.r.keeps (kA.trans km)).at_ (i:=i) (by omega)
  have hlim:=may_ro hmay (List.getElem_mem (show i<L.r.length by omega))
  rw[←ro_eq (show i<L.r.length by omega),←hyr]at hlim
  generalize xs.getD i rv0=y at*
  have h0:(0:Int)≤(i:Int):=by omega
  have h1:(i:Int)<((n:Nat):Int):=by omega
  have hw:IntKind.i64.wrap ((i:Int)+1)=((i+1:Nat):Int):=by rw[wrap_i64 (by omega) (by omega)];simp
  have rowy:y.row=[.string ⟨y.r.n.toArray⟩,.int .i64 y.r.g,y.vp,y.vq,y.vo,y.vf]:=rfl
  obtain⟨a3,a4,a5,a6⟩:=RV.ones hyo
  have a1:one1 (Value.int .i64 y.r.g)=True:=by simp[one1,one_int]
  have a2:one1 (Value.string ⟨y.r.n.toArray⟩)=True:=by simp[one1,one_str]
  obtain⟨M1,hM1⟩:∃X,X=M.alloc (.cells true false 6 y.row 87):=⟨_,rfl⟩
  have m1:M1.n=M.n+1:=by rw[hM1];rfl
  have km1:Keeps K0 M1:=by rw[hM1];exact km.alloc _
  have gm1:M1.get (H.n+1)=some (.cells true false 1 (tc L i 0 n) 39):=by rw[hM1];exact((Keeps.refl M).alloc _).at_ gm
  have gy1:M1.get M.n=some (.cells true false 6 y.row 87):=by rw[hM1];exact AHeap.get_alloc_new M _
  have hMn:=AHeap.get_lt gm
  have kmn:=km.n
  simp only[rowy]at ra hM1 gy1
  simp(disch:=first|assumption|omega)only[P3,seval,initFr,clsA,h1]
  rw[W_block]
  simp(disch:=first|assumption|omega|(simp only[LN]<;>omega)|(simp(disch:=first|assumption|omega|(simp only[LN]<;>omega))only[row_alloc,row_set];assumption))only[P3,seval,initFr,clsA,lr,ra,na,a_loadnvf,a1,a2,a3,a4,a5,a6]
  rw[←hM1,W_block]
  refine W_loop2 (fun q fr K=>∃k x8 x16 x17,fr=[.agg #[u.s,u.p,u.g,u.r],ptr H.n 0,.slice none 0 0,.int .i64 0,.int .i64 (checkE L),slc (H.n+1) 0 n n,.int .i64 ((i:Nat):Int),ptr M.n 0,x8,.bool false,u.r,.int .i64 ((n:Nat):Int),.int .i64 ((i:Nat):Int),.bool true,.int .i64 ((i:Nat):Int),.int .i64 ((k:Nat):Int),x16,x17]∧
   Keeps K0 K∧M.n<K.n∧K.get M.n=M1.get M.n∧K.get (H.n+1)=some (.cells true false 1 (tc L i k n) 39)∧k≤i∧q=i-k) i
   ⟨0,_,_,_,rfl,km1,by omega,rfl,gm1,by omega,rfl⟩ ?_
  rintro Q2 q fr K ⟨k,x8,x16,x17,rfl,kk,gn,gy,go,hk,rfl⟩ hn2 hx2 hret2
  by_cases hlk:k<i
  ·obtain⟨hzr,hzo⟩:=rv_ro h (i:=k) (by omega)
   obtain⟨nb,rb⟩:=(h.r.keeps (kA.trans kk)).at_ (i:=k) (by omega)
   have zlim:=may_ro hmay (List.getElem_mem (show k<L.r.length by omega))
   rw[←ro_eq (show k<L.r.length by omega),←hzr]at zlim
   generalize xs.getD k rv0=z at*
   have rowz:z.row=[.string ⟨z.r.n.toArray⟩,.int .i64 z.r.g,z.vp,z.vq,z.vo,z.vf]:=rfl
   have h2:((k:Nat):Int)<((i:Nat):Int):=by omega
   have h3:(0:Int)≤(k:Int):=by omega
   have h4:((k:Nat):Int)<((n:Nat):Int):=by omega
   have hw2:IntKind.i64.wrap ((k:Int)+1)=((k+1:Nat):Int):=by rw[wrap_i64 (by omega) (by omega)];simp
   have gA2:=kk.at_ gA
   have gyk:=gy.trans gy1
   have cC:=t67 ((h.keeps kA).keeps kk) ((hyo.keeps kA).keeps kk) ((hzo.keeps kA).keeps kk) hlim zlim hL
   simp only[rowy,rowz,hul]at cC rb
   simp(disch:=first|assumption|omega|(simp only[LN]<;>omega)|(simp(disch:=first|assumption|omega|(simp only[LN]<;>omega))only[row_alloc,row_set];assumption))only[W_block,P3,seval,initFr,clsA,h2,gA2,gyk,lr,nb,rb,a_loadnvf]
   refine callK cC ?_
   rintro _ X ⟨rfl,hX⟩
   rw[hX]
   rw[hyr,hzr]
   show _
   have hcf:confB L (ro L i) (ro L k)=cf L i k:=rfl
   rw[hcf]
   have hgl:=AHeap.get_lt go
   cases hc:cf L i k with
   |false=>
    simp(disch:=first|assumption|omega)only[W_block,P3,seval,initFr,clsA,hw2]
    rw[tc_no L hlk hc]at go
    exact hn2 _ _ _ ⟨k+1,_,_,_,rfl,kk,gn,gy,go,by omega,rfl⟩ (by omega)
   |true=>
    have t1:=tc_at L i k (show i<n by omega)
    have t2:=tc_at L i k (show k<n by omega)
    have t3:∀v:Value,((tc L i k n).set i v)[k]? =some (S64 (tb_ L i k k)):=fun v=>by rw[List.getElem?_set_ne (by omega),t2]
    have s1:=s_shl1 (show i<64 by omega)
    have s2:=s_shl1 (show k<64 by omega)
    have i1:i<n:=hlt
    have i2:k<n:=by omega
    have g3:∀o,(K.set (H.n+1) o).get (H.n+1)=some o:=fun o=>AHeap.get_set_same go o
    simp(disch:=first|assumption|omega)only[W_block,P3,seval,initFr,clsA,hw2,go,t1,t2,t3,s1,s2,s_or,one_s64,o_s64,List.length_set,tc_len,i1,i2,g3,Int.toNat_natCast,Nat.mul_one,Nat.zero_add]
    rw[tc_yes L hlk hlt hc (fun _=>rfl) (fun _=>rfl)]
    exact hn2 _ _ _ ⟨k+1,_,_,_,rfl,kk.set (by omega) hgl _,gn,by rw[AHeap.get_set_other K (by omega) hgl];exact gy,AHeap.get_set_same go _,by omega,rfl⟩ (by omega)
  ·have h2:¬((k:Nat):Int)<((i:Nat):Int):=by omega
   have hki:k=i:=by omega
   subst hki
   simp(disch:=first|assumption|omega)only[W_block,P3,seval,initFr,clsA,h2]
   refine hx2 _ _ _ ?_
   simp(disch:=first|assumption|omega)only[W_block,P3,seval,initFr,clsA,hw]
   rw[tc_next]at go
   exact hn' _ _ _ ⟨k+1,_,_,_,_,_,_,_,_,rfl,kk,go,by omega,rfl⟩ (by omega)
 ·have h1:¬((i:Nat):Int)<((n:Nat):Int):=by omega
  have hin:i=n:=by omega
  subst hin
  simp(disch:=first|assumption|omega)only[W_block,P3,seval,initFr,clsA,h1]
  subst hn
  rw[tc_end L (by omega)]at gm
  refine hx' _ _ _ ?_
  simp(disch:=first|assumption|omega)only[W_block,P3,seval,initFr,clsA]
  exact hq2 _ _ ⟨_,rfl,kA.trans km,fun e=>absurd he e,fun _=>⟨_,rfl,by omega,gm⟩⟩
end Go.AM.Fd

set_option maxRecDepth 100000
set_option maxHeartbeats 0
namespace Go.AM.F
def Z68F:List Value:=[(.int .u64 0),(.int .u64 0),(.int .u64 0)]++List.replicate 64 (.int .u8 0)++[(.int .u32 0)]
def O68F:List Nat:=List.replicate 68 1
def zclF:TypeId→List Value
 |39=>[(.int .u64 0)]
 |167=>[(.slice none 0 0),(.slice none 0 0),(.int .u64 0),(.int .u32 0),(.int .u64 0)]
 |87=>[(.string ByteArray.empty),(.int .i64 0),(.slice none 0 0),(.slice none 0 0),(.slice none 0 0),(.slice none 0 0)]
 |207=>[(.int .u64 0),(.int .u64 0),(.int .u64 0),(.int .u32 0),(.int .u32 0),(.int .u64 0)]
 |120=>[(.int .i64 0),(.bool false)]
 |89=>[(.string ByteArray.empty),(.int .i64 0)]
 |171=>[(.slice none 0 0),(.slice none 0 0),(.int .u64 0),(.int .u32 0),(.int .u64 0)]
 |43=>Z68F
 |_=>[]
def zvlF:TypeId→Value
 |_=>undef
def zklF:TypeId→List Nat
 |43=>O68F
 |_=>[]
def zrlF:Nat→TypeId→List Value
 |1,207=>[(.int .u64 0),(.int .u64 0),(.int .u64 0),(.int .u32 0),(.int .u32 0),(.int .u64 0)]
 |1,39=>[(.int .u64 0)]
 |_,_=>[]
noncomputable def f184:AFunc:=by
 refine(fun(_:Cz zclF zvlF zklF zrlF Go.Proofs.Tryz.prog 0 [0,1,4] 184 ?a)=>?a) ?h
 case h=>
 intro zc zv zk zr hc hv hk hr
 conv=>lhs;cbv;try simp only[hc,hv,hk,hr,zclF,zvlF,zklF,zrlF]
theorem f184_ok:compF Go.Proofs.Tryz.prog 0 [0,1,4] 184=some f184:=by kernel_rfl
theorem f184_n:argsOK Go.Proofs.Tryz.prog 184 2=true:=by kernel_rfl
noncomputable def f137:AFunc:=by
 refine(fun(_:Cz zclF zvlF zklF zrlF Go.Proofs.Tryz.prog 0 [0,2,8] 137 ?a)=>?a) ?h
 case h=>
 intro zc zv zk zr hc hv hk hr
 conv=>lhs;cbv;try simp only[hc,hv,hk,hr,zclF,zvlF,zklF,zrlF]
theorem f137_ok:compF Go.Proofs.Tryz.prog 0 [0,2,8] 137=some f137:=by kernel_rfl
theorem f137_n:argsOK Go.Proofs.Tryz.prog 137 1=true:=by kernel_rfl
noncomputable def f121:AFunc:=by
 refine(fun(_:Cz zclF zvlF zklF zrlF Go.Proofs.Tryz.prog 0 [0,1,4] 121 ?a)=>?a) ?h
 case h=>
 intro zc zv zk zr hc hv hk hr
 conv=>lhs;cbv;try simp only[hc,hv,hk,hr,zclF,zvlF,zklF,zrlF]
theorem f121_ok:compF Go.Proofs.Tryz.prog 0 [0,1,4] 121=some f121:=by kernel_rfl
theorem f121_n:argsOK Go.Proofs.Tryz.prog 121 2=true:=by kernel_rfl
noncomputable def f120:AFunc:=by
 refine(fun(_:Cz zclF zvlF zklF zrlF Go.Proofs.Tryz.prog 0 [0,2,3,5,6,7,8,9] 120 ?a)=>?a) ?h
 case h=>
 intro zc zv zk zr hc hv hk hr
 conv=>lhs;cbv;try simp only[hc,hv,hk,hr,zclF,zvlF,zklF,zrlF]
theorem f120_ok:compF Go.Proofs.Tryz.prog 0 [0,2,3,5,6,7,8,9] 120=some f120:=by kernel_rfl
theorem f120_n:argsOK Go.Proofs.Tryz.prog 120 1=true:=by kernel_rfl
noncomputable def f119:AFunc:=by
 refine(fun(_:Cz zclF zvlF zklF zrlF Go.Proofs.Tryz.prog 0 [0,2,3,6] 119 ?a)=>?a) ?h
 case h=>
 intro zc zv zk zr hc hv hk hr
 conv=>lhs;cbv;try simp only[hc,hv,hk,hr,zclF,zvlF,zklF,zrlF]
theorem f119_ok:compF Go.Proofs.Tryz.prog 0 [0,2,3,6] 119=some f119:=by kernel_rfl
theorem f119_n:argsOK Go.Proofs.Tryz.prog 119 1=true:=by kernel_rfl
noncomputable def f190:AFunc:=by
 refine(fun(_:Cz zclF zvlF zklF zrlF Go.Proofs.Tryz.prog 0 [0,1,2,4,5,6,12,13] 190 ?a)=>?a) ?h
 case h=>
 intro zc zv zk zr hc hv hk hr
 have e0A:=(rfl:rfA Go.Proofs.Tryz.prog 190 0=rfA Go.Proofs.Tryz.prog 190 0);conv at e0A=>rhs;cbv
 have e0B:=(rfl:rfB Go.Proofs.Tryz.prog 190 0=rfB Go.Proofs.Tryz.prog 190 0);conv at e0B=>rhs;cbv
 conv=>lhs;cbv;try simp only[hc,hv,hk,hr,zclF,zvlF,zklF,zrlF];simp only[←e0A,←e0B]
theorem f190_ok:compF Go.Proofs.Tryz.prog 0 [0,1,2,4,5,6,12,13] 190=some f190:=by kernel_rfl
theorem f190_n:argsOK Go.Proofs.Tryz.prog 190 2=true:=by kernel_rfl
noncomputable def f190r0a:ACode:=by
 refine(fun(_:CzC zclF zvlF zklF zrlF Go.Proofs.Tryz.prog 0 21 [0,1,2,4,5,6,12,13] (rfA Go.Proofs.Tryz.prog 190 0) ?a)=>?a) ?h
 case h=>intro zc zv zk zr hc hv hk hr;conv=>lhs;cbv;try simp only[hc,hv,hk,hr,zclF,zvlF,zklF,zrlF]
theorem f190r0a_ok:compC Go.Proofs.Tryz.prog 0 21 [0,1,2,4,5,6,12,13] (rfA Go.Proofs.Tryz.prog 190 0)=some f190r0a:=by kernel_rfl
noncomputable def f190r0b:ACode:=by
 refine(fun(_:CzC zclF zvlF zklF zrlF Go.Proofs.Tryz.prog 0 21 [0,1,2,4,5,6,12,13] (rfB Go.Proofs.Tryz.prog 190 0) ?a)=>?a) ?h
 case h=>intro zc zv zk zr hc hv hk hr;conv=>lhs;cbv;try simp only[hc,hv,hk,hr,zclF,zvlF,zklF,zrlF]
theorem f190r0b_ok:compC Go.Proofs.Tryz.prog 0 21 [0,1,2,4,5,6,12,13] (rfB Go.Proofs.Tryz.prog 190 0)=some f190r0b:=by kernel_rfl
theorem f190r0_n:(noRF (rfA Go.Proofs.Tryz.prog 190 0)&&noRF (rfB Go.Proofs.Tryz.prog 190 0))=true:=by kernel_rfl
noncomputable def f192:AFunc:=by
 refine(fun(_:Cz zclF zvlF zklF zrlF Go.Proofs.Tryz.prog 0 [0,1,2] 192 ?a)=>?a) ?h
 case h=>
 intro zc zv zk zr hc hv hk hr
 conv=>lhs;cbv;try simp only[hc,hv,hk,hr,zclF,zvlF,zklF,zrlF]
theorem f192_ok:compF Go.Proofs.Tryz.prog 0 [0,1,2] 192=some f192:=by kernel_rfl
theorem f192_n:argsOK Go.Proofs.Tryz.prog 192 1=true:=by kernel_rfl
noncomputable def f194:AFunc:=by
 refine(fun(_:Cz zclF zvlF zklF zrlF Go.Proofs.Tryz.prog 0 [0,1,3,4,5,15] 194 ?a)=>?a) ?h
 case h=>
 intro zc zv zk zr hc hv hk hr
 conv=>lhs;cbv;try simp only[hc,hv,hk,hr,zclF,zvlF,zklF,zrlF]
theorem f194_ok:compF Go.Proofs.Tryz.prog 0 [0,1,3,4,5,15] 194=some f194:=by kernel_rfl
theorem f194_n:argsOK Go.Proofs.Tryz.prog 194 2=true:=by kernel_rfl
noncomputable def f182:AFunc:=by
 refine(fun(_:Cz zclF zvlF zklF zrlF Go.Proofs.Tryz.prog 0 [0,2] 182 ?a)=>?a) ?h
 case h=>
 intro zc zv zk zr hc hv hk hr
 conv=>lhs;cbv;try simp only[hc,hv,hk,hr,zclF,zvlF,zklF,zrlF]
theorem f182_ok:compF Go.Proofs.Tryz.prog 0 [0,2] 182=some f182:=by kernel_rfl
theorem f182_n:argsOK Go.Proofs.Tryz.prog 182 1=true:=by kernel_rfl
noncomputable def f92:AFunc:=by
 refine(fun(_:Cz zclF zvlF zklF zrlF Go.Proofs.Tryz.prog 0 [0,1,2,3,4,5,6,7,8,9,11,13,20,38,39,40,41,67,68,69,70,74,98,99,100,101] 92 ?a)=>?a) ?h
 case h=>
 intro zc zv zk zr hc hv hk hr
 conv=>lhs;cbv;try simp only[hc,hv,hk,hr,zclF,zvlF,zklF,zrlF]
theorem f92_ok:compF Go.Proofs.Tryz.prog 0 [0,1,2,3,4,5,6,7,8,9,11,13,20,38,39,40,41,67,68,69,70,74,98,99,100,101] 92=some f92:=by kernel_rfl
theorem f92_n:argsOK Go.Proofs.Tryz.prog 92 1=true:=by kernel_rfl
noncomputable def f185:AFunc:=by
 refine(fun(_:Cz zclF zvlF zklF zrlF Go.Proofs.Tryz.prog 0 [0,1,2,3,6,7,8,9,11,12,13,14,20] 185 ?a)=>?a) ?h
 case h=>
 intro zc zv zk zr hc hv hk hr
 conv=>lhs;cbv;try simp only[hc,hv,hk,hr,zclF,zvlF,zklF,zrlF]
theorem f185_ok:compF Go.Proofs.Tryz.prog 0 [0,1,2,3,6,7,8,9,11,12,13,14,20] 185=some f185:=by kernel_rfl
theorem f185_n:argsOK Go.Proofs.Tryz.prog 185 3=true:=by kernel_rfl
noncomputable def f186:AFunc:=by
 refine(fun(_:Cz zclF zvlF zklF zrlF Go.Proofs.Tryz.prog 0 [0,1,2] 186 ?a)=>?a) ?h
 case h=>
 intro zc zv zk zr hc hv hk hr
 conv=>lhs;cbv;try simp only[hc,hv,hk,hr,zclF,zvlF,zklF,zrlF]
theorem f186_ok:compF Go.Proofs.Tryz.prog 0 [0,1,2] 186=some f186:=by kernel_rfl
theorem f186_n:argsOK Go.Proofs.Tryz.prog 186 1=true:=by kernel_rfl
noncomputable def f187:AFunc:=by
 refine(fun(_:Cz zclF zvlF zklF zrlF Go.Proofs.Tryz.prog 0 [0,1,2] 187 ?a)=>?a) ?h
 case h=>
 intro zc zv zk zr hc hv hk hr
 conv=>lhs;cbv;try simp only[hc,hv,hk,hr,zclF,zvlF,zklF,zrlF]
theorem f187_ok:compF Go.Proofs.Tryz.prog 0 [0,1,2] 187=some f187:=by kernel_rfl
theorem f187_n:argsOK Go.Proofs.Tryz.prog 187 1=true:=by kernel_rfl
noncomputable def f188:AFunc:=by
 refine(fun(_:Cz zclF zvlF zklF zrlF Go.Proofs.Tryz.prog 0 [0,1,2,3,6,7,8,9,11,12,13,14,20] 188 ?a)=>?a) ?h
 case h=>
 intro zc zv zk zr hc hv hk hr
 conv=>lhs;cbv;try simp only[hc,hv,hk,hr,zclF,zvlF,zklF,zrlF]
theorem f188_ok:compF Go.Proofs.Tryz.prog 0 [0,1,2,3,6,7,8,9,11,12,13,14,20] 188=some f188:=by kernel_rfl
theorem f188_n:argsOK Go.Proofs.Tryz.prog 188 3=true:=by kernel_rfl
noncomputable def f189:AFunc:=by
 refine(fun(_:Cz zclF zvlF zklF zrlF Go.Proofs.Tryz.prog 0 [0,1,2] 189 ?a)=>?a) ?h
 case h=>
 intro zc zv zk zr hc hv hk hr
 conv=>lhs;cbv;try simp only[hc,hv,hk,hr,zclF,zvlF,zklF,zrlF]
theorem f189_ok:compF Go.Proofs.Tryz.prog 0 [0,1,2] 189=some f189:=by kernel_rfl
theorem f189_n:argsOK Go.Proofs.Tryz.prog 189 1=true:=by kernel_rfl
noncomputable def f174:AFunc:=by
 refine(fun(_:Cz zclF zvlF zklF zrlF Go.Proofs.Tryz.prog 0 [0,1,2,4,5] 174 ?a)=>?a) ?h
 case h=>
 intro zc zv zk zr hc hv hk hr
 conv=>lhs;cbv;try simp only[hc,hv,hk,hr,zclF,zvlF,zklF,zrlF]
theorem f174_ok:compF Go.Proofs.Tryz.prog 0 [0,1,2,4,5] 174=some f174:=by kernel_rfl
theorem f174_n:argsOK Go.Proofs.Tryz.prog 174 2=true:=by kernel_rfl
noncomputable def f175:AFunc:=by
 refine(fun(_:Cz zclF zvlF zklF zrlF Go.Proofs.Tryz.prog 0 [0,1,2,4] 175 ?a)=>?a) ?h
 case h=>
 intro zc zv zk zr hc hv hk hr
 conv=>lhs;cbv;try simp only[hc,hv,hk,hr,zclF,zvlF,zklF,zrlF]
theorem f175_ok:compF Go.Proofs.Tryz.prog 0 [0,1,2,4] 175=some f175:=by kernel_rfl
theorem f175_n:argsOK Go.Proofs.Tryz.prog 175 2=true:=by kernel_rfl
noncomputable def f60:AFunc:=by
 refine(fun(_:Cz zclF zvlF zklF zrlF Go.Proofs.Tryz.prog 0 [0,1,2,3,4,5,12] 60 ?a)=>?a) ?h
 case h=>
 intro zc zv zk zr hc hv hk hr
 conv=>lhs;cbv;try simp only[hc,hv,hk,hr,zclF,zvlF,zklF,zrlF]
theorem f60_ok:compF Go.Proofs.Tryz.prog 0 [0,1,2,3,4,5,12] 60=some f60:=by kernel_rfl
theorem f60_n:argsOK Go.Proofs.Tryz.prog 60 1=true:=by kernel_rfl
noncomputable def f173:AFunc:=by
 refine(fun(_:Cz zclF zvlF zklF zrlF Go.Proofs.Tryz.prog 0 [0,1,3,4,5,6,8,41,42,43,52] 173 ?a)=>?a) ?h
 case h=>
 intro zc zv zk zr hc hv hk hr
 conv=>lhs;cbv;try simp only[hc,hv,hk,hr,zclF,zvlF,zklF,zrlF]
theorem f173_ok:compF Go.Proofs.Tryz.prog 0 [0,1,3,4,5,6,8,41,42,43,52] 173=some f173:=by kernel_rfl
theorem f173_n:argsOK Go.Proofs.Tryz.prog 173 2=true:=by kernel_rfl
noncomputable def f170:AFunc:=by
 refine(fun(_:Cz zclF zvlF zklF zrlF Go.Proofs.Tryz.prog 0 [0,1,3,4,5,6,15] 170 ?a)=>?a) ?h
 case h=>
 intro zc zv zk zr hc hv hk hr
 conv=>lhs;cbv;try simp only[hc,hv,hk,hr,zclF,zvlF,zklF,zrlF]
theorem f170_ok:compF Go.Proofs.Tryz.prog 0 [0,1,3,4,5,6,15] 170=some f170:=by kernel_rfl
theorem f170_n:argsOK Go.Proofs.Tryz.prog 170 2=true:=by kernel_rfl
end Go.AM.F

namespace Go.AM.Fd
open Nat (reduceAdd reduceEqDiff reduceLT reduceLeDiff reduceMul reduceSub)
open Go.Proofs Go.AM.F
def hasB(f:Nat→Bool)(n:Int):Bool:=decide (0≤n)&&(decide (n<64)&&f n.toNat)
def oneP(n:Int)(i:Nat):Bool:=decide ((i:Int)=n)
theorem t184{H:AHeap}(f:Nat→Bool)(n:Int):∃w H',ARun Tryz.prog 0 184 [S64 f,.int .i64 n] H w H'∧w=.bool (hasB f n)∧H'=H:=by
 refine walk2 f184_ok f184_n ?_
 intro Q hq1 hq2
 unfold hasB at hq1 hq2
 by_cases h1:0≤n
 ·by_cases h2:n<64
  ·obtain⟨m,rfl⟩:∃m:Nat,n=(m:Int):=⟨n.toNat,by omega⟩
   have h3:m<64:=by omega
   simp(disch:=first|assumption|omega)only[f184,W_block,P3,seval,initFr,clsA,h1,h2,s_shr,s_and1,i1_eq,o_s64,o_i1]
   refine hq2 _ _ ⟨.bool _,rfl,?_,rfl⟩
   simp;intro _;omega
  ·simp(disch:=first|assumption|omega)only[f184,W_block,P3,seval,initFr,clsA,h1,h2]
   exact hq2 _ _ ⟨.bool _,rfl,by simp[h2],rfl⟩
 ·simp(disch:=first|assumption|omega)only[f184,W_block,P3,seval,initFr,clsA,h1]
  exact hq2 _ _ ⟨.bool _,rfl,by simp[h1],rfl⟩
theorem t137{H:AHeap}(n:Int):∃w H',ARun Tryz.prog 0 137 [.int .i64 n] H w H'∧w=S64 (oneP n)∧H'=H:=by
 refine walk2 f137_ok f137_n ?_
 intro Q hq1 hq2
 have hz:n<0∨64≤n→Value.int .u64 0=S64 (oneP n):=fun h=>by
  rw[s_zero];apply s64_ext;intro i hi;simp[oneP];omega
 by_cases h1:n<0
 ·simp(disch:=first|assumption|omega)only[f137,W_block,P3,seval,initFr,clsA,h1]
  exact hq2 _ _ ⟨.int .u64 0,rfl,hz (.inl h1),rfl⟩
 ·by_cases h2:64≤n
  ·simp(disch:=first|assumption|omega)only[f137,W_block,P3,seval,initFr,clsA,h1,h2]
   exact hq2 _ _ ⟨.int .u64 0,rfl,hz (.inr h2),rfl⟩
  ·obtain⟨m,rfl⟩:∃m:Nat,n=(m:Int):=⟨n.toNat,by omega⟩
   have h3:=s_shl1 (show m<64 by omega)
   simp(disch:=first|assumption|omega)only[f137,W_block,P3,seval,initFr,clsA,h1,h2,h3,o_s64]
   refine hq2 _ _ ⟨S64 _,rfl,?_,rfl⟩
   apply s64_ext;intro i hi;simp only[oneP,Int.ofNat_inj]
theorem t121{H:AHeap}(f:Nat→Bool)(n:Int):∃w H',ARun Tryz.prog 0 121 [S64 f,.int .i64 n] H w H'∧w=S64 (fun i=>f i||oneP n i)∧H'=H:=by
 refine walk2 f121_ok f121_n ?_
 intro Q hq1 hq2
 simp(disch:=first|assumption|omega)only[f121,W_block,P3,seval,initFr,clsA]
 refine callQ (t137 n) ?_
 simp(disch:=first|assumption|omega)only[W_block,P3,seval,initFr,clsA,s_or,o_s64]
 exact hq2 _ _ ⟨_,rfl,rfl,rfl⟩
theorem t121z{H:AHeap}(n:Int):∃w H',ARun Tryz.prog 0 121 [.int .u64 0,.int .i64 n] H w H'∧w=S64 (oneP n)∧H'=H:=by
 obtain⟨w,H',r,e1,e2⟩:=t121 (H:=H) (fun _=>false) n
 rw[←s_zero]at r
 exact⟨w,H',r,by rw[e1];exact s64_ext fun i _=>by simp,e2⟩
theorem t120{H:AHeap}{v:Value}{l:List Int}(h:IL H v l)(hl:l.length≤1000000):∃w H',ARun Tryz.prog 0 120 [v] H w H'∧w=S64 (fun i=>l.contains (i:Int))∧H'=H:=by
 refine walk2 f120_ok f120_n ?_
 intro Q hq1 hq2
 have len:=h.len
 have is:=Sl.is h
 simp(disch:=first|assumption|omega)only[f120,P3,seval,initFr,clsA,len,is]
 rw[W_block]
 refine W_loop2 (fun q fr M=>∃i x3 x7,fr=[v,.int .u64 0,S64 (fun j=>(l.take i).contains (j:Int)),x3,v,.int .i64 ((l.length:Nat):Int),.int .i64 ((i:Nat):Int),x7]∧M=H∧i≤l.length∧q=l.length-i) l.length
  ⟨0,_,_,by simp only[List.take_zero];rw[s_zero];rfl,rfl,by omega,rfl⟩ ?_
 rintro Q' q fr M ⟨i,x3,x7,rfl,rfl,hi,rfl⟩ hn' hx' hret
 by_cases hlt:i<l.length
 ·obtain⟨na,ra⟩:=h.at_ hlt
  have h0:(0:Int)≤(i:Int):=by omega
  have h1:(i:Int)<((l.length:Nat):Int):=by omega
  have hw:IntKind.i64.wrap ((i:Int)+1)=((i+1:Nat):Int):=by rw[wrap_i64 (by omega) (by omega)];simp
  simp(disch:=first|assumption|omega)only[W_block,P3,seval,initFr,clsA,h1,len,na,ra,a_load1v]
  refine callQ (t137 _) ?_
  simp(disch:=first|assumption|omega)only[W_block,P3,seval,initFr,clsA,s_or,o_s64,hw]
  refine hn' _ _ _ ⟨i+1,.int .i64 (l.getD i 0),.bool true,?_,rfl,by omega,rfl⟩ (by omega)
  congr 3
  apply s64_ext
  intro j hj
  rw[List.take_add_one,List.getElem?_eq_getElem hlt]
  simp only[oneP,List.getD_eq_getElem?_getD,List.getElem?_eq_getElem hlt,Option.getD_some,Option.toList_some]
  rw[List.contains_append]
  simp
 ·have h1:¬((i:Nat):Int)<((l.length:Nat):Int):=by omega
  have hin:i=l.length:=by omega
  subst hin
  simp(disch:=first|assumption|omega)only[W_block,P3,seval,initFr,clsA,h1]
  refine hx' _ _ _ ?_
  simp(disch:=first|assumption|omega)only[W_block,P3,seval,initFr,clsA]
  exact hq2 _ _ ⟨S64 _,rfl,by rw[List.take_length],rfl⟩
theorem bit_low{n:Nat}(h:n<64):2 ^ n-1=bitsN (fun i=>decide (i<n)) 64:=by
 apply Nat.eq_of_testBit_eq
 intro i
 rw[Nat.testBit_two_pow_sub_one,bitsN_t]
 by_cases hi:i<n
 ·have:i<64:=by omega
  simp[hi,this]
 ·simp[hi]
theorem s_sub1{n:Nat}(h:n<64):binA .sub (S64 fun i=>decide (i=n)) (.int .u64 1)=some (S64 fun i=>decide (i<n)):=by
 unfold S64
 rw[←bit_pow h,b_sub,←bit_low h]
 have hp:0<2 ^ n:=Nat.pow_pos (by omega)
 have hu:=pow_u h
 have e:((2 ^ n:Nat):Int)-1=((2 ^ n-1:Nat):Int):=by omega
 rw[e,w64 _ (by have:(2:Nat) ^ 64=U:=rfl;omega)]
theorem s_full:Value.int .u64 18446744073709551615=S64 (fun _=>true):=by
 unfold S64
 have:bitsN (fun _=>true) 64=2 ^ 64-1:=by
  apply Nat.eq_of_testBit_eq
  intro i
  rw[Nat.testBit_two_pow_sub_one,bitsN_t];simp
 rw[this];rfl
def lowP(n:Int)(i:Nat):Bool:=decide ((i:Int)<n)
theorem t119{H:AHeap}(n:Int):∃w H',ARun Tryz.prog 0 119 [.int .i64 n] H w H'∧w=S64 (lowP n)∧H'=H:=by
 refine walk2 f119_ok f119_n ?_
 intro Q hq1 hq2
 by_cases h1:n≤0
 ·simp(disch:=first|assumption|omega)only[f119,W_block,P3,seval,initFr,clsA,h1]
  exact hq2 _ _ ⟨.int .u64 0,rfl,by rw[s_zero];apply s64_ext;intro i hi;simp[lowP];omega,rfl⟩
 ·by_cases h2:64≤n
  ·simp(disch:=first|assumption|omega)only[f119,W_block,P3,seval,initFr,clsA,h1,h2]
   exact hq2 _ _ ⟨.int .u64 18446744073709551615,rfl,by rw[s_full];apply s64_ext;intro i hi;simp[lowP];omega,rfl⟩
  ·obtain⟨m,rfl⟩:∃m:Nat,n=(m:Int):=⟨n.toNat,by omega⟩
   have h3:=s_shl1 (show m<64 by omega)
   have h4:=s_sub1 (show m<64 by omega)
   simp(disch:=first|assumption|omega)only[f119,W_block,P3,seval,initFr,clsA,h1,h2,h3,h4,o_s64]
   refine hq2 _ _ ⟨S64 _,rfl,?_,rfl⟩
   apply s64_ext;intro i hi;simp only[lowP,Int.ofNat_lt]
end Go.AM.Fd

set_option maxRecDepth 8000
namespace Go.AM.Fd
open Go.Proofs Go.AM.F
theorem cells_s64(f:Nat→Bool):(S64 f).cells.toList=[S64 f]:=rfl
theorem cells_s32(f:Nat→Bool):(S32 f).cells.toList=[S32 f]:=rfl
def trP(r:Ro)(i:Nat):Bool:=(trk r).contains (i:Int)
def fiP(r:Ro):Nat→Bool:=oneP (r.path.getD 0 0)
def ahP(L:Ly)(r:Ro):Nat→Bool:=oneP (L.g.getD r.g.toNat ([],0)).2
def ndP(l:List (Int×Bool))(b:Bool)(p:Nat):Bool:=l.contains ((p:Int),b)
def mrow(L:Ly)(i:Nat):List Value:=[S64 (trP (ro L i)),S64 (fiP (ro L i)),S64 (ahP L (ro L i)),S32 (ndP (nds (ro L i)) false),S32 (ndP (nds (ro L i)) true),S64 (tabP L i)]
def mrows(L:Ly):List (List Value):=(List.range L.r.length).map (mrow L)
def lieP(L:Ly)(i:Nat):Nat→Bool:=oneP (L.p.getD i ([],0)).2
def mlies(L:Ly):List (List Value):=(List.range L.p.length).map fun i=>[S64 (lieP L i)]
def mcells(L:Ly)(vr vl:Value):List Value:=[vr,vl,S64 (lowP L.r.length),S32 (lowP L.p.length),S64 (lowP L.s.length)]
structure RoGood (L:Ly) (r:Ro):Prop where
 lim:RoLim L r
 ne:0<r.path.length
 tr:∀x∈trk r,0≤x∧x<L.s.length
 nd:∀x∈nds r,0≤x.1∧x.1<L.p.length
theorem check_may{L:Ly}(h:checkE L=0):mayB L=true:=by
 unfold checkE at h
 cases hm:mayB L with
 |true=>rfl
 |false=>rw[hm]at h;cases h
theorem check_form{L:Ly}(h:checkE L=0){r:Ro}(hr:r∈L.r):formedB L r=true:=by
 have hm:=check_may h
 unfold checkE at h
 rw[hm]at h
 cases hf:L.r.all (formedB L)with
 |false=>rw[hf]at h;cases h
 |true=>exact List.all_eq_true.1 hf r hr
theorem check_good{L:Ly}(h:checkE L=0){r:Ro}(hr:r∈L.r):RoGood L r:=by
 have hm:=check_may h
 have hf:=check_form h hr
 have hl:=may_ro hm hr
 have hb:roB L r=true:=by
  have:=hm
  simp only[mayB,Bool.and_eq_true,Bool.not_eq_true',List.all_eq_true]at this
  simp_all
 refine⟨hl,?_,?_,?_⟩
 ·simp only[formedB,badB,Bool.and_eq_true,Bool.not_eq_true',Bool.or_eq_false_iff]at hf
  have:=hf.1.1.1.1
  cases hp:r.path with
  |nil=>rw[hp]at this;cases this
  |cons a l=>simp
 ·simp only[roB,inB,Bool.and_eq_true,decide_eq_true_eq,List.all_eq_true]at hb
  intro x hx
  rcases List.mem_append.1 hx with hx|hx
  ·exact hb.1.2.1.2 x hx
  ·exact hb.1.2.2 x hx
 ·simp only[roB,needB,inB,Bool.and_eq_true,decide_eq_true_eq,List.all_eq_true]at hb
  intro x hx
  rcases List.mem_append.1 hx with hx|hx
  ·have:=hb.2.1.2 x hx;simpa using this
  ·have:=hb.2.2.2 x hx;simpa using this
end Go.AM.Fd

set_option maxRecDepth 8000
namespace Go.AM.Fd
open Nat (reduceAdd reduceEqDiff reduceLT reduceLeDiff reduceMul reduceSub)
open Go.Proofs Go.AM.F
theorem row_lt{H:AHeap}{esz:Nat}{v:Value}{i:Nat}{r:List Value}(h:rowA H esz v i=some r):bn v-1<H.n:=by
 obtain⟨b,o,n,k,rfl,h1,own,room,z,c,e,h2,h3,h4⟩:=rowA_range h
 have:=AHeap.get_lt h2
 simp[bn,blk,slc];omega
theorem nd_step{l:List (Int×Bool)}{j:Nat}(h:j<l.length)(b:Bool)(p:Nat):ndP (l.take (j+1)) b p=(ndP (l.take j) b p||(decide ((p:Int)=(l.getD j (0,false)).1)&&(b==(l.getD j (0,false)).2))):=by
 unfold ndP
 rw[List.take_add_one,List.getElem?_eq_getElem h,List.getD_eq_getElem?_getD,List.getElem?_eq_getElem h,List.contains_append]
 simp only[Option.toList_some,Option.getD_some]
 congr 1
 obtain⟨x,y⟩:=l[j]
 simp only[List.contains_cons,List.contains_nil,Bool.or_false]
 rw[Bool.eq_iff_iff]
 simp
theorem nd_zero(b:Bool):Value.int .u32 0=S32 (ndP [] b):=by rw[p_zero];rfl
def xrow(L:Ly)(r:Ro)(i j:Nat):List Value:=[S64 (trP r),S64 (fiP r),S64 (ahP L r),S32 (ndP ((nds r).take j) false),S32 (ndP ((nds r).take j) true),S64 (tabP L i)]
theorem _root_.Go.AM.OW.set{e esz:Nat}{H K:AHeap}{v:Value}{rows:List (List Value)}(h:OW e esz H K v rows){b:Nat}{o:AO}(hb:bn v≠b+1)(hH:H.n≤b)(hK:b<K.n):OW e esz H (K.set b o) v rows:=
 ⟨h.ap.chg1 (Chg.set K hK o) hb,h.r,h.k.set hH hK o,h.f⟩
theorem _root_.Go.AM.OW.sep{e esz:Nat}{H K:AHeap}{v:Value}{rows:List (List Value)}(h:OW e esz H K v rows){b z t:Nat}{o r:Bool}{c:List Value}(g:K.get b=some (.cells o r z c t))(hz:z≠esz):bn v≠b+1:=by
 rcases h.ap with⟨rfl,_,_⟩|⟨b',room,rfl,_,h2⟩
 ·simp[bn,blk]
 ·intro e
  have e2:b'=b:=by simp[bn,blk,slc]at e;exact e
  subst e2
  rw[h2]at g
  cases g
  exact hz rfl
theorem _root_.Go.AM.OW.apart{e z e' z':Nat}{H H' K:AHeap}{v w:Value}{rows rows':List (List Value)}(h:OW e z H K v rows)(h':OW e' z' H' K w rows')(hz:z≠z'):∀b∈blkL v,b∉blkL w:=by
 intro b hb hb'
 rw[mem_blkL]at hb hb'
 rcases h.ap with⟨rfl,_,_⟩|⟨c,room,rfl,_,h2⟩
 ·cases hb
 ·rcases h'.ap with⟨rfl,_,_⟩|⟨c',room',rfl,_,h2'⟩
  ·cases hb'
  ·cases hb;cases hb'
   have e:=Option.some.inj (h2.symm.trans h2')
   injection e with _ _ e3 _ _
   exact hz e3
theorem _root_.Go.AM.OW.chg{e z:Nat}{H K K':AHeap}{v:Value}{rows:List (List Value)}{S:List Nat}(h:OW e z H K v rows)(c:Chg S K K')(hS:∀b∈blkL v,b∉S)(k:Keeps H K'):OW e z H K' v rows:=
 ⟨h.ap.chg c hS,h.r,k,h.f⟩
theorem fillW(a:Value)(h:a.cells.toList=[a]):fillA [.int .u64 0] [(0,1,a)]=some [a]:=by
 rw[fill_cons,h,if_pos ⟨rfl,by simp⟩];rfl
theorem not_blkL{v:Value}{b:Nat}(h:bn v≠b+1):b∉blkL v:=by
 intro hm
 have:=mem_blkL.1 hm
 apply h;unfold bn;rw[this]
theorem fillZ(a b c d e f:Value):fillA [.int .u64 0,.int .u64 0,.int .u64 0,.int .u32 0,.int .u32 0,.int .u64 0] [(0,6,.agg #[a,b,c,d,e,f])]=some [a,b,c,d,e,f]:=rfl
theorem fillM(a c:Nat→Bool)(b:Nat→Bool):fillA [.slice none 0 0,.slice none 0 0,.int .u64 0,.int .u32 0,.int .u64 0] [(2,1,S64 a),(3,1,S32 b),(4,1,S64 c)]=some [.slice none 0 0,.slice none 0 0,S64 a,S32 b,S64 c]:=rfl
theorem fillR(a b c d:Nat→Bool):fillA [.int .u64 0,.int .u64 0,.int .u64 0,.int .u32 0,.int .u32 0,.int .u64 0] [(0,1,S64 a),(1,1,S64 b),(2,1,S64 c),(5,1,S64 d)]=some [S64 a,S64 b,S64 c,.int .u32 0,.int .u32 0,S64 d]:=rfl
set_option maxHeartbeats 4000000 in
theorem t92{H:AHeap}{u:V4}{xs:List RV}{L:Ly}(h:LyR H u xs L)(hf:LyIn 9223372036854775807 L):
 ∃w H',ARun Tryz.prog 0 92 [.agg u.l.toArray] H w H'∧Keeps H H'∧(checkE L≠0→w=.tuple #[.agg #[.slice none 0 0,.slice none 0 0,.int .u64 0,.int .u32 0,.int .u64 0],.int .i64 (checkE L)])∧
  (checkE L=0→∃vr vl,w=.tuple #[.agg (mcells L vr vl).toArray,.int .i64 0]∧Sl H' 6 vr (mrows L)∧Sl H' 1 vl (mlies L)∧Fresh H.n vr∧Fresh H.n vl):=by
 refine walk2 f92_ok f92_n ?_
 intro Q hq1 hq2
 have os:=Sl.one h.s
 have op:=Sl.one h.p
 have og:=Sl.one h.g
 have or:=Sl.one h.r
 have is:=Sl.is h.s
 have ip:=Sl.is h.p
 have ig:=Sl.is h.g
 have ir:=Sl.is h.r
 have hul:u.l=[u.s,u.p,u.g,u.r]:=rfl
 obtain⟨K0,hK0⟩:∃X,X=(H.alloc (.cells true false 4 [u.s,u.p,u.g,u.r] 27)).alloc (.cells true false 5 [.slice none 0 0,.slice none 0 0,.int .u64 0,.int .u32 0,.int .u64 0] 167):=⟨_,rfl⟩
 have k0:Keeps H K0:=by rw[hK0];exact((Keeps.refl H).alloc _).alloc _
 have n0:K0.n=H.n+2:=by rw[hK0];rfl
 have gl0:K0.get H.n=some (.cells true false 4 [u.s,u.p,u.g,u.r] 27):=by rw[hK0];exact((Keeps.refl _).alloc _).at_ (AHeap.get_alloc_new H _)
 have gw0:K0.get (H.n+1)=some (.cells true false 5 [.slice none 0 0,.slice none 0 0,.int .u64 0,.int .u32 0,.int .u64 0] 167):=by rw[hK0];exact AHeap.get_alloc_new (H.alloc _) _
 have tT:=t118 (h.keeps k0) hf
 simp only[hul]at tT ⊢
 simp(disch:=first|assumption|omega|(simp only[LN]<;>omega)|(simp(disch:=first|assumption|omega|(simp only[LN]<;>omega))only[row_alloc,row_set];assumption))only[f92,W_block,P3,seval,initFr,clsA,os,op,og,or]
 simp only[←hK0]
 refine callK tT ?_
 rintro tv K1 ⟨k1,e1,e2⟩
 by_cases he:checkE L=0
 case neg=>
  rw[e1 he]
  have ne:(checkE L != 0)=true:=by simp[he]
  have gw1:=k1.at_ gw0
  have l0:=AHeap.get_lt gw1
  simp(disch:=first|assumption|omega|(simp only[LN]<;>omega)|(simp(disch:=first|assumption|omega|(simp only[LN]<;>omega))only[row_alloc,row_set];assumption))only[W_block,P3,seval,initFr,clsA,ne,gw1]
  refine hq2 _ _ ⟨.tuple #[.agg #[.slice none 0 0,.slice none 0 0,.int .u64 0,.int .u32 0,.int .u64 0],.int .i64 (checkE L)],?_,(k0.trans k1).set (by omega) l0 _,fun _=>rfl,fun e=>absurd e he⟩
  show resO [.cn 5 2,.t 3] _ _=_
  have gg:=AHeap.get_set_same gw1 (.cells true false 5 [.slice none 0 0,.slice none 0 0,.int .u64 0,.int .u32 0,.int .u64 0] 167)
  simp[resO,resVs,RX.get,celln,ptr,rangeA,gg];rfl
 case pos=>
 obtain⟨tb,rfl,htb,gt1⟩:=e2 he
 have hmay:=check_may he
 have hL:=may_lim hmay
 have hLs:=hL.s
 have hLp:=hL.p
 have hLg:=hL.g
 have hLr:=hL.r
 have hrl:=h.rlen
 have gl1:=k1.at_ gl0
 have gw1:=k1.at_ gw0
 have n1:=k1.n
 have hA:=(h.keeps k0).keeps k1
 have lr:=h.r.len
 have ls:=h.s.len
 have lp:=h.p.len
 have lg:=h.g.len
 rw[hrl]at lr
 simp(disch:=first|assumption|omega)only[W_block,P3,seval,initFr,clsA,gl1,lr,ir]
 refine callQ (t119 _) ?_
 simp(disch:=first|assumption|omega)only[W_block,P3,seval,initFr,clsA,gl1,lp,ip]
 refine callQ (t119 _) ?_
 simp(disch:=first|assumption|omega)only[W_block,P3,seval,initFr,clsA,gl1,ls,is,s_down]
 refine callQ (t119 _) ?_
 obtain⟨K2,hK2⟩:∃X,X=K1.alloc (.cells true false 5 (mcells L (.slice none 0 0) (.slice none 0 0)) 167):=⟨_,rfl⟩
 have hK2':=hK2
 unfold mcells at hK2'
 simp(disch:=first|assumption|omega|(simp only[LN]<;>omega)|(simp(disch:=first|assumption|omega|(simp only[LN]<;>omega))only[row_alloc,row_set];assumption))only[P3,seval,initFr,clsA,gl1,lr,ir,o_s64,o_s32,one_s64,one_s32,cells_s64,cells_s32,fillM]
 rw[←hK2',W_block]
 have k2:Keeps K1 K2:=by rw[hK2];exact(Keeps.refl K1).alloc _
 have gm2:K2.get K1.n=some (.cells true false 5 (mcells L (.slice none 0 0) (.slice none 0 0)) 167):=by rw[hK2];exact AHeap.get_alloc_new K1 _
 refine W_loop2 (fun q fr M=>∃i vr x7 x8 x9 x10 x11 x16 x17 x18 x19 x20 x21 x22 x23 x24 x25,fr=[.agg #[u.s,u.p,u.g,u.r],ptr H.n 0,ptr (H.n+1) 0,.int .i64 0,slc tb 0 L.r.length L.r.length,.int .i64 0,ptr K1.n 0,x7,x8,x9,x10,x11,
  .bool false,u.r,.int .i64 ((L.r.length:Nat):Int),.int .i64 ((i:Nat):Int),x16,x17,x18,x19,x20,x21,x22,x23,x24,x25]∧
  M.get K1.n=some (.cells true false 5 (mcells L vr (.slice none 0 0)) 167)∧OW 207 6 K1 M vr ((List.range i).map (mrow L))∧bn vr≠K1.n+1∧i≤L.r.length∧q=L.r.length-i) L.r.length
  ⟨0,.slice none 0 0,_,_,_,_,_,_,_,_,_,_,_,_,_,_,_,rfl,gm2,OW.nil _ _ k2,by simp[bn,blk],by omega,rfl⟩ ?_
 rintro Q' q fr M ⟨i,vr,x7,x8,x9,x10,x11,x16,x17,x18,x19,x20,x21,x22,x23,x24,x25,rfl,gm,ow,bv,hi,rfl⟩ hn' hx' hret
 have km:=ow.k
 have gl2:=km.at_ gl1
 have gt2:=km.at_ gt1
 by_cases hlt:i<L.r.length
 ·obtain⟨hyr,hyo⟩:=rv_ro h (i:=i) hlt
  obtain⟨na,ra⟩:=(hA.r.keeps km).at_ (i:=i) (by omega)
  have hgood:=check_good he (List.getElem_mem hlt)
  rw[←ro_eq hlt,←hyr]at hgood
  have hmr:mrow L i=[S64 (trP (ro L i)),S64 (fiP (ro L i)),S64 (ahP L (ro L i)),S32 (ndP (nds (ro L i)) false),S32 (ndP (nds (ro L i)) true),S64 (tabP L i)]:=rfl
  rw[←hyr]at hmr
  generalize xs.getD i rv0=y at*
  have hlim:=hgood.lim
  have lP:=hlim.p
  have lO:=hlim.o
  have lQ:=hlim.q
  have lF:=hlim.f
  have h0:(0:Int)≤(i:Int):=by omega
  have h1:(i:Int)<((L.r.length:Nat):Int):=by omega
  have hw:IntKind.i64.wrap ((i:Int)+1)=((i+1:Nat):Int):=by rw[wrap_i64 (by omega) (by omega)];simp
  have rowy:y.row=[.string ⟨y.r.n.toArray⟩,.int .i64 y.r.g,y.vp,y.vq,y.vo,y.vf]:=rfl
  obtain⟨a3,a4,a5,a6⟩:=RV.ones hyo
  have a1:one1 (Value.int .i64 y.r.g)=True:=by simp[one1,one_int]
  have a2:one1 (Value.string ⟨y.r.n.toArray⟩)=True:=by simp[one1,one_str]
  obtain⟨M1,hM1⟩:∃X,X=M.alloc (.cells true false 6 y.row 87):=⟨_,rfl⟩
  have m1:M1.n=M.n+1:=by rw[hM1];rfl
  have kM1:Keeps M M1:=by rw[hM1];exact(Keeps.refl M).alloc _
  have gy1:M1.get M.n=some (.cells true false 6 y.row 87):=by rw[hM1];exact AHeap.get_alloc_new M _
  have hMn:=AHeap.get_lt gm
  have kmn:=km.n
  have hM1':=hM1
  simp only[rowy]at ra hM1' gy1
  have yo1:=((hyo.keeps (k0.trans k1)).keeps km).keeps kM1
  have tTr:=t31 yo1 (by omega)
  simp only[rowy]at tTr
  simp(disch:=first|assumption|omega)only[P3,seval,initFr,clsA,h1]
  rw[W_block]
  simp(disch:=first|assumption|omega|(simp only[LN]<;>omega)|(simp(disch:=first|assumption|omega|(simp only[LN]<;>omega))only[row_alloc,row_set];assumption))only[P3,seval,initFr,clsA,lr,ra,na,a_loadnvf,a1,a2,a3,a4,a5,a6]
  rw[←hM1']
  refine callK tTr ?_
  rintro tv M2 ⟨htv,kM2,_⟩
  have hti:IL M2 tv (trk y.r):=htv.sl
  simp(disch:=first|assumption|omega)only[P3,seval,initFr,clsA,gy1]
  refine callQ (t120 hti (by simp[trk];omega)) ?_
  have gl3:=(kM1.trans kM2).at_ gl2
  have gy3:=kM2.at_ gy1
  have gt3:=(kM1.trans kM2).at_ gt2
  have lpt:=yo1.p.len
  obtain⟨nap,rap⟩:=(yo1.p.keeps kM2).at_ (i:=0) hgood.ne
  have p0:(0:Int)<((y.r.path.length:Nat):Int):=by have:=hgood.ne;omega
  obtain⟨_,rap1⟩:=yo1.p.at_ (i:=0) hgood.ne
  have q1:=row_lt rap1
  have q2:=kM2.get _ q1
  have q3:bn y.vp-1<M2.n:=by have:=kM2.n;omega
  have q4:M.n<M2.n:=by have:=kM2.n;omega
  simp(disch:=first|assumption|omega)only[P3,seval,initFr,clsA,gy3,gy1,nap,rap,lpt,a_load1v,p0,q1,q2,q3,q4]
  refine callQ (t121z _) ?_
  obtain⟨n,hn⟩:∃n:Nat,y.r.g=(n:Int):=⟨y.r.g.toNat,by have:=hlim.g.1;omega⟩
  have hnl:n<L.g.length:=by have:=hlim.g.2;omega
  obtain⟨nag,rag1⟩:=(((hA.g.keeps km).keeps kM1).at_ hnl)
  obtain⟨_,rag⟩:=((((hA.g.keeps km).keeps kM1).keeps kM2).at_ hnl)
  have hah:ahP L y.r=oneP (L.g.getD n ([],0)).2 :=by unfold ahP;rw[hn];rfl
  have q5:=row_lt rag1
  have q6:=kM2.get _ q5
  have q7:bn u.g-1<M2.n:=by have:=kM2.n;omega
  have q8:M1.get H.n=some (.cells true false 4 [u.s,u.p,u.g,u.r] 27):=kM1.at_ gl2
  have q9:H.n<M1.n:=AHeap.get_lt q8
  have q10:H.n<M2.n:=AHeap.get_lt gl3
  have q11:M.n<M1.n:=AHeap.get_lt gy1
  have g0:(0:Int)≤(n:Int):=by omega
  have g1:(n:Int)<((L.g.length:Nat):Int):=by omega
  simp(disch:=first|assumption|omega)only[P3,seval,initFr,clsA,gy3,gy1,gl3,q8,hn,g0,g1,nag,rag,lg,a_load1v,a_loadnvf,q4,q5,q6,q7,q9,q10,q11]
  refine callQ (t121z _) ?_
  have tbi:(tabC L)[i]? =some (S64 (tabP L i)):=by unfold tabC;simp[hlt]
  have gt1':=kM1.at_ gt2
  have q12:tb<M1.n:=AHeap.get_lt gt1'
  have q13:tb<M2.n:=AHeap.get_lt gt3
  obtain⟨M3,hM3⟩:∃X,X=M2.alloc (.cells true false 6 [S64 (trP y.r),S64 (fiP y.r),S64 (ahP L y.r),.int .u32 0,.int .u32 0,S64 (tabP L i)] 207):=⟨_,rfl⟩
  have m3:M3.n=M2.n+1:=by rw[hM3];rfl
  have kM3:Keeps M2 M3:=by rw[hM3];exact(Keeps.refl M2).alloc _
  have gx3:M3.get M2.n=some (.cells true false 6 [S64 (trP y.r),S64 (fiP y.r),S64 (ahP L y.r),.int .u32 0,.int .u32 0,S64 (tabP L i)] 207):=by rw[hM3];exact AHeap.get_alloc_new M2 _
  have hM3':=hM3
  unfold trP fiP at hM3'
  rw[hah]at hM3'
  have gy4:=kM3.at_ gy3
  have tN:=t32 ((yo1.keeps kM2).keeps kM3) (by omega)
  simp only[rowy,hn]at tN
  simp only[hn]at gy4
  simp(disch:=first|assumption|omega|(simp only[LN]<;>omega)|(simp(disch:=first|assumption|omega|(simp only[LN]<;>omega))only[row_alloc,row_set];assumption))only[P3,seval,initFr,clsA,gt1',gt3,tbi,h0,h1,fillR,Int.toNat_natCast,Nat.mul_one,Nat.zero_add,o_s64,o_s32,one_s64,one_s32,q12,q13,gy3,hn,q4]
  simp only[←hM3']
  refine callK tN ?_
  rintro nv M4 ⟨hnv,kM4,fnv⟩
  have hni:NL M4 nv (nds y.r):=hnv.sl
  have lnv:=hni.len
  have isn:=Sl.is hni
  have ndl:(nds y.r).length≤32:=by simp[nds];omega
  have gx4:=kM4.at_ gx3
  have e0:[S64 (trP y.r),S64 (fiP y.r),S64 (ahP L y.r),.int .u32 0,.int .u32 0,S64 (tabP L i)]=xrow L y.r i 0:=by
   unfold xrow;rw[List.take_zero,←nd_zero,←nd_zero]
  rw[e0]at gx4
  simp(disch:=first|assumption|omega)only[P3,seval,initFr,clsA,lnv,isn]
  rw[W_block]
  refine W_loop2 (fun q fr N=>∃j x10 x20 x21,fr=[.agg #[u.s,u.p,u.g,u.r],ptr H.n 0,ptr (H.n+1) 0,.int .i64 0,slc tb 0 L.r.length L.r.length,.int .i64 0,ptr K1.n 0,.int .i64 ((i:Nat):Int),ptr M.n 0,ptr M2.n 0,x10,x11,
   .bool false,u.r,.int .i64 ((L.r.length:Nat):Int),.int .i64 ((i:Nat):Int),.bool true,nv,.int .i64 (((nds y.r).length:Nat):Int),.int .i64 ((j:Nat):Int),x20,x21,x22,x23,x24,x25]∧
   Chg [M2.n] M4 N∧N.get M2.n=some (.cells true false 6 (xrow L y.r i j) 207)∧j≤(nds y.r).length∧q=(nds y.r).length - j) (nds y.r).length
   ⟨0,_,_,_,rfl,Chg.refl _ _,gx4,by omega,rfl⟩ ?_
  rintro Q2 q fr N ⟨j,x10,x20,x21,rfl,cN,gxN,hj,rfl⟩ hn2 hx2 hret2
  have nbn:∀b,blk nv=some b→b∉[M2.n]:=fun b hb=>by have:=fnv b hb;simp;omega
  have hniN:NL N nv (nds y.r):=Sl.chg hni cN nbn
  by_cases hlj:j<(nds y.r).length
  ·obtain⟨nj,rj⟩:=hniN.at_ hlj
   have hw2:IntKind.i64.wrap ((j:Int)+1)=((j+1:Nat):Int):=by rw[wrap_i64 (by omega) (by omega)];simp
   have j0:(0:Int)≤(j:Int):=by omega
   have j1:((j:Nat):Int)<(((nds y.r).length:Nat):Int):=by omega
   have sf:=nd_step hlj false
   have st:=nd_step hlj true
   have hmem:(nds y.r).getD j (0,false)∈nds y.r:=by rw[List.getD_eq_getElem?_getD,List.getElem?_eq_getElem hlj];exact List.getElem_mem hlj
   have hrng:=hgood.nd _ hmem
   generalize(nds y.r).getD j (0,false)=z at*
   obtain⟨zp,zb⟩:=z
   obtain⟨m,rfl⟩:∃m:Nat,zp=(m:Int):=⟨zp.toNat,by have:=hrng.1;omega⟩
   have hm32:m<32:=by have:=hrng.2;simp only at this;omega
   have s1:=p_shl1 hm32
   have hxl:=AHeap.get_lt gxN
   have gxA:(N.alloc (.cells true false 2 [.int .i64 (m:Int),.bool zb] 120)).get M2.n=some (.cells true false 6 (xrow L y.r i j) 207):=((Keeps.refl N).alloc _).at_ gxN
   have gnA:=AHeap.get_alloc_new N (.cells true false 2 [.int .i64 (m:Int),.bool zb] 120)
   have cA:Chg [M2.n] M4 (N.alloc (.cells true false 2 [.int .i64 (m:Int),.bool zb] 120)):=cN.alloc _
   unfold xrow at gxA gxN
   cases zb with
   |true=>
    simp(disch:=first|assumption|omega|(simp only[LN]<;>omega)|(simp(disch:=first|assumption|omega|(simp only[LN]<;>omega))only[row_alloc,row_set];assumption))only[W_block,P3,seval,initFr,clsA,j1,lnv,nj,rj,a_loadnvf,gxN,s1,p_or,o_s32,one_s32,hw2]
    have ex:xrow L y.r i (j+1)=[S64 (trP y.r),S64 (fiP y.r),S64 (ahP L y.r),S32 (ndP ((nds y.r).take j) false),S32 (fun i=>ndP ((nds y.r).take j) true i||decide (i=m)),S64 (tabP L i)]:=by
     unfold xrow
     rw[show ndP ((nds y.r).take (j+1)) false=ndP ((nds y.r).take j) false from funext fun p=>by rw[sf];simp,
      show ndP ((nds y.r).take (j+1)) true=fun i=>ndP ((nds y.r).take j) true i||decide (i=m)from funext fun p=>by rw[st];simp only[beq_self_eq_true,Bool.and_true,Int.ofNat_inj]]
    exact hn2 _ _ _ ⟨j+1,_,_,_,rfl,(cN.trans (Chg.set N hxl _) (by simp)).alloc _,((Keeps.refl _).alloc _).at_ (by rw[ex];exact AHeap.get_set_same gxN _),by omega,rfl⟩ (by omega)
   |false=>
    simp(disch:=first|assumption|omega|(simp only[LN]<;>omega)|(simp(disch:=first|assumption|omega|(simp only[LN]<;>omega))only[row_alloc,row_set];assumption))only[W_block,P3,seval,initFr,clsA,j1,lnv,nj,rj,a_loadnvf,gxN,s1,p_or,o_s32,one_s32,hw2]
    have ex:xrow L y.r i (j+1)=[S64 (trP y.r),S64 (fiP y.r),S64 (ahP L y.r),S32 (fun i=>ndP ((nds y.r).take j) false i||decide (i=m)),S32 (ndP ((nds y.r).take j) true),S64 (tabP L i)]:=by
     unfold xrow
     rw[show ndP ((nds y.r).take (j+1)) true=ndP ((nds y.r).take j) true from funext fun p=>by rw[st];simp,
      show ndP ((nds y.r).take (j+1)) false=fun i=>ndP ((nds y.r).take j) false i||decide (i=m)from funext fun p=>by rw[sf];simp only[beq_self_eq_true,Bool.and_true,Int.ofNat_inj]]
    exact hn2 _ _ _ ⟨j+1,_,_,_,rfl,(cN.trans (Chg.set N hxl _) (by simp)).alloc _,((Keeps.refl _).alloc _).at_ (by rw[ex];exact AHeap.get_set_same gxN _),by omega,rfl⟩ (by omega)
  ·have j1:¬((j:Nat):Int)<(((nds y.r).length:Nat):Int):=by omega
   have hje:j=(nds y.r).length:=by omega
   subst hje
   have exl:xrow L y.r i (nds y.r).length=mrow L i:=by unfold xrow;rw[List.take_length,hmr,hyr]
   rw[exl,hmr]at gxN
   have kMN:Keeps M N:=(((kM1.trans kM2).trans kM3).trans kM4).chg_trans cN (by simp;omega)
   have owN:=ow.keeps kMN
   have gmN:=kMN.at_ gm
   unfold mcells at gmN
   have isv:=owN.is
   simp(disch:=first|assumption|omega)only[W_block,P3,seval,initFr,clsA,j1]
   refine hx2 _ _ _ ?_
   simp(disch:=first|assumption|omega|(simp only[LN]<;>omega)|(simp(disch:=first|assumption|omega|(simp only[LN]<;>omega))only[row_alloc,row_set];assumption))only[W_block,P3,seval,initFr,clsA,gmN,gxN,isv,fillZ,one_s64,one_s32,o_s64,o_s32]
   have lvr:=ow.len
   refine OW.appR (owN.keeps ((Keeps.refl N).alloc _)) (Sl.one1 rfl rfl) (by simp;omega) ?_
   intro v' K' ow' c'
   have gmK:=c'.at_ (((Keeps.refl N).alloc _).at_ gmN) (not_blkL bv)
   have bv':=ow'.sep gmK (by omega)
   have hbK:=AHeap.get_lt gmK
   have o1:=ow'.one
   simp(disch:=first|assumption|omega)only[W_block,P3,seval,initFr,clsA,gmK,o1,hw]
   have ers:(List.range (i+1)).map (mrow L)=(List.range i).map (mrow L)++[[S64 (trP y.r),S64 (fiP y.r),S64 (ahP L y.r),S32 (ndP (nds y.r) false),S32 (ndP (nds y.r) true),S64 (tabP L i)]]:=by
    rw[List.range_succ,List.map_append,←hmr];rfl
   exact hn' _ _ _ ⟨i+1,v',_,_,_,_,_,_,_,_,_,_,_,_,_,_,_,rfl,AHeap.get_set_same gmK _,by rw[ers];exact ow'.set bv' (Nat.le_refl _) hbK,bv',by omega,rfl⟩ (by omega)
 ·have h1:¬((i:Nat):Int)<((L.r.length:Nat):Int):=by omega
  have hin:i=L.r.length:=by omega
  subst hin
  simp(disch:=first|assumption|omega)only[W_block,P3,seval,initFr,clsA,h1]
  refine hx' _ _ _ ?_
  simp(disch:=first|assumption|omega)only[P3,seval,initFr,clsA,gl2,lp,ip]
  rw[W_block]
  refine W_loop2 (fun q fr N=>∃i vl x11 x25,fr=[.agg #[u.s,u.p,u.g,u.r],ptr H.n 0,ptr (H.n+1) 0,.int .i64 0,slc tb 0 L.r.length L.r.length,.int .i64 0,ptr K1.n 0,x7,x8,x9,x10,x11,
   .bool false,u.r,.int .i64 ((L.r.length:Nat):Int),.int .i64 ((L.r.length:Nat):Int),.bool false,x17,x18,x19,x20,x21,u.p,.int .i64 ((L.p.length:Nat):Int),.int .i64 ((i:Nat):Int),x25]∧
   N.get K1.n=some (.cells true false 5 (mcells L vr vl) 167)∧OW 207 6 K1 N vr (mrows L)∧OW 39 1 K1 N vl ((List.range i).map fun i=>[S64 (lieP L i)])∧i≤L.p.length∧q=L.p.length-i) L.p.length
   ⟨0,.slice none 0 0,_,_,rfl,gm,ow,OW.nil _ _ km,by omega,rfl⟩ ?_
  rintro Q2 q fr N ⟨i,vl,x11,x25,rfl,gmN,owr,owl,hi,rfl⟩ hn2 hx2 hret2
  have kN:=owr.k
  by_cases hlt:i<L.p.length
  ·obtain⟨np,rp⟩:=(hA.p.keeps kN).at_ hlt
   have h0:(0:Int)≤(i:Int):=by omega
   have h1:(i:Int)<((L.p.length:Nat):Int):=by omega
   have hw:IntKind.i64.wrap ((i:Int)+1)=((i+1:Nat):Int):=by rw[wrap_i64 (by omega) (by omega)];simp
   have hli:lieP L i=oneP (L.p.getD i ([],0)).2 :=rfl
   generalize L.p.getD i ([],0)=z at*
   have w1:one1 (Value.int .i64 z.2)=True:=by simp[one1,one_int]
   have w2:one1 (Value.string ⟨z.1.toArray⟩)=True:=by simp[one1,one_str]
   have isl:=owl.is
   have isr:=owr.is
   unfold mcells at gmN
   obtain⟨N1,hN1⟩:∃X,X=N.alloc (.cells true false 2 [.string ⟨z.1.toArray⟩,.int .i64 z.2] 89):=⟨_,rfl⟩
   have kN1:Keeps N N1:=by rw[hN1];exact(Keeps.refl N).alloc _
   have gmN1:=kN1.at_ gmN
   simp(disch:=first|assumption|omega|(simp only[LN]<;>omega)|(simp(disch:=first|assumption|omega|(simp only[LN]<;>omega))only[row_alloc,row_set];assumption))only[W_block,P3,seval,initFr,clsA,h1,lp,np,rp,a_loadnvf,gmN,w1,w2]
   have gpN1:=AHeap.get_alloc_new N (.cells true false 2 [.string ⟨z.1.toArray⟩,.int .i64 z.2] 89)
   rw[←hN1]at gpN1 ⊢
   have t1:K1.n<N1.n:=AHeap.get_lt gmN1
   simp(disch:=first|assumption|omega)only[W_block,P3,seval,initFr,clsA,gmN1,gpN1,isl]
   refine callQ (t121z _) ?_
   have lvl:=owl.len
   have fW:=fillW (S64 (oneP z.2)) rfl
   simp(disch:=first|assumption|omega)only[W_block,P3,seval,initFr,clsA,gmN1,gpN1,isl,fW,one_s64,o_s64,t1]
   refine⟨by simp,OW.appD (owl.keeps (kN1.alloc _)) (Sl.one1 (row:=[S64 (oneP z.2)]) rfl rfl) ?_ ?_⟩
   ·simp only[List.length_map,List.length_range,List.length_cons,List.length_nil];omega
   intro v' K' ow' c'
   have owr':=(owr.keeps (kN1.alloc (.cells true false 1 [S64 (oneP z.2)] 39))).chg c' (owr.apart owl (by omega)) ow'.k
   have hml:K1.n∉blkL vl:=not_blkL (owl.sep gmN (by omega))
   have gmK:=c'.at_ (((Keeps.refl N1).alloc (.cells true false 1 [S64 (oneP z.2)] 39)).at_ gmN1) hml
   have bv':=ow'.sep gmK (by omega)
   have br':=owr'.sep gmK (by omega)
   have hbK:=AHeap.get_lt gmK
   have o1:=ow'.one
   simp(disch:=first|assumption|omega)only[W_block,P3,seval,initFr,clsA,gmK,o1,hw]
   have ers:(List.range (i+1)).map (fun i=>[S64 (lieP L i)])=(List.range i).map (fun i=>[S64 (lieP L i)])++[[S64 (oneP z.2)]]:=by
    rw[List.range_succ,List.map_append,←hli];rfl
   exact hn2 _ _ _ ⟨i+1,v',_,_,rfl,AHeap.get_set_same gmK _,owr'.set br' (Nat.le_refl _) hbK,by rw[ers];exact ow'.set bv' (Nat.le_refl _) hbK,by omega,rfl⟩ (by omega)
  ·have h1:¬((i:Nat):Int)<((L.p.length:Nat):Int):=by omega
   have hie:i=L.p.length:=by omega
   subst hie
   unfold mcells at gmN
   have isl:=owl.one
   have isr:=owr.one
   have gwN:=kN.at_ gw1
   have hwl:=AHeap.get_lt gwN
   simp(disch:=first|assumption|omega)only[W_block,P3,seval,initFr,clsA,h1]
   refine hx2 _ _ _ ?_
   simp(disch:=first|assumption|omega|(simp only[LN]<;>omega)|(simp(disch:=first|assumption|omega|(simp only[LN]<;>omega))only[row_alloc,row_set];assumption))only[W_block,P3,seval,initFr,clsA,gmN,gwN,isl,isr,o_s64,o_s32,one_s64,one_s32]
   refine hq2 _ _ ⟨.tuple #[.agg (mcells L vr vl).toArray,.int .i64 0],?_,(k0.trans (k1.trans kN)).set (by omega) hwl _,fun e=>absurd he e,fun _=>⟨vr,vl,rfl,owr.sl.chg1 (Chg.set N hwl _) (owr.sep gwN (by omega)),owl.sl.chg1 (Chg.set N hwl _) (owl.sep gwN (by omega)),fun b hb=>Nat.le_trans (by omega) (owr.f b hb),fun b hb=>Nat.le_trans (by omega) (owl.f b hb)⟩⟩
   show resO [.cn 5 2,.t 3] _ _=_
   have gg:=AHeap.get_set_same gwN (.cells true false 5 [vr,vl,S64 (lowP ((L.r.length:Nat):Int)),S32 (lowP ((L.p.length:Nat):Int)),S64 (lowP ((L.s.length:Nat):Int))] 167)
   simp[resO,resVs,RX.get,celln,ptr,rangeA,gg,mcells];rfl
end Go.AM.Fd

set_option maxRecDepth 100000
set_option maxHeartbeats 0
namespace Go.AM.F
def Z68K:List Value:=[(.int .u64 0),(.int .u64 0),(.int .u64 0)]++List.replicate 64 (.int .u8 0)++[(.int .u32 0)]
def Z74K:List Value:=[(.pointer none),(.int .u64 0),(.int .u64 0),(.int .u64 0)]++List.replicate 64 (.int .u8 0)++[(.int .u32 0),(.int .u64 0),(.int .u32 0),(.int .u32 0),(.slice none 0 0),(.int .u64 0)]
def O68K:List Nat:=List.replicate 68 1
def zclK:TypeId→List Value
 |102=>[(.slice none 0 0),(.slice none 0 0),(.int .i64 0),(.int .u32 0)]
 |87=>[(.string ByteArray.empty),(.int .i64 0),(.slice none 0 0),(.slice none 0 0),(.slice none 0 0),(.slice none 0 0)]
 |107=>[(.int .i64 0),(.int .i64 0),(.slice none 0 0),(.slice none 0 0),(.slice none 0 0)]
 |89=>[(.string ByteArray.empty),(.int .i64 0)]
 |43=>Z68K
 |54=>[(.int .u64 0),(.int .u32 0)]
 |241=>Z74K
 |83=>[(.int .u8 0),(.int .i64 0)]
 |244=>[.nilFunc,.nilFunc,.nilFunc,.nilFunc]
 |41=>[(.int .u32 0)]
 |120=>[(.int .i64 0),(.bool false)]
 |_=>[]
def zvlK:TypeId→Value
 |_=>undef
def zklK:TypeId→List Nat
 |43=>O68K
 |_=>[]
def zrlK:Nat→TypeId→List Value
 |1,107=>[(.int .i64 0),(.int .i64 0),(.slice none 0 0),(.slice none 0 0),(.slice none 0 0)]
 |1,3=>[(.int .i64 0)]
 |_,_=>[]
noncomputable def f10:AFunc:=by
 refine(fun(_:Cz zclK zvlK zklK zrlK Go.Proofs.Tryz.prog 0 [0,1,2,3,4,6,7,8,9,10,17,25,26,27,28,62,63,64,65] 10 ?a)=>?a) ?h
 case h=>
 intro zc zv zk zr hc hv hk hr
 conv=>lhs;cbv;try simp only[hc,hv,hk,hr,zclK,zvlK,zklK,zrlK]
theorem f10_ok:compF Go.Proofs.Tryz.prog 0 [0,1,2,3,4,6,7,8,9,10,17,25,26,27,28,62,63,64,65] 10=some f10:=by kernel_rfl
theorem f10_n:argsOK Go.Proofs.Tryz.prog 10 1=true:=by kernel_rfl
noncomputable def f156:AFunc:=by
 refine(fun(_:Cz zclK zvlK zklK zrlK Go.Proofs.Tryz.prog 0 [0,1,2,4,5,6,7,8,10,11,12,13,15,39,40,41,42,53,54,55,59,74,75,76,80] 156 ?a)=>?a) ?h
 case h=>
 intro zc zv zk zr hc hv hk hr
 conv=>lhs;cbv;try simp only[hc,hv,hk,hr,zclK,zvlK,zklK,zrlK]
theorem f156_ok:compF Go.Proofs.Tryz.prog 0 [0,1,2,4,5,6,7,8,10,11,12,13,15,39,40,41,42,53,54,55,59,74,75,76,80] 156=some f156:=by kernel_rfl
theorem f156_n:argsOK Go.Proofs.Tryz.prog 156 3=true:=by kernel_rfl
noncomputable def f41:AFunc:=by
 refine(fun(_:Cz zclK zvlK zklK zrlK Go.Proofs.Tryz.prog 0 [0,1,3,4,5,6,8,22,23,24,30,40,50] 41 ?a)=>?a) ?h
 case h=>
 intro zc zv zk zr hc hv hk hr
 conv=>lhs;cbv;try simp only[hc,hv,hk,hr,zclK,zvlK,zklK,zrlK]
theorem f41_ok:compF Go.Proofs.Tryz.prog 0 [0,1,3,4,5,6,8,22,23,24,30,40,50] 41=some f41:=by kernel_rfl
theorem f41_n:argsOK Go.Proofs.Tryz.prog 41 2=true:=by kernel_rfl
noncomputable def f16:AFunc:=by
 refine(fun(_:Cz zclK zvlK zklK zrlK Go.Proofs.Tryz.prog 0 [0,1,3,4,5,6,15,19,20,21,22,30,40] 16 ?a)=>?a) ?h
 case h=>
 intro zc zv zk zr hc hv hk hr
 conv=>lhs;cbv;try simp only[hc,hv,hk,hr,zclK,zvlK,zklK,zrlK]
theorem f16_ok:compF Go.Proofs.Tryz.prog 0 [0,1,3,4,5,6,15,19,20,21,22,30,40] 16=some f16:=by kernel_rfl
theorem f16_n:argsOK Go.Proofs.Tryz.prog 16 2=true:=by kernel_rfl
noncomputable def f33:AFunc:=by
 refine(fun(_:Cz zclK zvlK zklK zrlK Go.Proofs.Tryz.prog 0 [0,1,2,4,5,6,7,21,23,24,25,26,42] 33 ?a)=>?a) ?h
 case h=>
 intro zc zv zk zr hc hv hk hr
 conv=>lhs;cbv;try simp only[hc,hv,hk,hr,zclK,zvlK,zklK,zrlK]
theorem f33_ok:compF Go.Proofs.Tryz.prog 0 [0,1,2,4,5,6,7,21,23,24,25,26,42] 33=some f33:=by kernel_rfl
theorem f33_n:argsOK Go.Proofs.Tryz.prog 33 2=true:=by kernel_rfl
noncomputable def f157:AFunc:=by
 refine(fun(_:Cz zclK zvlK zklK zrlK Go.Proofs.Tryz.prog 0 [0,1,3,4,5,23,53] 157 ?a)=>?a) ?h
 case h=>
 intro zc zv zk zr hc hv hk hr
 conv=>lhs;cbv;try simp only[hc,hv,hk,hr,zclK,zvlK,zklK,zrlK]
theorem f157_ok:compF Go.Proofs.Tryz.prog 0 [0,1,3,4,5,23,53] 157=some f157:=by kernel_rfl
theorem f157_n:argsOK Go.Proofs.Tryz.prog 157 2=true:=by kernel_rfl
noncomputable def f158:AFunc:=by
 refine(fun(_:Cz zclK zvlK zklK zrlK Go.Proofs.Tryz.prog 0 [0,1,4] 158 ?a)=>?a) ?h
 case h=>
 intro zc zv zk zr hc hv hk hr
 conv=>lhs;cbv;try simp only[hc,hv,hk,hr,zclK,zvlK,zklK,zrlK]
theorem f158_ok:compF Go.Proofs.Tryz.prog 0 [0,1,4] 158=some f158:=by kernel_rfl
theorem f158_n:argsOK Go.Proofs.Tryz.prog 158 2=true:=by kernel_rfl
noncomputable def f159:AFunc:=by
 refine(fun(_:Cz zclK zvlK zklK zrlK Go.Proofs.Tryz.prog 0 [0,1,4,5,19,29,46,55,76] 159 ?a)=>?a) ?h
 case h=>
 intro zc zv zk zr hc hv hk hr
 conv=>lhs;cbv;try simp only[hc,hv,hk,hr,zclK,zvlK,zklK,zrlK]
theorem f159_ok:compF Go.Proofs.Tryz.prog 0 [0,1,4,5,19,29,46,55,76] 159=some f159:=by kernel_rfl
theorem f159_n:argsOK Go.Proofs.Tryz.prog 159 2=true:=by kernel_rfl
noncomputable def f160:AFunc:=by
 refine(fun(_:Cz zclK zvlK zklK zrlK Go.Proofs.Tryz.prog 0 [0,1,4,5,6,34] 160 ?a)=>?a) ?h
 case h=>
 intro zc zv zk zr hc hv hk hr
 conv=>lhs;cbv;try simp only[hc,hv,hk,hr,zclK,zvlK,zklK,zrlK]
theorem f160_ok:compF Go.Proofs.Tryz.prog 0 [0,1,4,5,6,34] 160=some f160:=by kernel_rfl
theorem f160_n:argsOK Go.Proofs.Tryz.prog 160 2=true:=by kernel_rfl
noncomputable def f42:AFunc:=by
 refine(fun(_:Cz zclK zvlK zklK zrlK Go.Proofs.Tryz.prog 0 [0,1,4] 42 ?a)=>?a) ?h
 case h=>
 intro zc zv zk zr hc hv hk hr
 conv=>lhs;cbv;try simp only[hc,hv,hk,hr,zclK,zvlK,zklK,zrlK]
theorem f42_ok:compF Go.Proofs.Tryz.prog 0 [0,1,4] 42=some f42:=by kernel_rfl
theorem f42_n:argsOK Go.Proofs.Tryz.prog 42 2=true:=by kernel_rfl
noncomputable def f44:AFunc:=by
 refine(fun(_:Cz zclK zvlK zklK zrlK Go.Proofs.Tryz.prog 0 [0,1,3] 44 ?a)=>?a) ?h
 case h=>
 intro zc zv zk zr hc hv hk hr
 conv=>lhs;cbv;try simp only[hc,hv,hk,hr,zclK,zvlK,zklK,zrlK]
theorem f44_ok:compF Go.Proofs.Tryz.prog 0 [0,1,3] 44=some f44:=by kernel_rfl
theorem f44_n:argsOK Go.Proofs.Tryz.prog 44 2=true:=by kernel_rfl
noncomputable def f46:AFunc:=by
 refine(fun(_:Cz zclK zvlK zklK zrlK Go.Proofs.Tryz.prog 0 [0,1,2,3] 46 ?a)=>?a) ?h
 case h=>
 intro zc zv zk zr hc hv hk hr
 conv=>lhs;cbv;try simp only[hc,hv,hk,hr,zclK,zvlK,zklK,zrlK]
theorem f46_ok:compF Go.Proofs.Tryz.prog 0 [0,1,2,3] 46=some f46:=by kernel_rfl
theorem f46_n:argsOK Go.Proofs.Tryz.prog 46 2=true:=by kernel_rfl
noncomputable def f161:AFunc:=by
 refine(fun(_:Cz zclK zvlK zklK zrlK Go.Proofs.Tryz.prog 0 [0,1,4,6,8,34,36,37,38,39,69,83,84,85,86,90] 161 ?a)=>?a) ?h
 case h=>
 intro zc zv zk zr hc hv hk hr
 conv=>lhs;cbv;try simp only[hc,hv,hk,hr,zclK,zvlK,zklK,zrlK]
theorem f161_ok:compF Go.Proofs.Tryz.prog 0 [0,1,4,6,8,34,36,37,38,39,69,83,84,85,86,90] 161=some f161:=by kernel_rfl
theorem f161_n:argsOK Go.Proofs.Tryz.prog 161 2=true:=by kernel_rfl
noncomputable def f162:AFunc:=by
 refine(fun(_:Cz zclK zvlK zklK zrlK Go.Proofs.Tryz.prog 0 [0,1,25,50] 162 ?a)=>?a) ?h
 case h=>
 intro zc zv zk zr hc hv hk hr
 conv=>lhs;cbv;try simp only[hc,hv,hk,hr,zclK,zvlK,zklK,zrlK]
theorem f162_ok:compF Go.Proofs.Tryz.prog 0 [0,1,25,50] 162=some f162:=by kernel_rfl
theorem f162_n:argsOK Go.Proofs.Tryz.prog 162 2=true:=by kernel_rfl
noncomputable def f163:AFunc:=by
 refine(fun(_:Cz zclK zvlK zklK zrlK Go.Proofs.Tryz.prog 0 [0,1,3,4,5,18,25,26,27,28,40] 163 ?a)=>?a) ?h
 case h=>
 intro zc zv zk zr hc hv hk hr
 conv=>lhs;cbv;try simp only[hc,hv,hk,hr,zclK,zvlK,zklK,zrlK]
theorem f163_ok:compF Go.Proofs.Tryz.prog 0 [0,1,3,4,5,18,25,26,27,28,40] 163=some f163:=by kernel_rfl
theorem f163_n:argsOK Go.Proofs.Tryz.prog 163 2=true:=by kernel_rfl
noncomputable def f164:AFunc:=by
 refine(fun(_:Cz zclK zvlK zklK zrlK Go.Proofs.Tryz.prog 0 [0,1,2,4] 164 ?a)=>?a) ?h
 case h=>
 intro zc zv zk zr hc hv hk hr
 conv=>lhs;cbv;try simp only[hc,hv,hk,hr,zclK,zvlK,zklK,zrlK]
theorem f164_ok:compF Go.Proofs.Tryz.prog 0 [0,1,2,4] 164=some f164:=by kernel_rfl
theorem f164_n:argsOK Go.Proofs.Tryz.prog 164 2=true:=by kernel_rfl
noncomputable def f165:AFunc:=by
 refine(fun(_:Cz zclK zvlK zklK zrlK Go.Proofs.Tryz.prog 0 [0,1,4] 165 ?a)=>?a) ?h
 case h=>
 intro zc zv zk zr hc hv hk hr
 conv=>lhs;cbv;try simp only[hc,hv,hk,hr,zclK,zvlK,zklK,zrlK]
theorem f165_ok:compF Go.Proofs.Tryz.prog 0 [0,1,4] 165=some f165:=by kernel_rfl
theorem f165_n:argsOK Go.Proofs.Tryz.prog 165 2=true:=by kernel_rfl
noncomputable def f167:AFunc:=by
 refine(fun(_:Cz zclK zvlK zklK zrlK Go.Proofs.Tryz.prog 0 [0,1,2,3,4,6] 167 ?a)=>?a) ?h
 case h=>
 intro zc zv zk zr hc hv hk hr
 conv=>lhs;cbv;try simp only[hc,hv,hk,hr,zclK,zvlK,zklK,zrlK]
theorem f167_ok:compF Go.Proofs.Tryz.prog 0 [0,1,2,3,4,6] 167=some f167:=by kernel_rfl
theorem f167_n:argsOK Go.Proofs.Tryz.prog 167 3=true:=by kernel_rfl
noncomputable def f168:AFunc:=by
 refine(fun(_:Cz zclK zvlK zklK zrlK Go.Proofs.Tryz.prog 0 [0,1,2,3] 168 ?a)=>?a) ?h
 case h=>
 intro zc zv zk zr hc hv hk hr
 conv=>lhs;cbv;try simp only[hc,hv,hk,hr,zclK,zvlK,zklK,zrlK]
theorem f168_ok:compF Go.Proofs.Tryz.prog 0 [0,1,2,3] 168=some f168:=by kernel_rfl
theorem f168_n:argsOK Go.Proofs.Tryz.prog 168 2=true:=by kernel_rfl
noncomputable def f169:AFunc:=by
 refine(fun(_:Cz zclK zvlK zklK zrlK Go.Proofs.Tryz.prog 0 [0,1,3] 169 ?a)=>?a) ?h
 case h=>
 intro zc zv zk zr hc hv hk hr
 conv=>lhs;cbv;try simp only[hc,hv,hk,hr,zclK,zvlK,zklK,zrlK]
theorem f169_ok:compF Go.Proofs.Tryz.prog 0 [0,1,3] 169=some f169:=by kernel_rfl
theorem f169_n:argsOK Go.Proofs.Tryz.prog 169 2=true:=by kernel_rfl
end Go.AM.F

set_option maxRecDepth 8000
namespace Go.AM.Fd
open Nat (reduceAdd reduceEqDiff reduceLT reduceLeDiff reduceMul reduceSub)
open Go.Proofs Go.AM.F
def cfl(L:Ly)(i n:Nat):List Int:=((List.range n).filter fun k=>(k != i)&&cf L i k).map fun k:Nat=>(k:Int)
theorem cfl_y{L:Ly}{i k:Nat}(h:((k != i)&&cf L i k)=true):cfl L i (k+1)=cfl L i k++[(k:Int)]:=by
 unfold cfl;rw[List.range_succ,List.filter_append,List.map_append];simp[h]
theorem cfl_n{L:Ly}{i k:Nat}(h:((k != i)&&cf L i k)=false):cfl L i (k+1)=cfl L i k:=by
 unfold cfl;rw[List.range_succ,List.filter_append,List.map_append,List.filter_cons,h];simp
theorem cfl_len(L:Ly)(i n:Nat):(cfl L i n).length≤n:=by
 unfold cfl;rw[List.length_map]
 exact Nat.le_trans (List.length_filter_le _ _) (by simp)
set_option maxHeartbeats 1000000 in
theorem t33{H:AHeap}{u:V4}{xs:List RV}{L:Ly}(h:LyR H u xs L)(he:checkE L=0)(hf:LyIn 9223372036854775807 L){i:Nat}(hi:i<L.r.length):
 ∃w H',ARun Tryz.prog 0 33 [.agg u.l.toArray,.int .i64 (i:Nat)] H w H'∧OW 3 1 H H' w ((cfl L i L.r.length).map iRow):=by
 refine walk2 f33_ok f33_n ?_
 intro Q hq1 hq2
 have hmay:=check_may he
 have hL:=may_lim hmay
 have lr:=hL.r
 have os:=Sl.one h.s
 have op:=Sl.one h.p
 have og:=Sl.one h.g
 have or:=Sl.one h.r
 have ir:=Sl.is h.r
 have lenr:=h.r.len
 rw[h.rlen]at lenr
 have hul:u.l=[u.s,u.p,u.g,u.r]:=rfl
 have e0:(0:Int)≤(i:Int):=by omega
 have e1:(i:Int)<((L.r.length:Nat):Int):=by omega
 have e2:¬(i:Int)<0:=by omega
 have e3:¬((L.r.length:Nat):Int)≤(i:Int):=by omega
 obtain⟨K0,hK0⟩:∃X,X=H.alloc (.cells true false 4 [u.s,u.p,u.g,u.r] 27):=⟨_,rfl⟩
 have k0:Keeps H K0:=by rw[hK0];exact(Keeps.refl H).alloc _
 have n0:K0.n=H.n+1:=by rw[hK0];rfl
 have gl0:K0.get H.n=some (.cells true false 4 [u.s,u.p,u.g,u.r] 27):=by rw[hK0];exact AHeap.get_alloc_new H _
 have tM:=lMayA (h.keeps k0) hf
 obtain⟨hyr,hyo⟩:=rv_ro h hi
 have hgood:=check_good he (List.getElem_mem hi)
 rw[←ro_eq hi,←hyr]at hgood
 have rr:∀K,Keeps H K→nnS u.r=true∧rowA K 6 u.r i=some (xs.getD i rv0).row:=fun K k=>(h.r.keeps k).at_ (i:=i) (by rw[h.rlen];exact hi)
 have hcf:∀k,cf L i k=confB L (xs.getD i rv0).r (ro L k):=fun k=>by unfold cf;rw[hyr]
 generalize xs.getD i rv0=y at*
 have rowy:y.row=[.string ⟨y.r.n.toArray⟩,.int .i64 y.r.g,y.vp,y.vq,y.vo,y.vf]:=rfl
 obtain⟨a3,a4,a5,a6⟩:=RV.ones hyo
 have a1:one1 (Value.int .i64 y.r.g)=True:=by simp[one1,one_int]
 have a2:one1 (Value.string ⟨y.r.n.toArray⟩)=True:=by simp[one1,one_str]
 simp only[hul]at tM ⊢
 simp(disch:=first|assumption|omega|(simp only[LN]<;>omega)|(simp(disch:=first|assumption|omega|(simp only[LN]<;>omega))only[row_alloc,row_set];assumption))only[f33,W_block,P3,seval,initFr,clsA,os,op,og,or,e2,e3,ir,lenr]
 simp only[←hK0]
 refine callK tM ?_
 rintro _ X ⟨rfl,hX⟩
 rw[hX,hmay]
 simp(disch:=first|assumption|omega)only[P3,seval,initFr,clsA,gl0,ir,lenr]
 obtain⟨A1,hA1⟩:∃v:Value,v=.agg #[u.s,u.p,u.g,u.r]:=⟨_,rfl⟩
 rw[W_block,←hA1]
 refine W_loop2 (fun q fr K=>∃k v x5 x6 x11 x12,fr=[A1,.int .i64 ((i:Nat):Int),ptr H.n 0,.slice none 0 0,v,x5,x6,.bool false,u.r,.int .i64 ((L.r.length:Nat):Int),.int .i64 ((k:Nat):Int),x11,x12]∧
  OW 3 1 K0 K v ((cfl L i k).map iRow)∧k≤L.r.length∧q=L.r.length-k) L.r.length
  ⟨0,_,_,_,_,_,rfl,OW.nil _ _ (Keeps.refl K0),by omega,rfl⟩ ?_
 rintro Q' q fr K ⟨k,v,x5,x6,x11,x12,rfl,ow,hk,rfl⟩ hn' hx' hret
 have kK:=ow.k
 by_cases hlt:k<L.r.length
 ·have c0:(0:Int)≤(k:Int):=by omega
  have c1:(k:Int)<((L.r.length:Nat):Int):=by omega
  have hw:IntKind.i64.wrap ((k:Int)+1)=((k+1:Nat):Int):=by rw[wrap_i64 (by omega) (by omega)];simp
  obtain⟨hzr,hzo⟩:=rv_ro h hlt
  obtain⟨nb,rb⟩:=(h.r.keeps (k0.trans kK)).at_ (i:=k) (by rw[h.rlen];exact hlt)
  have zlim:=may_ro hmay (List.getElem_mem hlt)
  rw[←ro_eq hlt,←hzr]at zlim
  have hcfk:=hcf k
  rw[←hzr]at hcfk
  have cy:=fun e=>cfl_y (L:=L) (i:=i) (k:=k) e
  have cn:=fun e=>cfl_n (L:=L) (i:=i) (k:=k) e
  generalize xs.getD k rv0=z at*
  have rowz:z.row=[.string ⟨z.r.n.toArray⟩,.int .i64 z.r.g,z.vp,z.vq,z.vo,z.vf]:=rfl
  obtain⟨b3,b4,b5,b6⟩:=RV.ones hzo
  have b1:one1 (Value.int .i64 z.r.g)=True:=by simp[one1,one_int]
  have b2:one1 (Value.string ⟨z.r.n.toArray⟩)=True:=by simp[one1,one_str]
  obtain⟨K1,hK1⟩:∃X,X=K.alloc (.cells true false 6 z.row 87):=⟨_,rfl⟩
  have k1:Keeps K K1:=by rw[hK1];exact(Keeps.refl K).alloc _
  have gz1:K1.get K.n=some (.cells true false 6 z.row 87):=by rw[hK1];exact AHeap.get_alloc_new K _
  have gl1:=(kK.trans k1).at_ gl0
  have kA:=(k0.trans kK).trans k1
  obtain⟨na,ra⟩:=rr _ kA
  have tC:=t67 (h.keeps kA) (hyo.keeps kA) (hzo.keeps kA) hgood.lim zlim hL
  simp only[rowz]at rb hK1 gz1
  simp only[hul,rowy,rowz]at tC ra
  by_cases hki:k=i
  ·have en:(((k:Nat):Int) != ((i:Nat):Int))=false:=by simp[hki]
   simp(disch:=first|assumption|omega|(simp only[LN]<;>omega)|(simp(disch:=first|assumption|omega|(simp only[LN]<;>omega))only[row_alloc,row_set];assumption))only[W_block,P3,seval,initFr,clsA,c1,lenr,nb,rb,a_loadnvf,b1,b2,b3,b4,b5,b6,en,hw]
   exact hn' _ _ _ ⟨k+1,_,_,_,_,_,rfl,by rw[cn (by simp[hki])];exact ow.keeps ((Keeps.refl K).alloc _),by omega,rfl⟩ (by omega)
  ·have en:(((k:Nat):Int) != ((i:Nat):Int))=true:=by simp;omega
   have hb:(k != i)=true:=by simp[hki]
   simp(disch:=first|assumption|omega|(simp only[LN]<;>omega)|(simp(disch:=first|assumption|omega|(simp only[LN]<;>omega))only[row_alloc,row_set];assumption))only[W_block,P3,seval,initFr,clsA,c1,lenr,nb,rb,a_loadnvf,b1,b2,b3,b4,b5,b6,en]
   rw[←hK1]
   simp(disch:=first|assumption|omega|(simp only[LN]<;>omega)|(simp(disch:=first|assumption|omega|(simp only[LN]<;>omega))only[row_alloc,row_set];assumption))only[W_block,P3,seval,initFr,clsA,gl1,gz1,ir,lenr,na,ra,e0,e1,a_loadnvf]
   refine callK tC ?_
   rintro _ X ⟨rfl,hX⟩
   rw[hX,←hcfk]
   cases hcc:cf L i k with
   |false=>
    simp(disch:=first|assumption|omega)only[W_block,P3,seval,initFr,clsA,hw]
    exact hn' _ _ _ ⟨k+1,_,_,_,_,_,rfl,by rw[cn (by rw[hcc];simp)];exact ow.keeps k1,by omega,rfl⟩ (by omega)
   |true=>
    have isv:=ow.is
    simp(disch:=first|assumption|omega)only[W_block,P3,seval,initFr,clsA,isv]
    have lc:=cfl_len L i k
    refine OW.appR ((ow.keeps k1).keeps ((Keeps.refl _).alloc _)) (Sl.one1 (row:=[.int .i64 ((k:Nat):Int)]) rfl rfl) (by simp;omega) ?_
    intro v' K' ow' c'
    simp(disch:=first|assumption|omega)only[W_block,P3,seval,initFr,clsA,hw]
    exact hn' _ _ _ ⟨k+1,v',_,_,_,_,rfl,by rw[cy (by rw[hcc];simp[hki]),List.map_append];exact ow',by omega,rfl⟩ (by omega)
 ·have c1:¬(k:Int)<((L.r.length:Nat):Int):=by omega
  have hke:k=L.r.length:=by omega
  subst hke
  simp(disch:=first|assumption|omega)only[W_block,P3,seval,initFr,clsA,c1]
  refine hx' _ _ _ ?_
  simp(disch:=first|assumption|omega)only[W_block,P3,seval,initFr,clsA]
  exact hq2 _ _ ⟨_,rfl,ow.base k0⟩
end Go.AM.Fd
