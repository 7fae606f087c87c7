/- Part of the proof. -/
import Derived.Test.YtpfnjeiiajeigaaGreatGCP05
set_option linter.unusedSimpArgs false
set_option linter.unusedVariables false
set_option maxRecDepth 100000
set_option maxHeartbeats 0
namespace Go.AM.F
def Bls:List Nat:=List.replicate 68 1
def Ax3:List Value:=[(.slice none 0 0),(.slice none 0 0),(.slice none 0 0),(.slice none 0 0),(.int .u64 0),(.int .u64 0),(.int .u64 0)]++List.replicate 64 (.int .u8 0)++[(.int .u32 0),(.int .i64 0),(.pointer none),(.int .i64 0),(.bool false),(.bool false),(.int .u64 0),(.int .u64 0),(.int .u64 0)]++List.replicate 64 (.int .u8 0)++[(.int .u32 0)]
def Bpj:List Value:=[(.int .u64 0),(.int .u64 0),(.int .u64 0)]++List.replicate 64 (.int .u8 0)++[(.int .u32 0)]
def Bpk:List Value:=[(.int .i64 0),(.int .i64 0),(.bool false),(.int .u64 0),(.int .u32 0),(.int .u32 0),(.slice none 0 0),(.bool false),(.int .u64 0),(.int .u32 0),(.int .u32 0),(.slice none 0 0),(.bool false),(.int .i64 0),(.int .i64 0),(.int .u64 0),(.int .u32 0),(.int .u32 0),(.slice none 0 0),(.bool false)]
def Aew:TypeId→List Value
 |46=>[(.int .u64 0),(.int .u32 0),(.int .u32 0),(.slice none 0 0)]
 |74=>Ax3
 |49=>[(.int .i64 0),(.int .i64 0),(.int .u64 0),(.int .u32 0),(.int .u32 0),(.slice none 0 0)]
 |126=>[(.int .i64 0),(.int .i64 0),(.int .u64 0),(.int .u32 0),(.int .u32 0),(.slice none 0 0)]
 |43=>Bpj
 |56=>[(.int .i64 0),(.int .i64 0),(.int .u64 0),(.int .u32 0)]
 |130=>[(.int .i64 0),(.int .i64 0),(.int .u64 0),(.int .u32 0)]
 |136=>Bpk
 |54=>[(.int .u64 0),(.int .u32 0)]
 |_=>[]
def Aex:TypeId→Value
 |_=>undef
def Aey:TypeId→List Nat
 |43=>Bls
 |54=>[1,1]
 |83=>[1,1]
 |_=>[]
def Aez:Nat→TypeId→List Value
 |_,_=>[]
noncomputable def f4:Aao:=by
 refine(fun(_:Cz Aew Aex Aey Aez Go.Proofs.Tryz.prog 0 [0,1,2,4,6,7,8,9,11,12,13,14,15,16,24,42,52,54,62,81,103] 4 ?a)=>?a) ?h
 case h=>
 intro zc zv zk zr hc hv hk hr
 conv=>lhs;cbv;try simp only[hc,hv,hk,hr,Aew,Aex,Aey,Aez]
theorem Blt:Aap Go.Proofs.Tryz.prog 0 [0,1,2,4,6,7,8,9,11,12,13,14,15,16,24,42,52,54,62,81,103] 4=some f4:=by kernel_rfl
theorem f4_n:Aaf Go.Proofs.Tryz.prog 4 3=true:=by kernel_rfl
noncomputable def f19:Aao:=by
 refine(fun(_:Cz Aew Aex Aey Aez Go.Proofs.Tryz.prog 0 [0,1,4,5,9,13,34] 19 ?a)=>?a) ?h
 case h=>
 intro zc zv zk zr hc hv hk hr
 conv=>lhs;cbv;try simp only[hc,hv,hk,hr,Aew,Aex,Aey,Aez]
theorem Beh:Aap Go.Proofs.Tryz.prog 0 [0,1,4,5,9,13,34] 19=some f19:=by kernel_rfl
theorem Blu:Aaf Go.Proofs.Tryz.prog 19 2=true:=by kernel_rfl
noncomputable def f21:Aao:=by
 refine(fun(_:Cz Aew Aex Aey Aez Go.Proofs.Tryz.prog 0 [0,1,3,4] 21 ?a)=>?a) ?h
 case h=>
 intro zc zv zk zr hc hv hk hr
 conv=>lhs;cbv;try simp only[hc,hv,hk,hr,Aew,Aex,Aey,Aez]
theorem Bei:Aap Go.Proofs.Tryz.prog 0 [0,1,3,4] 21=some f21:=by kernel_rfl
theorem Blv:Aaf Go.Proofs.Tryz.prog 21 2=true:=by kernel_rfl
noncomputable def f22:Aao:=by
 refine(fun(_:Cz Aew Aex Aey Aez Go.Proofs.Tryz.prog 0 [0,1,2,5,6,7,8,9,10,11,12,13,14,15,16,19,20,64,84,111,118,134] 22 ?a)=>?a) ?h
 case h=>
 intro zc zv zk zr hc hv hk hr
 conv=>lhs;cbv;try simp only[hc,hv,hk,hr,Aew,Aex,Aey,Aez]
theorem Bej:Aap Go.Proofs.Tryz.prog 0 [0,1,2,5,6,7,8,9,10,11,12,13,14,15,16,19,20,64,84,111,118,134] 22=some f22:=by kernel_rfl
theorem Blw:Aaf Go.Proofs.Tryz.prog 22 3=true:=by kernel_rfl
noncomputable def f24:Aao:=by
 refine(fun(_:Cz Aew Aex Aey Aez Go.Proofs.Tryz.prog 0 [0,2,3,21] 24 ?a)=>?a) ?h
 case h=>
 intro zc zv zk zr hc hv hk hr
 conv=>lhs;cbv;try simp only[hc,hv,hk,hr,Aew,Aex,Aey,Aez]
theorem Bek:Aap Go.Proofs.Tryz.prog 0 [0,2,3,21] 24=some f24:=by kernel_rfl
theorem Blx:Aaf Go.Proofs.Tryz.prog 24 1=true:=by kernel_rfl
noncomputable def f25:Aao:=by
 refine(fun(_:Cz Aew Aex Aey Aez Go.Proofs.Tryz.prog 0 [0,1,2,3,4] 25 ?a)=>?a) ?h
 case h=>
 intro zc zv zk zr hc hv hk hr
 conv=>lhs;cbv;try simp only[hc,hv,hk,hr,Aew,Aex,Aey,Aez]
theorem Bel:Aap Go.Proofs.Tryz.prog 0 [0,1,2,3,4] 25=some f25:=by kernel_rfl
theorem Bly:Aaf Go.Proofs.Tryz.prog 25 2=true:=by kernel_rfl
noncomputable def f49:Aao:=by
 refine(fun(_:Cz Aew Aex Aey Aez Go.Proofs.Tryz.prog 0 [0,2] 49 ?a)=>?a) ?h
 case h=>
 intro zc zv zk zr hc hv hk hr
 conv=>lhs;cbv;try simp only[hc,hv,hk,hr,Aew,Aex,Aey,Aez]
theorem Bem:Aap Go.Proofs.Tryz.prog 0 [0,2] 49=some f49:=by kernel_rfl
theorem Blz:Aaf Go.Proofs.Tryz.prog 49 1=true:=by kernel_rfl
noncomputable def f50:Aao:=by
 refine(fun(_:Cz Aew Aex Aey Aez Go.Proofs.Tryz.prog 0 [0,1,4,6] 50 ?a)=>?a) ?h
 case h=>
 intro zc zv zk zr hc hv hk hr
 conv=>lhs;cbv;try simp only[hc,hv,hk,hr,Aew,Aex,Aey,Aez]
theorem Ben:Aap Go.Proofs.Tryz.prog 0 [0,1,4,6] 50=some f50:=by kernel_rfl
theorem Bl0:Aaf Go.Proofs.Tryz.prog 50 2=true:=by kernel_rfl
noncomputable def f51:Aao:=by
 refine(fun(_:Cz Aew Aex Aey Aez Go.Proofs.Tryz.prog 0 [0,1,2,5,6,7,8,9,28,41] 51 ?a)=>?a) ?h
 case h=>
 intro zc zv zk zr hc hv hk hr
 conv=>lhs;cbv;try simp only[hc,hv,hk,hr,Aew,Aex,Aey,Aez]
theorem Beo:Aap Go.Proofs.Tryz.prog 0 [0,1,2,5,6,7,8,9,28,41] 51=some f51:=by kernel_rfl
theorem Bl1:Aaf Go.Proofs.Tryz.prog 51 3=true:=by kernel_rfl
noncomputable def f52:Aao:=by
 refine(fun(_:Cz Aew Aex Aey Aez Go.Proofs.Tryz.prog 0 [0,1,3,4,12] 52 ?a)=>?a) ?h
 case h=>
 intro zc zv zk zr hc hv hk hr
 conv=>lhs;cbv;try simp only[hc,hv,hk,hr,Aew,Aex,Aey,Aez]
theorem Bep:Aap Go.Proofs.Tryz.prog 0 [0,1,3,4,12] 52=some f52:=by kernel_rfl
theorem Bl2:Aaf Go.Proofs.Tryz.prog 52 2=true:=by kernel_rfl
noncomputable def f53:Aao:=by
 refine(fun(_:Cz Aew Aex Aey Aez Go.Proofs.Tryz.prog 0 [0,2,3,4,5,6,7,8,24] 53 ?a)=>?a) ?h
 case h=>
 intro zc zv zk zr hc hv hk hr
 conv=>lhs;cbv;try simp only[hc,hv,hk,hr,Aew,Aex,Aey,Aez]
theorem Beq:Aap Go.Proofs.Tryz.prog 0 [0,2,3,4,5,6,7,8,24] 53=some f53:=by kernel_rfl
theorem Bl3:Aaf Go.Proofs.Tryz.prog 53 1=true:=by kernel_rfl
noncomputable def f54:Aao:=by
 refine(fun(_:Cz Aew Aex Aey Aez Go.Proofs.Tryz.prog 0 [0,1,2,3,4] 54 ?a)=>?a) ?h
 case h=>
 intro zc zv zk zr hc hv hk hr
 conv=>lhs;cbv;try simp only[hc,hv,hk,hr,Aew,Aex,Aey,Aez]
theorem Ber:Aap Go.Proofs.Tryz.prog 0 [0,1,2,3,4] 54=some f54:=by kernel_rfl
theorem Bl4:Aaf Go.Proofs.Tryz.prog 54 2=true:=by kernel_rfl
noncomputable def f55:Aao:=by
 refine(fun(_:Cz Aew Aex Aey Aez Go.Proofs.Tryz.prog 0 [0,2,7] 55 ?a)=>?a) ?h
 case h=>
 intro zc zv zk zr hc hv hk hr
 conv=>lhs;cbv;try simp only[hc,hv,hk,hr,Aew,Aex,Aey,Aez]
theorem Bes:Aap Go.Proofs.Tryz.prog 0 [0,2,7] 55=some f55:=by kernel_rfl
theorem Bl5:Aaf Go.Proofs.Tryz.prog 55 1=true:=by kernel_rfl
noncomputable def f56:Aao:=by
 refine(fun(_:Cz Aew Aex Aey Aez Go.Proofs.Tryz.prog 0 [0,1,2,3,4,5,31] 56 ?a)=>?a) ?h
 case h=>
 intro zc zv zk zr hc hv hk hr
 conv=>lhs;cbv;try simp only[hc,hv,hk,hr,Aew,Aex,Aey,Aez]
theorem Bet:Aap Go.Proofs.Tryz.prog 0 [0,1,2,3,4,5,31] 56=some f56:=by kernel_rfl
theorem Bl6:Aaf Go.Proofs.Tryz.prog 56 2=true:=by kernel_rfl
noncomputable def f57:Aao:=by
 refine(fun(_:Cz Aew Aex Aey Aez Go.Proofs.Tryz.prog 0 [0,1,2,3,5,8,25] 57 ?a)=>?a) ?h
 case h=>
 intro zc zv zk zr hc hv hk hr
 conv=>lhs;cbv;try simp only[hc,hv,hk,hr,Aew,Aex,Aey,Aez]
theorem Beu:Aap Go.Proofs.Tryz.prog 0 [0,1,2,3,5,8,25] 57=some f57:=by kernel_rfl
theorem Bl7:Aaf Go.Proofs.Tryz.prog 57 4=true:=by kernel_rfl
noncomputable def f58:Aao:=by
 refine(fun(_:Cz Aew Aex Aey Aez Go.Proofs.Tryz.prog 0 [0,1,2,3,4,5,26] 58 ?a)=>?a) ?h
 case h=>
 intro zc zv zk zr hc hv hk hr
 conv=>lhs;cbv;try simp only[hc,hv,hk,hr,Aew,Aex,Aey,Aez]
theorem Bev:Aap Go.Proofs.Tryz.prog 0 [0,1,2,3,4,5,26] 58=some f58:=by kernel_rfl
theorem Bl8:Aaf Go.Proofs.Tryz.prog 58 2=true:=by kernel_rfl
noncomputable def f59:Aao:=by
 refine(fun(_:Cz Aew Aex Aey Aez Go.Proofs.Tryz.prog 0 [0,1,4,5,10,14,25] 59 ?a)=>?a) ?h
 case h=>
 intro zc zv zk zr hc hv hk hr
 conv=>lhs;cbv;try simp only[hc,hv,hk,hr,Aew,Aex,Aey,Aez]
theorem Bew:Aap Go.Proofs.Tryz.prog 0 [0,1,4,5,10,14,25] 59=some f59:=by kernel_rfl
theorem Bl9:Aaf Go.Proofs.Tryz.prog 59 2=true:=by kernel_rfl
noncomputable def f87:Aao:=by
 refine(fun(_:Cz Aew Aex Aey Aez Go.Proofs.Tryz.prog 0 [0,1,2,5,6,7,13,53] 87 ?a)=>?a) ?h
 case h=>
 intro zc zv zk zr hc hv hk hr
 conv=>lhs;cbv;try simp only[hc,hv,hk,hr,Aew,Aex,Aey,Aez]
theorem Bex:Aap Go.Proofs.Tryz.prog 0 [0,1,2,5,6,7,13,53] 87=some f87:=by kernel_rfl
theorem Bma:Aaf Go.Proofs.Tryz.prog 87 3=true:=by kernel_rfl
noncomputable def f88:Aao:=by
 refine(fun(_:Cz Aew Aex Aey Aez Go.Proofs.Tryz.prog 0 [0,1,3,4,12,19,26,41,73,78,94] 88 ?a)=>?a) ?h
 case h=>
 intro zc zv zk zr hc hv hk hr
 conv=>lhs;cbv;try simp only[hc,hv,hk,hr,Aew,Aex,Aey,Aez]
theorem Bey:Aap Go.Proofs.Tryz.prog 0 [0,1,3,4,12,19,26,41,73,78,94] 88=some f88:=by kernel_rfl
theorem Bmb:Aaf Go.Proofs.Tryz.prog 88 2=true:=by kernel_rfl
noncomputable def f91:Aao:=by
 refine(fun(_:Cz Aew Aex Aey Aez Go.Proofs.Tryz.prog 0 [0,2] 91 ?a)=>?a) ?h
 case h=>
 intro zc zv zk zr hc hv hk hr
 conv=>lhs;cbv;try simp only[hc,hv,hk,hr,Aew,Aex,Aey,Aez]
theorem Bez:Aap Go.Proofs.Tryz.prog 0 [0,2] 91=some f91:=by kernel_rfl
theorem Bmc:Aaf Go.Proofs.Tryz.prog 91 1=true:=by kernel_rfl
noncomputable def Bpl:Aao:=by
 refine(fun(_:Cz Aew Aex Aey Aez Go.Proofs.Tryz.prog 0 [0,1,2,3] 111 ?a)=>?a) ?h
 case h=>
 intro zc zv zk zr hc hv hk hr
 conv=>lhs;cbv;try simp only[hc,hv,hk,hr,Aew,Aex,Aey,Aez]
theorem A5r:Aap Go.Proofs.Tryz.prog 0 [0,1,2,3] 111=some Bpl:=by kernel_rfl
theorem Be0:Aaf Go.Proofs.Tryz.prog 111 1=true:=by kernel_rfl
end Go.AM.F

set_option maxRecDepth 8000
namespace Go.AM.Fd
open Nat (reduceAdd reduceEqDiff reduceLT reduceLeDiff reduceMul reduceSub)
open Go.Proofs Go.AM.F
def q64(f g:Nat→Bool):Bool:=((Aa3 f 64:Nat):Int)==((Aa3 g 64:Nat):Int)
def q32(f g:Nat→Bool):Bool:=((Aa3 f 32:Nat):Int)==((Aa3 g 32:Nat):Int)
theorem Am9(f g:Nat→Bool):Ab9 .eql (S64 f) (S64 g)=some (.bool (q64 f g)):=by unfold S64 q64;rw[Aqr]
theorem Aqz(f g:Nat→Bool):Ab9 .eql (S32 f) (S32 g)=some (.bool (q32 f g)):=by unfold S32 q32;rw[Aqr]
theorem Bi5(f g:Nat→Bool):q64 f g=q64 g f:=Bool.beq_comm
theorem A9b(f g:Nat→Bool):q32 f g=q32 g f:=Bool.beq_comm
theorem Bi6(f:Nat→Bool):q64 f f=true:=by simp[q64]
theorem A9c(f:Nat→Bool):q32 f f=true:=by simp[q32]
def Amb(x:Inp)(cs:List (Int×Int))(y:Inp)(ds:List (Int×Int)):Bool:=((q64 x.oc y.oc&&q32 x.nr y.nr)&&q32 x.rv y.rv)&&decide (cs=ds)
theorem Ay8(x:Inp)(cs:List (Int×Int))(y:Inp)(ds:List (Int×Int)):Amb x cs y ds=Amb y ds x cs:=by
 unfold Amb
 rw[Bi5,A9b x.nr,A9b x.rv]
 congr 1
 rw[decide_eq_decide]
 exact eq_comm
theorem Ay9(x:Inp)(cs:List (Int×Int)):Amb x cs x cs=true:=by unfold Amb;rw[Bi6,A9c,A9c];simp
theorem Axw(a b c d:Int)(H:Aaa):Aam (.eqs [1,1] true (.agg #[.int .u8 a,.int .i64 b]) (.agg #[.int .u8 c,.int .i64 d])) H=some (.bool (!decide ((a,b)=(c,d))),H):=by
 have:Aam (.eqs [1,1] true (.agg #[.int .u8 a,.int .i64 b]) (.agg #[.int .u8 c,.int .i64 d])) H=some (.bool (!((a==c)&&((b==d)&&true))),H):=rfl
 rw[this]
 congr 3
 by_cases h1:a=c<;>by_cases h2:b=d<;>simp[h1,h2]
theorem A9d{cs ds:List (Int×Int)}{i:Nat}(hi:i<cs.length)(hl:cs.length=ds.length)(h:cs.getD i (0,0)≠ds.getD i (0,0)):decide (cs=ds)=false:=by
 rw[decide_eq_false_iff_not];rintro rfl;exact h rfl
theorem Aza{cs ds:List (Int×Int)}(hl:cs.length=ds.length)(h:∀i,i<cs.length→cs.getD i (0,0)=ds.getD i (0,0)):decide (cs=ds)=true:=by
 rw[decide_eq_true_eq]
 refine List.ext_getElem hl fun i h1 h2=>?_
 have:=h i h1
 rw[List.getD_eq_getElem?_getD,List.getD_eq_getElem?_getD,List.getElem?_eq_getElem h1,List.getElem?_eq_getElem h2]at this
 exact this
theorem Bni{H:Aaa}{v w:Value}{cs ds:List (Int×Int)}(hc:CL H v cs)(hd:CL H w ds)(hcl:cs.length≤1000000)(hdl:ds.length≤1000000):
 ∃r H',Aau Tryz.prog 0 109 [v,w] H r H'∧r=.bool (decide (cs=ds))∧H'=H:=by
 refine gcb ?_
 refine Aaq A5p Bdz ?_
 intro Q hq1 hq2
 have ic:=Sl.is hc
 have id_:=Sl.is hd
 have lc:=hc.len
 have ld:=hd.len
 have no:decide (cs=ds)=false→∀{fr:List Value} {K:Aaa},Aac H K→Acx Bg8.res fr K=some (.bool false)→Q .ret fr K:=fun e fr K k hr=>hq2 _ _ ⟨_,hr,by rw[e],k⟩
 by_cases hl:cs.length=ds.length
 case neg=>
  have e:(((cs.length:Nat):Int) != ((ds.length:Nat):Int))=true:=by simp;omega
  simp(disch:=first|assumption|omega)only[Bg8,P4,seval,ic,id_,lc,ld,e]
  exact no (by rw[decide_eq_false_iff_not];rintro rfl;exact hl rfl) (Aac.refl H) rfl
 case pos=>
 have e:(((cs.length:Nat):Int) != ((ds.length:Nat):Int))=false:=by simp;omega
 simp(disch:=first|assumption|omega)only[Bg8,P3,seval,Aak,Aat,ic,id_,lc,ld,e]
 rw[Aah]
 refine Aan (fun q fr K=>∃i x3 x4 x9 x10,fr=[v,w,.bool false,x3,x4,.bool false,v,.int .i64 ((cs.length:Nat):Int),.int .i64 ((i:Nat):Int),x9,x10]∧Aac H K∧(∀j,j<i→cs.getD j (0,0)=ds.getD j (0,0))∧i≤cs.length∧q=cs.length-i) cs.length
  ⟨0,_,_,_,_,rfl,Aac.refl H,fun j hj=>absurd hj (by omega),by omega,rfl⟩ ?_
 rintro Q' q fr K ⟨i,x3,x4,x9,x10,rfl,kK,hall,hi,rfl⟩ hn' hx' hret
 by_cases hlt:i<cs.length
 ·have kA:=(Aac.refl K).alloc (.cells true false 2 [.int .u8 (cs.getD i (0,0)).1,.int .i64 (cs.getD i (0,0)).2] 83)
  obtain⟨na,ra⟩:=(hc.keeps kK).at_ hlt
  obtain⟨nb,rb⟩:=((hd.keeps kK).keeps kA).at_ (i:=i) (by omega)
  have e0:(0:Int)≤(i:Int):=by omega
  have e1:(i:Int)<((cs.length:Nat):Int):=by omega
  have e2:(i:Int)<((ds.length:Nat):Int):=by omega
  have hw:IntKind.i64.wrap ((i:Int)+1)=((i+1:Nat):Int):=by rw[Aae (by omega) (by omega)];simp
  by_cases he:cs.getD i (0,0)=ds.getD i (0,0)
  ·have hne:decide ((((cs.getD i (0,0)).1,(cs.getD i (0,0)).2):Int×Int)=((ds.getD i (0,0)).1,(ds.getD i (0,0)).2))=true:=by rw[decide_eq_true_eq];exact he
   simp(disch:=first|assumption|omega|(simp only[LN]<;>omega)|(simp(disch:=first|assumption|omega|(simp only[LN]<;>omega))only[Aab,Aad];assumption))only[P4,seval,e1,e0,e2,na,ra,nb,rb,lc,ld,Aai,Axw,hne,hw]
   refine hn' _ _ _ ⟨i+1,_,_,_,_,rfl,kK.trans kA,fun j hj=>?_,by omega,rfl⟩ (by omega)
   rcases Nat.lt_or_ge j i with h|h
   ·exact hall j h
   ·have:j=i:=by omega
    subst this;exact he
  ·have hne:decide ((((cs.getD i (0,0)).1,(cs.getD i (0,0)).2):Int×Int)=((ds.getD i (0,0)).1,(ds.getD i (0,0)).2))=false:=by rw[decide_eq_false_iff_not];exact he
   simp(disch:=first|assumption|omega|(simp only[LN]<;>omega)|(simp(disch:=first|assumption|omega|(simp only[LN]<;>omega))only[Aab,Aad];assumption))only[P4,seval,e1,e0,e2,na,ra,nb,rb,lc,ld,Aai,Axw,hne]
   exact hret _ _ (no (A9d hlt hl he) (kK.trans kA) rfl)
 ·have e1:¬(i:Int)<((cs.length:Nat):Int):=by omega
  have hil:i=cs.length:=by omega
  subst hil
  simp(disch:=first|assumption|omega)only[P4,seval,e1]
  refine hx' _ _ _ ?_
  simp(disch:=first|assumption|omega)only[P4,seval]
  exact hq2 _ _ ⟨.bool true,rfl,by rw[Aza hl hall],kK⟩
theorem t59{H:Aaa}{v w:Value}{cs ds:List (Int×Int)}(hc:CL H v cs)(hd:CL H w ds)(hcl:cs.length≤1000000)(hdl:ds.length≤1000000):
 ∃r H',Aau Tryz.prog 0 59 [v,w] H r H'∧r=.bool (decide (cs=ds))∧H'=H:=by
 refine gcb ?_
 refine Aaq Bew Bl9 ?_
 intro Q hq1 hq2
 have ic:=Sl.is hc
 have id_:=Sl.is hd
 have lc:=hc.len
 have ld:=hd.len
 have no:decide (cs=ds)=false→∀{fr:List Value} {K:Aaa},Aac H K→Acx f59.res fr K=some (.bool false)→Q .ret fr K:=fun e fr K k hr=>hq2 _ _ ⟨_,hr,by rw[e],k⟩
 by_cases hl:cs.length=ds.length
 case neg=>
  have e:(((cs.length:Nat):Int) != ((ds.length:Nat):Int))=true:=by simp;omega
  simp(disch:=first|assumption|omega)only[f59,P4,seval,ic,id_,lc,ld,e]
  exact no (by rw[decide_eq_false_iff_not];rintro rfl;exact hl rfl) (Aac.refl H) rfl
 case pos=>
 have e:(((cs.length:Nat):Int) != ((ds.length:Nat):Int))=false:=by simp;omega
 simp(disch:=first|assumption|omega)only[f59,P3,seval,Aak,Aat,ic,id_,lc,ld,e]
 rw[Aah]
 refine Aan (fun q fr K=>∃i x5 x6,fr=[v,w,.bool false,.int .i64 ((i:Nat):Int),.bool false,x5,x6]∧K=H∧(∀j,j<i→cs.getD j (0,0)=ds.getD j (0,0))∧i≤cs.length∧q=cs.length-i) cs.length
  ⟨0,_,_,rfl,rfl,fun j hj=>absurd hj (by omega),by omega,rfl⟩ ?_
 rintro Q' q fr K ⟨i,x5,x6,rfl,rfl,hall,hi,rfl⟩ hn' hx' hret
 by_cases hlt:i<cs.length
 ·obtain⟨na,ra⟩:=hc.at_ hlt
  obtain⟨nb,rb⟩:=hd.at_ (i:=i) (by omega)
  have e0:(0:Int)≤(i:Int):=by omega
  have e1:(i:Int)<((cs.length:Nat):Int):=by omega
  have e2:(i:Int)<((ds.length:Nat):Int):=by omega
  have hw:IntKind.i64.wrap ((i:Int)+1)=((i+1:Nat):Int):=by rw[Aae (by omega) (by omega)];simp
  by_cases he:cs.getD i (0,0)=ds.getD i (0,0)
  ·have hne:decide ((((cs.getD i (0,0)).1,(cs.getD i (0,0)).2):Int×Int)=((ds.getD i (0,0)).1,(ds.getD i (0,0)).2))=true:=by rw[decide_eq_true_eq];exact he
   simp(disch:=first|assumption|omega)only[P4,seval,e1,e0,e2,na,ra,nb,rb,ic,lc,ld,Aai,Axw,hne,hw]
   refine hn' _ _ _ ⟨i+1,_,_,rfl,rfl,fun j hj=>?_,by omega,rfl⟩ (by omega)
   rcases Nat.lt_or_ge j i with h|h
   ·exact hall j h
   ·have:j=i:=by omega
    subst this;exact he
  ·have hne:decide ((((cs.getD i (0,0)).1,(cs.getD i (0,0)).2):Int×Int)=((ds.getD i (0,0)).1,(ds.getD i (0,0)).2))=false:=by rw[decide_eq_false_iff_not];exact he
   simp(disch:=first|assumption|omega)only[P4,seval,e1,e0,e2,na,ra,nb,rb,ic,lc,ld,Aai,Axw,hne]
   exact hret _ _ (no (A9d hlt hl he) (Aac.refl K) rfl)
 ·have e1:¬(i:Int)<((cs.length:Nat):Int):=by omega
  have hil:i=cs.length:=by omega
  subst hil
  simp(disch:=first|assumption|omega)only[P4,seval,ic,lc,e1]
  refine hx' _ _ _ ?_
  simp(disch:=first|assumption|omega)only[P4,seval]
  exact hq2 _ _ ⟨.bool true,rfl,by rw[Aza hl hall],Aac.refl K⟩
theorem t73{H:Aaa}{x y:Inp}{v w:Value}{cs ds:List (Int×Int)}(hc:CL H v cs)(hd:CL H w ds)(hcl:cs.length≤1000000)(hdl:ds.length≤1000000):
 ∃r H',Aau Tryz.prog 0 73 [.agg (inl x v).toArray,.agg (inl y w).toArray] H r H'∧r=.bool (Amb x cs y ds)∧H'=H:=by
 refine gcb ?_
 refine Aaq Bdw Bk8 ?_
 intro Q hq1 hq2
 have oc:=Sl.one hc
 have od:=Sl.one hd
 have k0:=((Aac.refl H).alloc (.cells true false 4 (inl x v) 46)).alloc (.cells true false 4 (inl y w) 46)
 have e1:inl x v=[S64 x.oc,S32 x.nr,S32 x.rv,v]:=rfl
 have e2:inl y w=[S64 y.oc,S32 y.nr,S32 y.rv,w]:=rfl
 rw[e1,e2]at k0 ⊢
 have hs:Amb x cs y ds=(((q64 x.oc y.oc&&q32 x.nr y.nr)&&q32 x.rv y.rv)&&decide (cs=ds)):=rfl
 rw[hs]at hq1 hq2
 cases h1:q64 x.oc y.oc with
 |false=>
  rw[h1]at hq2
  simp(disch:=first|assumption|omega|(simp only[LN]<;>omega)|(simp(disch:=first|assumption|omega|(simp only[LN]<;>omega))only[Aab,Aad];assumption))only[f73,P4,seval,oc,od,O4,Am9,h1]
  exact hq2 _ _ ⟨.bool false,rfl,rfl,k0⟩
 |true=>
 rw[h1]at hq2
 cases h2:q32 x.nr y.nr with
 |false=>
  rw[h2]at hq2
  simp(disch:=first|assumption|omega|(simp only[LN]<;>omega)|(simp(disch:=first|assumption|omega|(simp only[LN]<;>omega))only[Aab,Aad];assumption))only[f73,P4,seval,oc,od,O4,Am9,Aqz,h1,h2]
  exact hq2 _ _ ⟨.bool false,rfl,rfl,k0⟩
 |true=>
 rw[h2]at hq2
 cases h3:q32 x.rv y.rv with
 |false=>
  rw[h3]at hq2
  simp(disch:=first|assumption|omega|(simp only[LN]<;>omega)|(simp(disch:=first|assumption|omega|(simp only[LN]<;>omega))only[Aab,Aad];assumption))only[f73,P4,seval,oc,od,O4,Am9,Aqz,h1,h2,h3]
  exact hq2 _ _ ⟨.bool false,rfl,rfl,k0⟩
 |true=>
 rw[h3]at hq2
 have tA:=Bni (hc.keeps k0) (hd.keeps k0) hcl hdl
 simp(disch:=first|assumption|omega|(simp only[LN]<;>omega)|(simp(disch:=first|assumption|omega|(simp only[LN]<;>omega))only[Aab,Aad];assumption))only[f73,P4,seval,oc,od,O4,Am9,Aqz,h1,h2,h3]
 refine Aag tA ?_
 rintro _ X ⟨rfl,hX⟩
 rw[hX]
 simp(disch:=first|assumption|omega)only[P4,seval]
 exact hq2 _ _ ⟨.bool _,rfl,by simp,k0⟩
theorem t25{H:Aaa}{x y:Inp}{v w:Value}{cs ds:List (Int×Int)}(hc:CL H v cs)(hd:CL H w ds)(hcl:cs.length≤1000000)(hdl:ds.length≤1000000):
 ∃r H',Aau Tryz.prog 0 25 [.agg (inl x v).toArray,.agg (inl y w).toArray] H r H'∧r=.bool (Amb x cs y ds)∧H'=H:=by
 refine gcb ?_
 refine Aaq Bel Bly ?_
 intro Q hq1 hq2
 have oc:=Sl.one hc
 have od:=Sl.one hd
 have k0:=((Aac.refl H).alloc (.cells true false 4 (inl x v) 46)).alloc (.cells true false 4 (inl y w) 46)
 have e1:inl x v=[S64 x.oc,S32 x.nr,S32 x.rv,v]:=rfl
 have e2:inl y w=[S64 y.oc,S32 y.nr,S32 y.rv,w]:=rfl
 rw[e1,e2]at k0 ⊢
 have hs:Amb x cs y ds=(((q64 x.oc y.oc&&q32 x.nr y.nr)&&q32 x.rv y.rv)&&decide (cs=ds)):=rfl
 rw[hs]at hq1 hq2
 cases h1:q64 x.oc y.oc with
 |false=>
  rw[h1]at hq2
  simp(disch:=first|assumption|omega|(simp only[LN]<;>omega)|(simp(disch:=first|assumption|omega|(simp only[LN]<;>omega))only[Aab,Aad];assumption))only[f25,P4,seval,oc,od,O4,Am9,h1]
  exact hq2 _ _ ⟨.bool false,rfl,rfl,k0⟩
 |true=>
 rw[h1]at hq2
 cases h2:q32 x.nr y.nr with
 |false=>
  rw[h2]at hq2
  simp(disch:=first|assumption|omega|(simp only[LN]<;>omega)|(simp(disch:=first|assumption|omega|(simp only[LN]<;>omega))only[Aab,Aad];assumption))only[f25,P4,seval,oc,od,O4,Am9,Aqz,h1,h2]
  exact hq2 _ _ ⟨.bool false,rfl,rfl,k0⟩
 |true=>
 rw[h2]at hq2
 cases h3:q32 x.rv y.rv with
 |false=>
  rw[h3]at hq2
  simp(disch:=first|assumption|omega|(simp only[LN]<;>omega)|(simp(disch:=first|assumption|omega|(simp only[LN]<;>omega))only[Aab,Aad];assumption))only[f25,P4,seval,oc,od,O4,Am9,Aqz,h1,h2,h3]
  exact hq2 _ _ ⟨.bool false,rfl,rfl,k0⟩
 |true=>
 rw[h3]at hq2
 have tA:=t59 (hc.keeps k0) (hd.keeps k0) hcl hdl
 simp(disch:=first|assumption|omega|(simp only[LN]<;>omega)|(simp(disch:=first|assumption|omega|(simp only[LN]<;>omega))only[Aab,Aad];assumption))only[f25,P4,seval,oc,od,O4,Am9,Aqz,h1,h2,h3]
 refine Aag tA ?_
 rintro _ X ⟨rfl,hX⟩
 rw[hX]
 simp(disch:=first|assumption|omega)only[P4,seval]
 exact hq2 _ _ ⟨.bool _,rfl,by simp,k0⟩
theorem _root_.Go.AM.OW.slc{e z:Nat}{H K:Aaa}{v:Value}{rows:List (List Value)}(h:OW e z H K v rows):SlC K z v rows:=by
 refine⟨h.sl,?_⟩
 rcases h.ap with⟨rfl,_,_⟩|⟨b,room,rfl,_,h2⟩
 ·exact .inl rfl
 ·exact .inr (.inr ⟨b,_,_,_,_,_,_,rfl,Nat.le_refl _,h2⟩)
theorem SlC.chg{H K:Aaa}{z:Nat}{v:Value}{rows:List (List Value)}{S:List Nat}(h:SlC H z v rows)(k:Chg S H K)(hS:∀b,blk v=some b→b∉S):SlC K z v rows:=by
 refine⟨Sl.chg h.s k hS,?_⟩
 rcases h.c with e|e|⟨b,n,m,o,r,c,u,e1,e2,e3⟩
 ·exact .inl e
 ·exact .inr (.inl e)
 ·exact .inr (.inr ⟨b,n,m,o,r,c,u,e1,e2,k.at_ e3 (hS b (by rw[e1];rfl))⟩)
structure Amq (H K:Aaa) (v:Value) (cs:List (Int×Int)):Prop where
 k:Aac H K
 c:SlC K 2 v (cs.map Aft)
 f:Acy H.n v
theorem _root_.Go.AM.OW.newC{H K:Aaa}{v:Value}{cs:List (Int×Int)}{e:Nat}(h:OW e 2 H K v (cs.map Aft)):Amq H K v cs:=⟨h.k,h.slc,h.f⟩
theorem Bnj{H:Aaa}{v:Value}{cs:List (Int×Int)}(hc:CL H v cs)(hcl:cs.length≤1000000):∃w K,Aau Tryz.prog 0 108 [v] H w K∧Amq H K w cs:=by
 refine Aaq A5o Bdy ?_
 intro Q hq1 hq2
 obtain⟨a,k,rfl⟩:=hc.sh
 cases a with
 |none=>
  have:cs=[]:=by
   have:=hc.el
   simp only[Aa6,Option.some.injEq]at this
   have h2:=hc.len
   cases cs with
   |nil=>rfl
   |cons c r=>simp[Aft]at this
  subst this
  simp(disch:=first|assumption|omega)only[Bla,P4,seval,A2g,eqA,Option.isNone_none]
  exact hq2 _ _ ⟨.slice none 0 0,rfl,Aac.refl H,⟨Sl.nil _ _,.inl rfl⟩,fun b hb=>by cases hb⟩
 |some a=>
  have kA:=(Aac.refl H).alloc (.cells true false 2 [] 83)
  have ow0:OW 83 2 H (H.alloc (.cells true false 2 [] 83)) (slc H.n 0 0 0) []:=⟨.inr ⟨_,_,rfl,rfl,Aaa.Bp6 H _⟩,by simp,kA,fun b hb=>by cases hb;exact Nat.le_refl _⟩
  have one:(Value.slice (some a) (cs.map Aft).length k).oneCell'=true:=rfl
  simp(disch:=first|assumption|omega)only[Bla,P4,seval,A2g,eqA,Option.isNone_some]
  refine OW.appR ow0 (Sl.keeps hc kA) (by simp;omega) ?_
  intro v' K' ow' _
  simp(disch:=first|assumption|omega)only[P4,seval]
  exact hq2 _ _ ⟨_,rfl,OW.newC ow'⟩
theorem Azb(a b c:Nat→Bool):Aa4 [.int .u64 0,.int .u32 0,.int .u32 0,.slice none 0 0] [(0,1,S64 a),(1,1,S32 b),(2,1,S32 c)]=some [S64 a,S32 b,S32 c,.slice none 0 0]:=rfl
def Agv(x y:Inp):Inp:=⟨fun i=>x.oc i||y.oc i,fun i=>x.nr i&&y.nr i,fun i=>x.rv i&&y.rv i⟩
def Ana(cs ds:List (Int×Int)):List (Int×Int):=if cs=ds then cs else[]
theorem t74{H:Aaa}{x y:Inp}{v w:Value}{cs ds:List (Int×Int)}(hc:CL H v cs)(hd:CL H w ds)(hcl:cs.length≤1000000)(hdl:ds.length≤1000000):
 ∃r K,Aau Tryz.prog 0 74 [.agg (inl x v).toArray,.agg (inl y w).toArray] H r K∧∃z,r=.agg (inl (Agv x y) z).toArray∧Amq H K z (Ana cs ds):=by
 refine Aaq Bdx Bk9 ?_
 intro Q hq1 hq2
 have oc:=Sl.one hc
 have od:=Sl.one hd
 obtain⟨K0,hK0⟩:∃X,X=(((H.alloc (.cells true false 4 (inl x v) 46)).alloc (.cells true false 4 (inl y w) 46)).alloc (.cells true false 4 [.int .u64 0,.int .u32 0,.int .u32 0,.slice none 0 0] 46)).alloc (.cells true false 4 (inl (Agv x y) (.slice none 0 0)) 46):=⟨_,rfl⟩
 have k0:Aac H K0:=by rw[hK0];exact((((Aac.refl H).alloc _).alloc _).alloc _).alloc _
 have n0:K0.n=H.n+4:=by rw[hK0];rfl
 have g0:K0.get H.n=some (.cells true false 4 (inl x v) 46):=by rw[hK0];exact((((Aac.refl _).alloc _).alloc _).alloc _).at_ (Aaa.Bp6 H _)
 have g1:K0.get (H.n+1)=some (.cells true false 4 (inl y w) 46):=by rw[hK0];exact(((Aac.refl _).alloc _).alloc _).at_ (Aaa.Bp6 (H.alloc _) _)
 have g2:K0.get (H.n+2)=some (.cells true false 4 [.int .u64 0,.int .u32 0,.int .u32 0,.slice none 0 0] 46):=by rw[hK0];exact((Aac.refl _).alloc _).at_ (Aaa.Bp6 ((H.alloc _).alloc _) _)
 have g3:K0.get (H.n+3)=some (.cells true false 4 (inl (Agv x y) (.slice none 0 0)) 46):=by rw[hK0];exact Aaa.Bp6 (((H.alloc _).alloc _).alloc _) _
 have e1:inl x v=[S64 x.oc,S32 x.nr,S32 x.rv,v]:=rfl
 have e2:inl y w=[S64 y.oc,S32 y.nr,S32 y.rv,w]:=rfl
 have e3:∀z,inl (Agv x y) z=[S64 fun i=>x.oc i||y.oc i,S32 fun i=>x.nr i&&y.nr i,S32 fun i=>x.rv i&&y.rv i,z]:=fun _=>rfl
 rw[e1]at g0 hK0
 rw[e2]at g1 hK0
 rw[e3]at g3 hK0
 rw[e1,e2]
 simp only[e3]at hq1 hq2
 have l2:=Aaa.Bp9 g2
 have l3:=Aaa.Bp9 g3
 have fin:∀{Y Z:Aaa} {z:Value} {es:List (Int×Int)} {fr:List Value},Aac K0 Y→Chg [H.n+1+1,H.n+1+1+1] Y Z→SlC Y 2 z (es.map Aft)→Acy K0.n z→es=Ana cs ds→Z.get (H.n+1+1)=some (.cells true false 4 (inl (Agv x y) z) 46)→fr[4]? =some (ptr (H.n+1+1) 0)→
  Q .ret fr Z:=by
  intro Y Z z es fr kY cZ hz fz he gZ hfr
  have hn:∀b,blk z=some b→K0.n≤b:=fz
  have hz2:=hz.chg cZ (fun b hb hm=>by have:=hn b hb;simp at hm;omega)
  refine hq2 _ _ ⟨_,?_,z,rfl,⟨(k0.trans kY).Bqa cZ (by simp;omega),by rw[←he];exact hz2,fun b hb=>by have:=hn b hb;omega⟩⟩
  show Acx [.cn 4 4] _ _=_
  have hgd:fr.getD 4 undef=ptr (H.n+1+1) 0:=by rw[List.getD_eq_getElem?_getD,hfr];rfl
  have hr4:∀c:List Value,c.length=4→Adz (some (.cells true false 4 c 46)) 0 4=some c:=fun c h=>Abx h
  rw[Aqx,hgd,Acq,Abj,gZ,hr4 _ rfl]
  rfl
 have tA:=Bni (hc.keeps k0) (hd.keeps k0) hcl hdl
 simp(disch:=first|assumption|omega|(simp only[LN]<;>omega)|(simp(disch:=first|assumption|omega|(simp only[LN]<;>omega))only[Aab,Aad];assumption))only[f74,P4,seval,oc,od,O4,Ahh,Afr,Azb]
 rw[←hK0]
 refine Aag tA ?_
 rintro _ X ⟨rfl,hX⟩
 rw[hX]
 by_cases hcd:cs=ds
 ·have hd':decide (cs=ds)=true:=by simp[hcd]
  have hm:Ana cs ds=cs:=by unfold Ana;rw[if_pos hcd]
  rw[hd']
  simp(disch:=first|assumption|omega)only[P4,seval,g0,g1]
  refine Aag (Bnj (hc.keeps k0) hcl) ?_
  rintro z Y nc
  have kY:=nc.k
  have gY2:=kY.at_ g2
  have gY3:=kY.at_ g3
  have lY2:=Aaa.Bp9 gY2
  have lY3:=Aaa.Bp9 gY3
  have oz:=Sl.one nc.c.s
  simp(disch:=first|assumption|omega|(simp only[LN]<;>omega)|(simp(disch:=first|assumption|omega|(simp only[LN]<;>omega))only[Aab,Aad];assumption))only[P4,seval,gY2,gY3,oz,O4]
  refine fin kY ((Chg.set Y lY3 _).mono (by simp) |>.trans (Chg.set _ (by rw[Ab7];exact lY2) _) (by simp)) nc.c nc.f hm.symm (Aaa.Bp7 ((Aaa.Bp8 Y (by omega) lY3 _).trans gY2) _) rfl
 ·have hd':decide (cs=ds)=false:=by simp[hcd]
  have hm:Ana cs ds=[]:=by unfold Ana;rw[if_neg hcd]
  rw[hd']
  simp(disch:=first|assumption|omega|(simp only[LN]<;>omega)|(simp(disch:=first|assumption|omega|(simp only[LN]<;>omega))only[Aab,Aad];assumption))only[P4,seval,g3,g2,O4]
  exact fin (Aac.refl _) ((Chg.set K0 l2 _).mono (by simp)) ⟨Sl.nil _ _,.inl rfl⟩ (fun b hb=>by cases hb) hm.symm (Aaa.Bp7 g2 _) rfl
theorem t58{H:Aaa}{x y:Inp}{v w:Value}{cs ds:List (Int×Int)}(hc:CL H v cs)(hd:CL H w ds)(hcl:cs.length≤1000000)(hdl:ds.length≤1000000):
 ∃r K,Aau Tryz.prog 0 58 [.agg (inl x v).toArray,.agg (inl y w).toArray] H r K∧∃z,r=.agg (inl (Agv x y) z).toArray∧Amq H K z (Ana cs ds):=by
 refine Aaq Bev Bl8 ?_
 intro Q hq1 hq2
 have oc:=Sl.one hc
 have od:=Sl.one hd
 obtain⟨K0,hK0⟩:∃X,X=(((H.alloc (.cells true false 4 (inl x v) 46)).alloc (.cells true false 4 (inl y w) 46)).alloc (.cells true false 4 [.int .u64 0,.int .u32 0,.int .u32 0,.slice none 0 0] 46)).alloc (.cells true false 4 (inl (Agv x y) (.slice none 0 0)) 46):=⟨_,rfl⟩
 have k0:Aac H K0:=by rw[hK0];exact((((Aac.refl H).alloc _).alloc _).alloc _).alloc _
 have n0:K0.n=H.n+4:=by rw[hK0];rfl
 have g0:K0.get H.n=some (.cells true false 4 (inl x v) 46):=by rw[hK0];exact((((Aac.refl _).alloc _).alloc _).alloc _).at_ (Aaa.Bp6 H _)
 have g1:K0.get (H.n+1)=some (.cells true false 4 (inl y w) 46):=by rw[hK0];exact(((Aac.refl _).alloc _).alloc _).at_ (Aaa.Bp6 (H.alloc _) _)
 have g2:K0.get (H.n+2)=some (.cells true false 4 [.int .u64 0,.int .u32 0,.int .u32 0,.slice none 0 0] 46):=by rw[hK0];exact((Aac.refl _).alloc _).at_ (Aaa.Bp6 ((H.alloc _).alloc _) _)
 have g3:K0.get (H.n+3)=some (.cells true false 4 (inl (Agv x y) (.slice none 0 0)) 46):=by rw[hK0];exact Aaa.Bp6 (((H.alloc _).alloc _).alloc _) _
 have e1:inl x v=[S64 x.oc,S32 x.nr,S32 x.rv,v]:=rfl
 have e2:inl y w=[S64 y.oc,S32 y.nr,S32 y.rv,w]:=rfl
 have e3:∀z,inl (Agv x y) z=[S64 fun i=>x.oc i||y.oc i,S32 fun i=>x.nr i&&y.nr i,S32 fun i=>x.rv i&&y.rv i,z]:=fun _=>rfl
 rw[e1]at g0 hK0
 rw[e2]at g1 hK0
 rw[e3]at g3 hK0
 rw[e1,e2]
 simp only[e3]at hq1 hq2
 have l2:=Aaa.Bp9 g2
 have l3:=Aaa.Bp9 g3
 have fin:∀{Y Z:Aaa} {z:Value} {es:List (Int×Int)} {fr:List Value},Aac K0 Y→Chg [H.n+1+1,H.n+1+1+1] Y Z→SlC Y 2 z (es.map Aft)→Acy K0.n z→es=Ana cs ds→Z.get (H.n+1+1)=some (.cells true false 4 (inl (Agv x y) z) 46)→fr[4]? =some (ptr (H.n+1+1) 0)→
  Q .ret fr Z:=by
  intro Y Z z es fr kY cZ hz fz he gZ hfr
  have hn:∀b,blk z=some b→K0.n≤b:=fz
  have hz2:=hz.chg cZ (fun b hb hm=>by have:=hn b hb;simp at hm;omega)
  refine hq2 _ _ ⟨_,?_,z,rfl,⟨(k0.trans kY).Bqa cZ (by simp;omega),by rw[←he];exact hz2,fun b hb=>by have:=hn b hb;omega⟩⟩
  show Acx [.cn 4 4] _ _=_
  have hgd:fr.getD 4 undef=ptr (H.n+1+1) 0:=by rw[List.getD_eq_getElem?_getD,hfr];rfl
  have hr4:∀c:List Value,c.length=4→Adz (some (.cells true false 4 c 46)) 0 4=some c:=fun c h=>Abx h
  rw[Aqx,hgd,Acq,Abj,gZ,hr4 _ rfl]
  rfl
 have tA:=t59 (hc.keeps k0) (hd.keeps k0) hcl hdl
 simp(disch:=first|assumption|omega|(simp only[LN]<;>omega)|(simp(disch:=first|assumption|omega|(simp only[LN]<;>omega))only[Aab,Aad];assumption))only[f58,P4,seval,oc,od,O4,Ahh,Afr,Azb]
 rw[←hK0]
 refine Aag tA ?_
 rintro _ X ⟨rfl,hX⟩
 rw[hX]
 by_cases hcd:cs=ds
 ·have hd':decide (cs=ds)=true:=by simp[hcd]
  have hm:Ana cs ds=cs:=by unfold Ana;rw[if_pos hcd]
  rw[hd']
  simp(disch:=first|assumption|omega)only[P4,seval,g0,g1,g3]
  refine OW.appR (OW.nil 83 2 (Aac.refl K0)) (Sl.keeps hc k0) (by simp;omega) ?_
  intro z Y ow _
  have nc:=OW.newC ow
  have kY:=nc.k
  have gY2:=kY.at_ g2
  have gY3:=kY.at_ g3
  have lY2:=Aaa.Bp9 gY2
  have lY3:=Aaa.Bp9 gY3
  have oz:=Sl.one nc.c.s
  simp(disch:=first|assumption|omega|(simp only[LN]<;>omega)|(simp(disch:=first|assumption|omega|(simp only[LN]<;>omega))only[Aab,Aad];assumption))only[P4,seval,gY2,gY3,oz,O4]
  refine fin kY ((Chg.set Y lY3 _).mono (by simp) |>.trans (Chg.set _ (by rw[Ab7];exact lY2) _) (by simp)) nc.c nc.f hm.symm (Aaa.Bp7 ((Aaa.Bp8 Y (by omega) lY3 _).trans gY2) _) rfl
 ·have hd':decide (cs=ds)=false:=by simp[hcd]
  have hm:Ana cs ds=[]:=by unfold Ana;rw[if_neg hcd]
  rw[hd']
  simp(disch:=first|assumption|omega|(simp only[LN]<;>omega)|(simp(disch:=first|assumption|omega|(simp only[LN]<;>omega))only[Aab,Aad];assumption))only[P4,seval,g3,g2,O4]
  exact fin (Aac.refl _) ((Chg.set K0 l2 _).mono (by simp)) ⟨Sl.nil _ _,.inl rfl⟩ (fun b hb=>by cases hb) hm.symm (Aaa.Bp7 g2 _) rfl
theorem Bg1{H:Aaa}{x:Inp}{v:Value}{cs:List (Int×Int)}(hc:CL H v cs)(hcl:cs.length≤1000000):
 ∃r K,Aau Tryz.prog 0 111 [.agg (inl x v).toArray] H r K∧∃z,r=.agg (inl x z).toArray∧Amq H K z cs:=by
 refine Aaq A5r Be0 ?_
 intro Q hq1 hq2
 have oc:=Sl.one hc
 have e1:∀z,inl x z=[S64 x.oc,S32 x.nr,S32 x.rv,z]:=fun _=>rfl
 simp only[e1]at hq1 hq2 ⊢
 obtain⟨K0,hK0⟩:∃X,X=((H.alloc (.cells true false 4 [S64 x.oc,S32 x.nr,S32 x.rv,v] 46)).alloc (.cells true false 4 [.int .u64 0,.int .u32 0,.int .u32 0,.slice none 0 0] 46)).alloc (.cells true false 4 [S64 x.oc,S32 x.nr,S32 x.rv,.slice none 0 0] 46):=⟨_,rfl⟩
 have k0:Aac H K0:=by rw[hK0];exact(((Aac.refl H).alloc _).alloc _).alloc _
 have n0:K0.n=H.n+3:=by rw[hK0];rfl
 have g1:K0.get (H.n+1)=some (.cells true false 4 [.int .u64 0,.int .u32 0,.int .u32 0,.slice none 0 0] 46):=by rw[hK0];exact((Aac.refl _).alloc _).at_ (Aaa.Bp6 (H.alloc _) _)
 have g2:K0.get (H.n+2)=some (.cells true false 4 [S64 x.oc,S32 x.nr,S32 x.rv,.slice none 0 0] 46):=by rw[hK0];exact Aaa.Bp6 ((H.alloc _).alloc _) _
 simp(disch:=first|assumption|omega|(simp only[LN]<;>omega)|(simp(disch:=first|assumption|omega|(simp only[LN]<;>omega))only[Aab,Aad];assumption))only[Bpl,P4,seval,oc,O4]
 rw[←hK0]
 refine OW.appR (OW.nil 83 2 (Aac.refl K0)) (Sl.keeps hc k0) (by simp;omega) ?_
 intro z Y ow _
 have nc:=OW.newC ow
 have hn:∀b,blk z=some b→K0.n≤b:=nc.f
 have kY:=nc.k
 have gY1:=kY.at_ g1
 have gY2:=kY.at_ g2
 have l1:=Aaa.Bp9 gY1
 have l2:=Aaa.Bp9 gY2
 have oz:=Sl.one nc.c.s
 simp(disch:=first|assumption|omega|(simp only[LN]<;>omega)|(simp(disch:=first|assumption|omega|(simp only[LN]<;>omega))only[Aab,Aad];assumption))only[P4,seval,gY1,gY2,oz,O4]
 have c1:=(Chg.set Y l2 (.cells true false 4 [S64 x.oc,S32 x.nr,S32 x.rv,z] 46)).mono (T:=[H.n+1,H.n+1+1]) (by simp) |>.trans (Chg.set _ (b:=H.n+1) (by rw[Ab7];exact l1) (.cells true false 4 [S64 x.oc,S32 x.nr,S32 x.rv,z] 46)) (by simp)
 refine hq2 _ _ ⟨_,?_,z,rfl,⟨(k0.trans kY).Bqa c1 (by simp;omega),nc.c.chg c1 (fun b hb hm=>by have:=hn b hb;simp at hm;omega),fun b hb=>by have:=hn b hb;omega⟩⟩
 show Acx [.cn 4 2] _ _=_
 have hr4:∀c:List Value,c.length=4→Adz (some (.cells true false 4 c 46)) 0 4=some c:=fun c h=>Abx h
 rw[Aqx]
 show Adm 4 (ptr (H.n+1) 0) _=_
 rw[Acq,Abj,Aaa.Bp7 ((Aaa.Bp8 Y (by omega) l2 _).trans gY1),hr4 _ rfl]
 rfl
structure Rd where
 ch:Int
 cy:Int
 x:Inp
 c:List (Int×Int)
def rdl(r:Rd)(v:Value):List Value:=[.int .i64 r.ch,.int .i64 r.cy,S64 r.x.oc,S32 r.x.nr,S32 r.x.rv,v]
theorem t71{H:Aaa}{r:Rd}{v:Value}(hc:CL H v r.c)(hcl:r.c.length≤1000000):
 ∃w K,Aau Tryz.prog 0 71 [.agg (rdl r v).toArray] H w K∧∃z,w=ptr H.n 0∧K.get H.n=some (.cells true false 6 (rdl r z) 49)∧Amq H K z r.c:=by
 refine Aaq Bd6 Blg ?_
 intro Q hq1 hq2
 have oc:=Sl.one hc
 have e1:∀z,rdl r z=[.int .i64 r.ch,.int .i64 r.cy,S64 r.x.oc,S32 r.x.nr,S32 r.x.rv,z]:=fun _=>rfl
 simp only[e1]at hq1 hq2 ⊢
 have k0:=(Aac.refl H).alloc (.cells true false 6 [.int .i64 r.ch,.int .i64 r.cy,S64 r.x.oc,S32 r.x.nr,S32 r.x.rv,v] 49)
 simp(disch:=first|assumption|omega)only[f71,P4,seval,oc,O4]
 refine Aag (Bnj (hc.keeps k0) hcl) ?_
 intro z Y nc
 have hn:∀b,blk z=some b→H.n+1≤b:=nc.f
 have kY:=nc.k
 have g1:=kY.at_ (Aaa.Bp6 H (.cells true false 6 [.int .i64 r.ch,.int .i64 r.cy,S64 r.x.oc,S32 r.x.nr,S32 r.x.rv,v] 49))
 have l1:=Aaa.Bp9 g1
 have oz:=Sl.one nc.c.s
 simp(disch:=first|assumption|omega)only[P4,seval,g1,oz]
 have c1:=Chg.set Y l1 (.cells true false 6 [.int .i64 r.ch,.int .i64 r.cy,S64 r.x.oc,S32 r.x.nr,S32 r.x.rv,z] 49)
 exact hq2 _ _ ⟨_,rfl,z,rfl,Aaa.Bp7 g1 _,⟨(k0.trans kY).Bqa c1 (by simp),nc.c.chg c1 (fun b hb hm=>by have:=hn b hb;simp at hm;omega),fun b hb=>by have:=hn b hb;omega⟩⟩
end Go.AM.Fd

set_option maxRecDepth 8000
namespace Go.AM.Fd
open Nat (reduceAdd reduceEqDiff reduceLT reduceLeDiff reduceMul reduceSub)
open Go.Proofs Go.AM.F
def X0:Inp:=⟨fun _=>false,fun _=>false,fun _=>false⟩
def R0:Rd:=⟨0,0,X0,[]⟩
theorem A9e(z:Value):inl X0 z=[.int .u64 0,.int .u32 0,.int .u32 0,z]:=by
 show[S64 _,S32 _,S32 _,z]=_
 rw[Ac2,Afn];rfl
theorem Anb(z:Value):rdl R0 z=[.int .i64 0,.int .i64 0,.int .u64 0,.int .u32 0,.int .u32 0,z]:=by
 show[.int .i64 0,.int .i64 0,S64 _,S32 _,S32 _,z]=_
 rw[Ac2,Afn];rfl
def OtR(H:Aaa)(S:List Nat):Prop:=∀b∈S,∀o r z C T,H.get b=some (.cells o r z C T)→z≠2∧T≠49
def RdB(H:Aaa)(v:Value)(r:Rd):Prop:=∃b z o rm,v=ptr b 0∧H.get b=some (.cells o rm 6 (rdl r z) 49)∧SlC H 2 z (r.c.map Aft)
theorem SlC.oth{H K:Aaa}{S:List Nat}{v:Value}{rows:List (List Value)}(h:SlC H 2 v rows)(k:Chg S H K)(hS:∀b∈S,∀o r z C T,H.get b=some (.cells o r z C T)→z≠2):SlC K 2 v rows:=by
 rcases h.c with e|⟨b',o,q,e⟩|⟨b',n,m,o,r,c,u,e1,e2,e3⟩
 ·exact h.chg k fun b hb=>by subst e;cases hb
 ·subst e
  have hl:=h.s.len
  have:rows=[]:=List.eq_nil_of_length_eq_zero hl.symm
  subst this
  exact⟨⟨⟨_,_,rfl⟩,by simp,by simp[Aa6]⟩,.inr (.inl ⟨_,_,_,rfl⟩)⟩
 ·exact h.chg k fun b hb hm=>by subst e1;cases hb;exact(hS _ hm _ _ _ _ _ e3) rfl
theorem RdB.oth{H K:Aaa}{S:List Nat}{v:Value}{r:Rd}(h:RdB H v r)(k:Chg S H K)(hS:OtR H S):RdB K v r:=by
 obtain⟨b,z,o,rm,rfl,g,hz⟩:=h
 exact⟨b,z,o,rm,rfl,k.at_ g (fun hm=>(hS b hm _ _ _ _ _ g).2 rfl),hz.oth k fun b hb o r z C T e=>(hS b hb o r z C T e).1⟩
theorem RdB.ne{H K:Aaa}{S:List Nat}{p:Nat}{r:Rd}(h:RdB H (ptr p 0) r)(k:Chg S H K)(hp:p∉S)(hS:∀b∈S,∀o r z C T,H.get b=some (.cells o r z C T)→z≠2):RdB K (ptr p 0) r:=by
 obtain⟨b,z,o,rm,e,g,hz⟩:=h
 cases e
 exact⟨p,z,o,rm,rfl,k.at_ g hp,hz.oth k hS⟩
def pR(H:Aaa)(v:Value)(o:Option Rd):Prop:=match o with
 |none=>v=.pointer none
 |some r=>RdB H v r
theorem pR.oth{H K:Aaa}{S:List Nat}{v:Value}{o:Option Rd}(h:pR H v o)(k:Chg S H K)(hS:OtR H S):pR K v o:=by
 cases o with
 |none=>exact h
 |some r=>exact RdB.oth h k hS
theorem pR.one{H:Aaa}{v:Value}{o:Option Rd}(h:pR H v o):v.oneCell'=true:=by
 cases o with
 |none=>rw[show v=_ from h];rfl
 |some r=>obtain⟨_,_,_,_,rfl,_⟩:=h;rfl
structure Sd where
 ch:Int
 cy:Int
 own:Option Rd
 other:Option Rd
 kept:Option Rd
 br:Bool
def ROk(r:Rd):Prop:=r.c.length≤1000∧∀c∈r.c,0≤c.1∧c.1<256
structure SOk (s:Sd):Prop where
 own:∀r,s.own=some r→ROk r
 other:∀r,s.other=some r→ROk r∧r.cy=s.cy
 kept:∀r,s.kept=some r→ROk r
def AgR(H:Aaa)(b:Nat)(s:Sd):Prop:=∃vo vt vk,H.get b=some (.cells true false 6 [.int .i64 s.ch,.int .i64 s.cy,vo,vt,vk,.bool s.br] 144)∧pR H vo s.own∧pR H vt s.other∧pR H vk s.kept
theorem AgR.oth{H K:Aaa}{S:List Nat}{b:Nat}{s:Sd}(h:AgR H b s)(k:Chg S H K)(hb:b∉S)(hS:OtR H S):AgR K b s:=by
 obtain⟨vo,vt,vk,g,a,c,d⟩:=h
 exact⟨vo,vt,vk,k.at_ g hb,a.oth k hS,c.oth k hS,d.oth k hS⟩
theorem AgR.keeps{H K:Aaa}{b:Nat}{s:Sd}(h:AgR H b s)(k:Aac H K):AgR K b s:=h.oth (k.chg []) (by simp) (fun b hb=>by cases hb)
theorem AgR.otr{H:Aaa}{b:Nat}{s:Sd}(h:AgR H b s):OtR H [b]:=by
 obtain⟨vo,vt,vk,g,_⟩:=h
 intro c hc o r z C T e
 simp only[List.mem_cons,List.not_mem_nil,or_false]at hc
 subst hc;rw[g]at e;cases e
 exact⟨by decide,by decide⟩
def sd0(ch:Int):Sd:=⟨ch,0,none,none,none,false⟩
theorem Apu(ch:Int):SOk (sd0 ch):=⟨by simp[sd0],by simp[sd0],by simp[sd0]⟩
theorem A9f(ch:Int):Aa4 [.int .i64 0,.int .i64 0,.pointer none,.pointer none,.pointer none,.bool false] [(0,1,.int .i64 ch)]=some [.int .i64 ch,.int .i64 0,.pointer none,.pointer none,.pointer none,.bool false]:=rfl
theorem t29{H:Aaa}{ch:Int}(hc:ch=0∨ch=1):∃w K,Aau Tryz.prog 0 29 [.int .i64 ch] H w K∧w=ptr H.n 0∧Aac H K∧AgR K H.n (sd0 ch):=by
 refine Aaq Bd0 Blb ?_
 intro Q hq1 hq2
 rcases hc with rfl|rfl
 all_goals
  simp(disch:=first|assumption|omega)only[f29,P4,seval,A9f]
  exact hq2 _ _ ⟨ptr H.n 0,rfl,rfl,(Aac.refl H).alloc _,_,_,_,Aaa.Bp6 H _,rfl,rfl,rfl⟩
def Akt(s:Sd)(cy:Int)(x:Inp)(cs:List (Int×Int)):Sd:=if cy≤s.cy then s else
 {s with cy:=cy,own:=some ⟨s.ch,cy,x,cs⟩,br:=false,other:=s.kept.filter fun k=>decide (k.cy=cy),kept:=s.kept.filter fun k=>decide (cy<k.cy)}
def Aj8(s:Sd)(cy:Int)(x:Inp)(cs:List (Int×Int)):Rd:=if cy≤s.cy then R0 else⟨s.ch,cy,x,cs⟩
def Amc(s:Sd)(cy:Int):Int:=if cy≤s.cy then 2 else 0
theorem Atx{s:Sd}{cy:Int}{x:Inp}{cs:List (Int×Int)}(h:SOk s)(h1:cs.length≤1000)(h2:∀c∈cs,0≤c.1∧c.1<256):SOk (Akt s cy x cs):=by
 unfold Akt
 split
 ·exact h
 ·refine⟨fun r e=>by cases e;exact⟨h1,h2⟩,fun r e=>?_,fun r e=>?_⟩
  ·obtain⟨e1,e2⟩:=Option.filter_eq_some_iff.1 e
   exact⟨h.kept r e1,by simpa using e2⟩
  ·exact h.kept r (Option.filter_eq_some_iff.1 e).1
theorem Apv(a b:Int)(c d e:Nat→Bool)(v:Value):Aa4 [.int .i64 0,.int .i64 0,.int .u64 0,.int .u32 0,.int .u32 0,.slice none 0 0] [(0,1,.int .i64 a),(1,1,.int .i64 b),(2,4,.agg #[S64 c,S32 d,S32 e,v])]=some [.int .i64 a,.int .i64 b,S64 c,S32 d,S32 e,v]:=rfl
theorem Aig:Aa4 [.int .i64 0,.int .i64 0,.int .u64 0,.int .u32 0,.int .u32 0,.slice none 0 0] []=some [.int .i64 0,.int .i64 0,.int .u64 0,.int .u32 0,.int .u32 0,.slice none 0 0]:=rfl
theorem Aea{K:Aaa}{fr:List Value}{n i j p T:Nat}{o r:Bool}{c:List Value}{w:Value}(g:K.get p=some (.cells o r n c T))(hl:c.length=n)(h1:fr.getD i undef=ptr p 0)(h2:fr.getD j undef=w):Acx [.cn n i,.t j] fr K=some (.tuple #[.agg c.toArray,w]):=by
 simp only[Acx,Agl,RX.get,h1,h2]
 rw[Acq,Abj,g,Abx hl]
 rfl
set_option maxHeartbeats 1000000 in
theorem u37{B H:Aaa}{b:Nat}{s:Sd}{cy:Int}{x:Inp}{v:Value}{cs:List (Int×Int)}(h:AgR B b s)(kB:Aac B H)(hv:SlC H 2 v (cs.map Aft))(hcl:cs.length≤1000):
 ∃w K,Aau Tryz.prog 0 37 [ptr b 0,.int .i64 cy,.agg (inl x v).toArray] H w K∧Chg [b] H K∧(∀S K',Chg S K K'→b∉S→(∀x∈S,B.n≤x∧x<H.n∧∀o r z C T,K.get x=some (.cells o r z C T)→z≠2)→AgR K' b (Akt s cy x cs))∧∃z,w=.tuple #[.agg (rdl (Aj8 s cy x cs) z).toArray,.int .i64 (Amc s cy)]∧SlC K 2 z ((Aj8 s cy x cs).c.map Aft):=by
 refine Aaq Bd1 Blc ?_
 intro Q hq1 hq2
 have hbB:=h.otr
 have hb:=(h.keeps kB).otr
 obtain⟨vo,vt,vk,gB,po,pt,pk⟩:=h
 have g:=kB.at_ gB
 have lb:=Aaa.Bp9 g
 have toB:∀{K K':Aaa} {S:List Nat},Chg [b] H K→Chg S K K'→(∀x∈S,B.n≤x∧x<H.n∧∀o r z C T,K.get x=some (.cells o r z C T)→z≠2)→Chg [b] B K':=fun c1 c2 hS=>((kB.chg [b]).trans c1 (by simp)).trans c2 fun x hx=>.inr (hS x hx).1
 have hc:CL H v cs:=hv.s
 have oc:=Sl.one hc
 have oo:=po.one
 have ot:=pt.one
 have ok:=pk.one
 have e1:inl x v=[S64 x.oc,S32 x.nr,S32 x.rv,v]:=rfl
 rw[e1]
 by_cases hle:cy≤s.cy
 ·have eS:Akt s cy x cs=s:=by unfold Akt;rw[if_pos hle]
  have eR:Aj8 s cy x cs=R0:=by unfold Aj8;rw[if_pos hle]
  have eE:Amc s cy=2:=by unfold Amc;rw[if_pos hle]
  simp only[eS,eR,eE,Anb]at hq1 hq2
  simp(disch:=first|assumption|omega|(simp only[LN]<;>omega)|(simp(disch:=first|assumption|omega|(simp only[LN]<;>omega))only[Aab,Aad];assumption))only[f37,P4,seval,oc,O4,g,hle,Aig]
  have kA:=((Aac.refl H).alloc (.cells true false 4 [S64 x.oc,S32 x.nr,S32 x.rv,v] 46)).alloc (.cells true false 6 [.int .i64 0,.int .i64 0,.int .u64 0,.int .u32 0,.int .u32 0,.slice none 0 0] 49)
  exact hq2 _ _ ⟨_,Aea (p:=H.n+1) (Aaa.Bp6 (H.alloc _) _) rfl rfl rfl,kA.chg _,fun S K' c hbS hS=>⟨vo,vt,vk,c.at_ (kA.at_ g) hbS,po.oth (toB (kA.chg _) c hS) hbB,pt.oth (toB (kA.chg _) c hS) hbB,pk.oth (toB (kA.chg _) c hS) hbB⟩,.slice none 0 0,rfl,Sl.nil _ _,.inl rfl⟩
 have eR:Aj8 s cy x cs=⟨s.ch,cy,x,cs⟩:=by unfold Aj8;rw[if_neg hle]
 have eE:Amc s cy=0:=by unfold Amc;rw[if_neg hle]
 have eS:Akt s cy x cs={s with cy:=cy,own:=some ⟨s.ch,cy,x,cs⟩,br:=false,other:=s.kept.filter fun k=>decide (k.cy=cy),kept:=s.kept.filter fun k=>decide (cy<k.cy)}:=by unfold Akt;rw[if_neg hle]
 simp only[eR,eE,eS]at hq1 hq2
 have er:∀z,rdl ⟨s.ch,cy,x,cs⟩ z=[.int .i64 s.ch,.int .i64 cy,S64 x.oc,S32 x.nr,S32 x.rv,z]:=fun _=>rfl
 obtain⟨K0,hK0⟩:∃X,X=((H.alloc (.cells true false 4 [S64 x.oc,S32 x.nr,S32 x.rv,v] 46)).alloc (.cells true false 6 [.int .i64 0,.int .i64 0,.int .u64 0,.int .u32 0,.int .u32 0,.slice none 0 0] 49)).alloc (.cells true false 6 (rdl ⟨s.ch,cy,x,cs⟩ v) 49):=⟨_,rfl⟩
 have k0:Aac H K0:=by rw[hK0];exact(((Aac.refl H).alloc _).alloc _).alloc _
 have n0:K0.n=H.n+3:=by rw[hK0];rfl
 have g1:K0.get (H.n+1)=some (.cells true false 6 [.int .i64 0,.int .i64 0,.int .u64 0,.int .u32 0,.int .u32 0,.slice none 0 0] 49):=by rw[hK0];exact((Aac.refl _).alloc _).at_ (Aaa.Bp6 (H.alloc _) _)
 have g2:K0.get (H.n+2)=some (.cells true false 6 (rdl ⟨s.ch,cy,x,cs⟩ v) 49):=by rw[hK0];exact Aaa.Bp6 ((H.alloc _).alloc _) _
 have tC:=t71 (r:=⟨s.ch,cy,x,cs⟩) (hc.keeps k0) (by show cs.length≤_;omega)
 rw[er]at hK0 g2 tC
 refine Acv 5 (fun fr Z=>∃vt vk x7 x8 x9 x10 x11 Y,fr=[ptr b 0,.int .i64 cy,.agg #[S64 x.oc,S32 x.nr,S32 x.rv,v],ptr H.n 0,ptr (H.n+1) 0,.int .i64 0,ptr (H.n+2) 0,x7,x8,x9,x10,x11]∧Aac K0 Y∧Chg [b] Y Z∧RdB Y (ptr (H.n+3) 0) ⟨s.ch,cy,x,cs⟩∧
  Z.get b=some (.cells true false 6 [.int .i64 s.ch,.int .i64 cy,ptr (H.n+3) 0,vt,vk,.bool false] 144)∧pR B vt (s.kept.filter fun k=>decide (k.cy=cy))∧pR B vk (s.kept.filter fun k=>decide (cy<k.cy))) (by kernel_rfl) ?_ ?_
 ·intro Q' hn _ _
  simp(disch:=first|assumption|omega|(simp only[LN]<;>omega)|(simp(disch:=first|assumption|omega|(simp only[LN]<;>omega))only[Aab,Aad];assumption))only[f37,Ae5,P4,seval,oc,O4,g,hle,Apv]
  rw[←hK0]
  refine Aag tC ?_
  rintro _ Y ⟨z,rfl,gz,nc⟩
  rw[n0]at gz
  have kY:=nc.k
  have gY:=(k0.trans kY).at_ g
  have lY:=Aaa.Bp9 gY
  have rY:RdB Y (ptr (H.n+3) 0) ⟨s.ch,cy,x,cs⟩:=⟨_,z,_,_,rfl,by rw[er];exact gz,nc.c⟩
  have cY:=fun o=>Chg.set Y lY o
  cases hk:s.kept with
  |none=>
   rw[hk]at pk
   have:vk=.pointer none:=pk
   subst this
   rw[hk]at hn
   simp(disch:=first|assumption|omega)only[P4,seval,n0,gY,oo,ot]
   exact hn _ _ ⟨_,_,_,_,_,_,_,Y,rfl,kY,cY _,rY,Aaa.Bp7 gY _,rfl,rfl⟩
  |some k=>
   rw[hk]at pk
   have pk0:RdB B vk k:=pk
   obtain⟨bk,zk,ow,rm,rfl,gk,sk⟩:=pk0
   have hne:bk≠b:=fun e=>by subst e;exact(hbB bk (by simp) _ _ _ _ _ gk).2 rfl
   have gkY:=((kB.trans k0).trans kY).at_ gk
   have ek:rdl k zk=[.int .i64 k.ch,.int .i64 k.cy,S64 k.x.oc,S32 k.x.nr,S32 k.x.rv,zk]:=rfl
   rw[ek]at gkY
   rcases Int.lt_trichotomy cy k.cy with hlt|heq|hgt
   ·have h1:¬k.cy≤cy:=by omega
    have f1:(Option.filter (fun k:Rd=>decide (k.cy=cy)) (some k))=none:=by simp;omega
    have f2:(Option.filter (fun k:Rd=>decide (cy<k.cy)) (some k))=some k:=by simp;omega
    rw[hk,f1,f2]at hn
    simp(disch:=first|assumption|omega)only[P4,seval,n0,gY,oo,ot,gkY,hne,h1]
    exact hn _ _ ⟨_,_,_,_,_,_,_,Y,rfl,kY,cY _,rY,Aaa.Bp7 gY _,rfl,pk⟩
   ·have h1:k.cy≤cy:=by omega
    have h2:k.cy=cy:=by omega
    have f1:(Option.filter (fun k:Rd=>decide (k.cy=cy)) (some k))=some k:=by simp;omega
    have f2:(Option.filter (fun k:Rd=>decide (cy<k.cy)) (some k))=none:=by simp;omega
    rw[hk,f1,f2]at hn
    simp(disch:=first|assumption|omega)only[P4,seval,n0,gY,oo,ot,gkY,hne,h1,h2]
    exact hn _ _ ⟨_,_,_,_,_,_,_,Y,rfl,kY,cY _,rY,Aaa.Bp7 gY _,pk,rfl⟩
   ·have h1:k.cy≤cy:=by omega
    have h2:¬k.cy=cy:=by omega
    have f1:(Option.filter (fun k:Rd=>decide (k.cy=cy)) (some k))=none:=by simp;omega
    have f2:(Option.filter (fun k:Rd=>decide (cy<k.cy)) (some k))=none:=by simp;omega
    rw[hk,f1,f2]at hn
    simp(disch:=first|assumption|omega)only[P4,seval,n0,gY,oo,ot,gkY,hne,h1,h2]
    exact hn _ _ ⟨_,_,_,_,_,_,_,Y,rfl,kY,cY _,rY,Aaa.Bp7 gY _,rfl,rfl⟩
 ·rintro fr Z ⟨vt,vk,x7,x8,x9,x10,x11,Y,rfl,kY,cZ,rY,gZ,pt,pk⟩
  have g2Z:=cZ.at_ (kY.at_ g2) (by simp;omega)
  have g1Z:=cZ.at_ (kY.at_ g1) (by simp;omega)
  have hbY:OtR Y [b]:=fun c hm o r z C T e=>hb c hm o r z C T (by
   simp only[List.mem_cons,List.not_mem_nil,or_false]at hm
   subst hm;rwa [(k0.trans kY).get _ lb]at e)
  have cHZ:=(k0.trans kY).chg [b] |>.trans cZ (by simp)
  have hcZ:SlC Z 2 v (cs.map Aft):=hv.oth cHZ fun c hm o r z C T e=>(hb c hm o r z C T e).1
  have tD:=t71 (r:=⟨s.ch,cy,x,cs⟩) hcZ.s (by show cs.length≤_;omega)
  rw[er]at tD
  simp(disch:=first|assumption|omega|(simp only[LN]<;>omega)|(simp(disch:=first|assumption|omega|(simp only[LN]<;>omega))only[Aab,Aad];assumption))only[f37,Ab5,P4,seval,g2Z]
  refine Aag tD ?_
  rintro _ V ⟨z,rfl,gz,nc⟩
  rw[er]at gz
  have kV:=nc.k
  have g1V:=kV.at_ g1Z
  have l1V:=Aaa.Bp9 g1V
  have oz:=Sl.one nc.c.s
  simp(disch:=first|assumption|omega|(simp only[LN]<;>omega)|(simp(disch:=first|assumption|omega|(simp only[LN]<;>omega))only[Aab,Aad];assumption))only[P4,seval,gz,g1V,oz,O4]
  have cV:=Chg.set V l1V (.cells true false 6 [.int .i64 s.ch,.int .i64 cy,S64 x.oc,S32 x.nr,S32 x.rv,z] 49)
  have n1:=kY.n
  have n2:=cZ.n
  have n3:=kV.n
  have fz:∀b,blk z=some b→Z.n≤b:=nc.f
  have rZ:=rY.oth cZ hbY
  have cAll:=cHZ.trans (kV.chg [b]) (by simp) |>.trans (cV.mono (T:=[b,H.n+1]) (by simp)) (by simp)
  have cA:Chg [b] H (V.set (H.n+1) (.cells true false 6 [.int .i64 s.ch,.int .i64 cy,S64 x.oc,S32 x.nr,S32 x.rv,z] 49)):=⟨cAll.n,fun c h1 h2=>cAll.get c h1 (by simp at h2 ⊢;omega)⟩
  have o1:∀c∈[H.n+1],∀o r z C T,V.get c=some (.cells o r z C T)→z≠2:=fun c hm o r y C T e=>by
   simp only[List.mem_cons,List.not_mem_nil,or_false]at hm
   subst hm;rw[g1V]at e;cases e;decide
  have rF:=(rZ.oth (kV.chg []) (fun c h=>by cases h)).ne cV (by simp) o1
  have gF:=(Aaa.Bp8 V (by omega) l1V (.cells true false 6 [.int .i64 s.ch,.int .i64 cy,S64 x.oc,S32 x.nr,S32 x.rv,z] 49)).trans (kV.at_ gZ)
  exact hq2 _ _ ⟨_,Aea (p:=H.n+1) (Aaa.Bp7 g1V _) rfl rfl rfl,cA,fun S K' c hbS hS=>⟨_,_,_,c.at_ gF hbS,rF.ne c (fun hm=>by have:=(hS _ hm).2.1;omega) (fun x hx=>(hS x hx).2.2),pt.oth (toB cA c hS) hbB,pk.oth (toB cA c hS) hbB⟩,z,rfl,nc.c.chg cV (fun c h1 h2=>by have:=fz c h1;simp at h2;omega)⟩
def Aj9(s:Sd):Bool:=s.own.isSome&&(s.other.isSome&& !s.br)
def Ab1(s:Sd):Inp:=match s.own,s.other,s.br with
 |some a,some c,false=>Agv a.x c.x
 |_,_,_=>X0
def Aka(s:Sd):List (Int×Int):=match s.own,s.other,s.br with
 |some a,some c,false=>Ana a.c c.c
 |_,_,_=>[]
theorem Afl:Aa4 [.int .u64 0,.int .u32 0,.int .u32 0,.slice none 0 0] []=some [.int .u64 0,.int .u32 0,.int .u32 0,.slice none 0 0]:=rfl
theorem t39{H:Aaa}{b:Nat}{s:Sd}(h:AgR H b s)(hs:SOk s):∃w K,Aau Tryz.prog 0 39 [ptr b 0] H w K∧∃z,w=.tuple #[.agg (inl (Ab1 s) z).toArray,.bool (Aj9 s)]∧Amq H K z (Aka s):=by
 refine Aaq Bd4 Ble ?_
 intro Q hq1 hq2
 obtain⟨vo,vt,vk,g,po,pt,pk⟩:=h
 have lb:=Aaa.Bp9 g
 have kA:=(Aac.refl H).alloc (.cells true false 4 [.int .u64 0,.int .u32 0,.int .u32 0,.slice none 0 0] 46)
 have gA:=Aaa.Bp6 H (.cells true false 4 [.int .u64 0,.int .u32 0,.int .u32 0,.slice none 0 0] 46)
 have no:Ab1 s=X0→Aka s=[]→Aj9 s=false→∀{fr:List Value},fr.getD 1 undef=ptr H.n 0→fr.getD 2 undef=.bool false→Q .ret fr (H.alloc (.cells true false 4 [.int .u64 0,.int .u32 0,.int .u32 0,.slice none 0 0] 46)):=fun e1 e2 e3 fr h1 h2=>by
  simp only[e1,e2,e3,A9e]at hq2
  exact hq2 _ _ ⟨_,Aea (p:=H.n) gA rfl h1 h2,.slice none 0 0,rfl,kA,⟨Sl.nil _ _,.inl rfl⟩,fun b hb=>by cases hb⟩
 cases ho:s.own with
 |none=>
  rw[ho]at po
  have:vo=.pointer none:=po
  subst this
  simp(disch:=first|assumption|omega|(simp only[LN]<;>omega)|(simp(disch:=first|assumption|omega|(simp only[LN]<;>omega))only[Aab,Aad];assumption))only[f39,P4,seval,g,Afl]
  exact no (by unfold Ab1;rw[ho]) (by unfold Aka;rw[ho]) (by unfold Aj9;rw[ho];rfl) rfl rfl
 |some a=>
 rw[ho]at po
 obtain⟨ba,za,oa,ra,rfl,ga,sa⟩:=(show RdB H vo a from po)
 cases ht:s.other with
 |none=>
  rw[ht]at pt
  have:vt=.pointer none:=pt
  subst this
  simp(disch:=first|assumption|omega|(simp only[LN]<;>omega)|(simp(disch:=first|assumption|omega|(simp only[LN]<;>omega))only[Aab,Aad];assumption))only[f39,P4,seval,g,Afl]
  exact no (by unfold Ab1;rw[ho,ht]) (by unfold Aka;rw[ho,ht]) (by unfold Aj9;rw[ho,ht];rfl) rfl rfl
 |some c=>
 rw[ht]at pt
 obtain⟨bc,zc,oc,rc,rfl,gc,sc⟩:=(show RdB H vt c from pt)
 cases hbr:s.br with
 |true=>
  rw[hbr]at g
  simp(disch:=first|assumption|omega|(simp only[LN]<;>omega)|(simp(disch:=first|assumption|omega|(simp only[LN]<;>omega))only[Aab,Aad];assumption))only[f39,P4,seval,g,Afl]
  exact no (by unfold Ab1;rw[ho,ht,hbr]) (by unfold Aka;rw[ho,ht,hbr]) (by unfold Aj9;rw[ho,ht,hbr];rfl) rfl rfl
 |false=>
 rw[hbr]at g
 have e1:Ab1 s=Agv a.x c.x:=by unfold Ab1;rw[ho,ht,hbr]
 have e2:Aka s=Ana a.c c.c:=by unfold Aka;rw[ho,ht,hbr]
 have e3:Aj9 s=true:=by unfold Aj9;rw[ho,ht,hbr];rfl
 simp only[e1,e2,e3]at hq1 hq2
 have ga':=kA.at_ ga
 have gc':=kA.at_ gc
 have tM:=t74 (x:=a.x) (y:=c.x) (sa.keeps kA).s (sc.keeps kA).s (by have:=(hs.own a ho).1;omega) (by have:=(hs.other c ht).1.1;omega)
 have la:=Aaa.Bp9 ga
 have lc:=Aaa.Bp9 gc
 have ea:∀z,inl a.x z=[S64 a.x.oc,S32 a.x.nr,S32 a.x.rv,z]:=fun _=>rfl
 have ec:∀z,inl c.x z=[S64 c.x.oc,S32 c.x.nr,S32 c.x.rv,z]:=fun _=>rfl
 simp only[ea,ec]at tM
 have era:∀z,rdl a z=[.int .i64 a.ch,.int .i64 a.cy,S64 a.x.oc,S32 a.x.nr,S32 a.x.rv,z]:=fun _=>rfl
 have erc:∀z,rdl c z=[.int .i64 c.ch,.int .i64 c.cy,S64 c.x.oc,S32 c.x.nr,S32 c.x.rv,z]:=fun _=>rfl
 rw[era]at ga ga'
 rw[erc]at gc gc'
 simp(disch:=first|assumption|omega|(simp only[LN]<;>omega)|(simp(disch:=first|assumption|omega|(simp only[LN]<;>omega))only[Aab,Aad];assumption))only[f39,P4,seval,g,ga,gc,Afl]
 refine Aag tM ?_
 rintro _ V ⟨z,rfl,nc⟩
 have kV:=nc.k
 have gV:=kV.at_ gA
 have lV:=Aaa.Bp9 gV
 have oz:=Sl.one nc.c.s
 have em:∀z,inl (Agv a.x c.x) z=[S64 (Agv a.x c.x).oc,S32 (Agv a.x c.x).nr,S32 (Agv a.x c.x).rv,z]:=fun _=>rfl
 simp only[em]at hq2 ⊢
 simp(disch:=first|assumption|omega|(simp only[LN]<;>omega)|(simp(disch:=first|assumption|omega|(simp only[LN]<;>omega))only[Aab,Aad];assumption))only[P4,seval,gV,oz,O4]
 have fz:∀b,blk z=some b→H.n+1≤b:=nc.f
 have cV:=Chg.set V lV (.cells true false 4 [S64 (Agv a.x c.x).oc,S32 (Agv a.x c.x).nr,S32 (Agv a.x c.x).rv,z] 46)
 exact hq2 _ _ ⟨_,Aea (p:=H.n) (Aaa.Bp7 gV _) rfl rfl rfl,z,rfl,(kA.trans kV).Bqa cV (by simp),nc.c.chg cV (fun b h1 h2=>by have:=fz b h1;simp at h2;omega),fun b h1=>by have:=fz b h1;omega⟩
theorem t40{H:Aaa}{b:Nat}{s:Sd}(h:AgR H b s):∃w K,Aau Tryz.prog 0 40 [ptr b 0] H w K∧w=.int .i64 s.cy∧K=H:=by
 refine Aaq Bd5 Blf ?_
 intro Q hq1 hq2
 obtain⟨vo,vt,vk,g,po,pt,pk⟩:=h
 simp(disch:=first|assumption|omega)only[f40,P4,seval,g]
 exact hq2 _ _ ⟨.int .i64 s.cy,rfl,rfl,rfl⟩
theorem t72{H:Aaa}{v:Value}{a r:Rd}{p T:Nat}{z:Value}{o rm:Bool}(ha:RdB H v a)(g:H.get p=some (.cells o rm 6 (rdl r z) T))(hz:CL H z r.c)(la:a.c.length≤1000)(lr:r.c.length≤1000):
 ∃w K,Aau Tryz.prog 0 72 [v,ptr p 0] H w K∧w=.bool (decide (a.cy=r.cy)&&Amb a.x a.c r.x r.c)∧K=H:=by
 refine Aaq Bd3 Bld ?_
 intro Q hq1 hq2
 obtain⟨ba,za,oa,ra,rfl,ga,sa⟩:=ha
 have tS:=t73 (x:=a.x) (y:=r.x) sa.s hz (by omega) (by omega)
 have ea:∀z,inl a.x z=[S64 a.x.oc,S32 a.x.nr,S32 a.x.rv,z]:=fun _=>rfl
 have ec:∀z,inl r.x z=[S64 r.x.oc,S32 r.x.nr,S32 r.x.rv,z]:=fun _=>rfl
 simp only[ea,ec]at tS
 have era:∀z,rdl a z=[.int .i64 a.ch,.int .i64 a.cy,S64 a.x.oc,S32 a.x.nr,S32 a.x.rv,z]:=fun _=>rfl
 have erc:∀z,rdl r z=[.int .i64 r.ch,.int .i64 r.cy,S64 r.x.oc,S32 r.x.nr,S32 r.x.rv,z]:=fun _=>rfl
 rw[era]at ga
 rw[erc]at g
 by_cases e:a.cy=r.cy
 ·have hd:decide (a.cy=r.cy)=true:=by simp[e]
  simp(disch:=first|assumption|omega|(simp only[LN]<;>omega)|(simp(disch:=first|assumption|omega|(simp only[LN]<;>omega))only[Aab,Aad];assumption))only[f72,P4,seval,ga,g,e]
  refine Aag tS ?_
  rintro _ X ⟨rfl,hX⟩
  rw[hX]
  simp(disch:=first|assumption|omega)only[P4,seval]
  exact hq2 _ _ ⟨.bool _,rfl,by rw[hd];simp,rfl⟩
 ·have hd:decide (a.cy=r.cy)=false:=by simp[e]
  simp(disch:=first|assumption|omega)only[f72,P4,seval,ga,g,e]
  exact hq2 _ _ ⟨.bool false,rfl,by rw[hd];rfl,rfl⟩
def Ae7(s:Sd)(r:Rd):Int:=if r.ch≠IntKind.i64.wrap (1-s.ch)then 2 else if r.cy<s.cy then 190 else if s.cy<r.cy then
 (match s.kept with
 |none=>0
 |some k=>if k.cy<r.cy then 0 else if decide (k.cy=r.cy)&&Amb k.x k.c r.x r.c then 0 else 4)
 else match s.other with
  |none=>0
  |some o=>if Amb o.x o.c r.x r.c then 0 else 4
def Aev(s:Sd)(r:Rd):Sd:=if r.ch≠IntKind.i64.wrap (1-s.ch)then s else if r.cy<s.cy then s else if s.cy<r.cy then
 (match s.kept with
 |none=>{s with kept:=some r}
 |some k=>if k.cy<r.cy then{s with kept:=some r}else s)
 else match s.other with
  |none=>{s with other:=some r}
  |some o=>if Amb o.x o.c r.x r.c then s else{s with br:=true}
theorem Aty{s:Sd}{r:Rd}(h:SOk s)(hr:ROk r):SOk (Aev s r):=by
 unfold Aev
 split
 ·exact h
 split
 ·exact h
 split
 ·split
  ·exact⟨h.own,h.other,fun q e=>by cases e;exact hr⟩
  ·split
   ·exact⟨h.own,h.other,fun q e=>by cases e;exact hr⟩
   ·exact h
 ·rename_i h1 h2 h3
  split
  ·exact⟨h.own,fun q e=>by cases e;exact⟨hr,by show r.cy=s.cy;omega⟩,h.kept⟩
  ·split
   ·exact h
   ·exact⟨h.own,h.other,h.kept⟩
set_option maxHeartbeats 2000000 in
theorem t38{H:Aaa}{b:Nat}{s:Sd}{r:Rd}{v:Value}(h:AgR H b s)(hs:SOk s)(hr:ROk r)(hv:SlC H 2 v (r.c.map Aft)):
 ∃w K,Aau Tryz.prog 0 38 [ptr b 0,.iface 49 (.agg (rdl r v).toArray)] H w K∧w=.int .i64 (Ae7 s r)∧Chg [b] H K∧AgR K b (Aev s r):=by
 refine Aaq Az8 Bd2 ?_
 intro Q hq1 hq2
 have hb:=h.otr
 have hA:=h
 obtain⟨vo,vt,vk,g,po,pt,pk⟩:=h
 have lb:=Aaa.Bp9 g
 have ov:=Sl.one hv.s
 have oo:=po.one
 have ot:=pt.one
 have ok:=pk.one
 have er:∀z,rdl r z=[.int .i64 r.ch,.int .i64 r.cy,S64 r.x.oc,S32 r.x.nr,S32 r.x.rv,z]:=fun _=>rfl
 obtain⟨K0,hK0⟩:∃X,X=H.alloc (.cells true false 6 (rdl r v) 49):=⟨_,rfl⟩
 have k0:Aac H K0:=by rw[hK0];exact(Aac.refl H).alloc _
 have n0:K0.n=H.n+1:=by rw[hK0];rfl
 have g0:K0.get H.n=some (.cells true false 6 (rdl r v) 49):=by rw[hK0];exact Aaa.Bp6 H _
 have gb0:=k0.at_ g
 have g0':=g0
 rw[er]at hK0 g0'
 have same:Aev s r=s→∀{fr:List Value} {e:Int} {K:Aaa},Aac H K→Ae7 s r=e→fr.getD 2 undef=.int .i64 e→Q .ret fr K:=fun e1 fr e K k e2 h1=>by
  rw[e1,e2]at hq2
  exact hq2 _ _ ⟨.int .i64 e,by show some (Afi [fr.getD 2 undef])=_;rw[h1];rfl,rfl,k.chg _,hA.keeps k⟩
 have tC:=t71 (hv.keeps k0).s (by have:=hr.1;omega)
 rw[er]at tC
 have rdY:∀{Y:Aaa} {z:Value},Y.get K0.n=some (.cells true false 6 (rdl r z) 49)→Amq K0 Y z r.c→∀o,RdB (Y.set b o) (ptr K0.n 0) r:=fun{Y z} g nc o=>by
  have gY:=nc.k.at_ gb0
  have fz:∀b,blk z=some b→K0.n≤b:=nc.f
  exact⟨K0.n,z,_,_,rfl,(Aaa.Bp8 Y (by omega) (Aaa.Bp9 gY) _).trans g,nc.c.chg (Chg.set Y (Aaa.Bp9 gY) o) (fun c h1 h2=>by have:=fz c h1;simp at h2;omega)⟩
 have cY:∀{Y:Aaa},Aac K0 Y→∀o,Chg [b] H (Y.set b o):=fun{Y} k o=>((k0.trans k).chg [b]).trans (Chg.set Y (Aaa.Bp9 (k.at_ gb0)) o) (by simp)
 rw[er]
 by_cases h1:r.ch=IntKind.i64.wrap (1-s.ch)
 case neg=>
  have e1:Aev s r=s:=by unfold Aev;rw[if_pos h1]
  have e2:Ae7 s r=2:=by unfold Ae7;rw[if_pos h1]
  simp(disch:=first|assumption|omega|(simp only[LN]<;>omega)|(simp(disch:=first|assumption|omega|(simp only[LN]<;>omega))only[Aab,Aad];assumption))only[f38,P4,seval,ov,O4,g]
  rw[←hK0]
  exact same e1 k0 e2 rfl
 case pos=>
 have en:¬r.ch≠IntKind.i64.wrap (1-s.ch):=fun e=>e h1
 by_cases h2:r.cy<s.cy
 ·have e1:Aev s r=s:=by unfold Aev;rw[if_neg en,if_pos h2]
  have e2:Ae7 s r=190:=by unfold Ae7;rw[if_neg en,if_pos h2]
  simp(disch:=first|assumption|omega|(simp only[LN]<;>omega)|(simp(disch:=first|assumption|omega|(simp only[LN]<;>omega))only[Aab,Aad];assumption))only[f38,P4,seval,ov,O4,g,h2]
  rw[←hK0]
  exact same e1 k0 e2 rfl
 by_cases h3:s.cy<r.cy
 ·cases hk:s.kept with
  |none=>
   have e1:Aev s r={s with kept:=some r}:=by unfold Aev;rw[if_neg en,if_neg h2,if_pos h3,hk]
   have e2:Ae7 s r=0:=by unfold Ae7;rw[if_neg en,if_neg h2,if_pos h3,hk]
   rw[hk]at pk
   have:vk=.pointer none:=pk
   subst this
   simp(disch:=first|assumption|omega|(simp only[LN]<;>omega)|(simp(disch:=first|assumption|omega|(simp only[LN]<;>omega))only[Aab,Aad];assumption))only[f38,P4,seval,ov,O4,g,h2,h3]
   rw[←hK0]
   refine Aag tC ?_
   rintro _ Y ⟨z,rfl,gz,nc⟩
   have gY:=nc.k.at_ gb0
   have lY:=Aaa.Bp9 gY
   simp(disch:=first|assumption|omega)only[P4,seval,gY,oo,ot]
   exact hq2 _ _ ⟨.int .i64 0,rfl,by rw[e2],cY nc.k _,by rw[e1];exact⟨_,_,_,Aaa.Bp7 gY _,po.oth (cY nc.k _) hb,pt.oth (cY nc.k _) hb,rdY gz nc _⟩⟩
  |some k=>
   rw[hk]at pk
   obtain⟨bk,zk,ow,rm,rfl,gk,sk⟩:=(show RdB H vk k from pk)
   have gk0:=k0.at_ gk
   have ek:rdl k zk=[.int .i64 k.ch,.int .i64 k.cy,S64 k.x.oc,S32 k.x.nr,S32 k.x.rv,zk]:=rfl
   rw[ek]at gk gk0
   have lk:=Aaa.Bp9 gk
   by_cases h4:k.cy<r.cy
   ·have e1:Aev s r={s with kept:=some r}:=by unfold Aev;rw[if_neg en,if_neg h2,if_pos h3,hk];simp only[h4,if_true]
    have e2:Ae7 s r=0:=by unfold Ae7;rw[if_neg en,if_neg h2,if_pos h3,hk];simp only[h4,if_true]
    simp(disch:=first|assumption|omega|(simp only[LN]<;>omega)|(simp(disch:=first|assumption|omega|(simp only[LN]<;>omega))only[Aab,Aad];assumption))only[f38,P4,seval,ov,O4,g,h2,h3,gk,h4]
    rw[←hK0]
    refine Aag tC ?_
    rintro _ Y ⟨z,rfl,gz,nc⟩
    have gY:=nc.k.at_ gb0
    have lY:=Aaa.Bp9 gY
    simp(disch:=first|assumption|omega)only[P4,seval,gY,oo,ot]
    exact hq2 _ _ ⟨.int .i64 0,rfl,by rw[e2],cY nc.k _,by rw[e1];exact⟨_,_,_,Aaa.Bp7 gY _,po.oth (cY nc.k _) hb,pt.oth (cY nc.k _) hb,rdY gz nc _⟩⟩
   ·have e1:Aev s r=s:=by unfold Aev;rw[if_neg en,if_neg h2,if_pos h3,hk];simp only[h4,if_false]
    have e2:Ae7 s r=if decide (k.cy=r.cy)&&Amb k.x k.c r.x r.c then 0 else 4:=by unfold Ae7;rw[if_neg en,if_neg h2,if_pos h3,hk];simp only[h4,if_false]
    have tH:=t72 (a:=k) (RdB.oth pk (k0.chg []) (fun c hc=>by cases hc)) g0 (hv.keeps k0).s (hs.kept k hk).1 hr.1
    simp(disch:=first|assumption|omega|(simp only[LN]<;>omega)|(simp(disch:=first|assumption|omega|(simp only[LN]<;>omega))only[Aab,Aad];assumption))only[f38,P4,seval,ov,O4,g,h2,h3,gk,h4]
    rw[←hK0]
    refine Aag tH ?_
    rintro _ X ⟨rfl,hX⟩
    rw[hX]
    cases hB:(decide (k.cy=r.cy)&&Amb k.x k.c r.x r.c)with
    |true=>
     rw[hB]at e2
     simp(disch:=first|assumption|omega)only[P4,seval]
     exact same e1 k0 e2 rfl
    |false=>
     rw[hB]at e2
     simp(disch:=first|assumption|omega)only[P4,seval]
     exact same e1 k0 e2 rfl
 ·cases ht:s.other with
  |none=>
   have e1:Aev s r={s with other:=some r}:=by unfold Aev;rw[if_neg en,if_neg h2,if_neg h3,ht]
   have e2:Ae7 s r=0:=by unfold Ae7;rw[if_neg en,if_neg h2,if_neg h3,ht]
   rw[ht]at pt
   have:vt=.pointer none:=pt
   subst this
   simp(disch:=first|assumption|omega|(simp only[LN]<;>omega)|(simp(disch:=first|assumption|omega|(simp only[LN]<;>omega))only[Aab,Aad];assumption))only[f38,P4,seval,ov,O4,g,h2,h3]
   rw[←hK0]
   refine Aag tC ?_
   rintro _ Y ⟨z,rfl,gz,nc⟩
   have gY:=nc.k.at_ gb0
   have lY:=Aaa.Bp9 gY
   simp(disch:=first|assumption|omega)only[P4,seval,gY,oo,ok]
   exact hq2 _ _ ⟨.int .i64 0,rfl,by rw[e2],cY nc.k _,by rw[e1];exact⟨_,_,_,Aaa.Bp7 gY _,po.oth (cY nc.k _) hb,rdY gz nc _,pk.oth (cY nc.k _) hb⟩⟩
  |some k=>
   rw[ht]at pt
   obtain⟨bk,zk,ow,rm,rfl,gk,sk⟩:=(show RdB H vt k from pt)
   have ecy:decide (k.cy=r.cy)=true:=by have:=(hs.other k ht).2;simp;omega
   have tH:=t72 (a:=k) (RdB.oth pt (k0.chg []) (fun c hc=>by cases hc)) g0 (hv.keeps k0).s (hs.other k ht).1.1 hr.1
   simp(disch:=first|assumption|omega|(simp only[LN]<;>omega)|(simp(disch:=first|assumption|omega|(simp only[LN]<;>omega))only[Aab,Aad];assumption))only[f38,P4,seval,ov,O4,g,h2,h3]
   rw[←hK0]
   refine Aag tH ?_
   rintro _ X ⟨rfl,hX⟩
   rw[hX,ecy,Bool.true_and]
   cases hB:Amb k.x k.c r.x r.c with
   |true=>
    have e1:Aev s r=s:=by unfold Aev;rw[if_neg en,if_neg h2,if_neg h3,ht];simp only[hB,if_true]
    have e2:Ae7 s r=0:=by unfold Ae7;rw[if_neg en,if_neg h2,if_neg h3,ht];simp only[hB,if_true]
    simp(disch:=first|assumption|omega)only[P4,seval]
    exact same e1 k0 e2 rfl
   |false=>
    have e1:Aev s r={s with br:=true}:=by unfold Aev;rw[if_neg en,if_neg h2,if_neg h3,ht];simp[hB]
    have e2:Ae7 s r=4:=by unfold Ae7;rw[if_neg en,if_neg h2,if_neg h3,ht];simp[hB]
    have l0:=Aaa.Bp9 gb0
    simp(disch:=first|assumption|omega)only[P4,seval,gb0,oo,ok]
    exact hq2 _ _ ⟨.int .i64 4,rfl,by rw[e2],cY (Aac.refl _) _,by rw[e1];exact⟨_,_,_,Aaa.Bp7 gb0 _,po.oth (cY (Aac.refl _) _) hb,by rw[ht];exact pt.oth (cY (Aac.refl _) _) hb,pk.oth (cY (Aac.refl _) _) hb⟩⟩
theorem u38{H:Aaa}{b:Nat}{s:Sd}{v:Value}(h:AgR H b s)(hv:v=.nilIface∨∃x,v=.iface 9 (.string x)):
 ∃w K,Aau Tryz.prog 0 38 [ptr b 0,v] H w K∧w=.int .i64 2∧Aac H K:=by
 refine Aaq Az8 Bd2 ?_
 intro Q hq1 hq2
 have kA:=(Aac.refl H).alloc (.cells true false 6 [.int .i64 0,.int .i64 0,.int .u64 0,.int .u32 0,.int .u32 0,.slice none 0 0] 49)
 rcases hv with rfl|⟨x,rfl⟩
 ·have an:∀z K,Aam (.assert 49 z true .nilIface) K=some (.tuple #[z,.bool false],K):=fun _ _=>rfl
  simp(disch:=first|assumption|omega|(simp only[LN]<;>omega)|(simp(disch:=first|assumption|omega|(simp only[LN]<;>omega))only[Aab,Aad];assumption))only[f38,P4,seval,an]
  exact hq2 _ _ ⟨.int .i64 2,rfl,rfl,kA⟩
 ·simp(disch:=first|assumption|omega|(simp only[LN]<;>omega)|(simp(disch:=first|assumption|omega|(simp only[LN]<;>omega))only[Aab,Aad];assumption))only[f38,P4,seval]
  exact hq2 _ _ ⟨.int .i64 2,rfl,rfl,kA⟩
end Go.AM.Fd

set_option maxRecDepth 8000
namespace Go.AM.Fd
open Nat (reduceAdd reduceEqDiff reduceLT reduceLeDiff reduceMul reduceSub)
open Go.Proofs Go.AM.F
def agl(ch cy:Int)(bo:Bool)(xo:Inp)(vo:Value)(bt:Bool)(xt:Inp)(vt:Value)(bk:Bool)(k:Rd)(vk:Value)(br:Bool):List Value:=
 [.int .i64 ch,.int .i64 cy,.bool bo,S64 xo.oc,S32 xo.nr,S32 xo.rv,vo,.bool bt,S64 xt.oc,S32 xt.nr,S32 xt.rv,vt,.bool bk,.int .i64 k.ch,.int .i64 k.cy,S64 k.x.oc,S32 k.x.nr,S32 k.x.rv,vk,.bool br]
structure kR (H:Aaa) (o:Option Rd) (k:Rd) (v:Value):Prop where
 s:isS v=true
 r:∀r,o=some r→r=k∧SlC H 2 v (r.c.map Aft)
structure iR (H:Aaa) (o:Option Rd) (x:Inp) (v:Value):Prop where
 s:isS v=true
 r:∀r,o=some r→r.x=x∧SlC H 2 v (r.c.map Aft)
def Ot2(H:Aaa)(S:List Nat):Prop:=∀b∈S,∀o r z C T,H.get b=some (.cells o r z C T)→z≠2
theorem kR.oth{H K:Aaa}{S:List Nat}{o:Option Rd}{k:Rd}{v:Value}(h:kR H o k v)(c:Chg S H K)(hS:Ot2 H S):kR K o k v:=⟨h.s,fun r e=>⟨(h.r r e).1,(h.r r e).2.oth c hS⟩⟩
theorem iR.oth{H K:Aaa}{S:List Nat}{o:Option Rd}{x:Inp}{v:Value}(h:iR H o x v)(c:Chg S H K)(hS:Ot2 H S):iR K o x v:=⟨h.s,fun r e=>⟨(h.r r e).1,(h.r r e).2.oth c hS⟩⟩
def AgD(H:Aaa)(b:Nat)(s:Sd):Prop:=∃xo vo xt vt k vk,H.get b=some (.cells true false 20 (agl s.ch s.cy s.own.isSome xo vo s.other.isSome xt vt s.kept.isSome k vk s.br) 136)∧iR H s.own xo vo∧iR H s.other xt vt∧kR H s.kept k vk
theorem AgD.oth{H K:Aaa}{S:List Nat}{b:Nat}{s:Sd}(h:AgD H b s)(k:Chg S H K)(hb:b∉S)(hS:Ot2 H S):AgD K b s:=by
 obtain⟨xo,vo,xt,vt,q,vk,g,a,c,d⟩:=h
 exact⟨xo,vo,xt,vt,q,vk,k.at_ g hb,a.oth k hS,c.oth k hS,d.oth k hS⟩
theorem AgD.keeps{H K:Aaa}{b:Nat}{s:Sd}(h:AgD H b s)(k:Aac H K):AgD K b s:=h.oth (k.chg []) (by simp) (fun b hb=>by cases hb)
theorem AgD.ot{H:Aaa}{b:Nat}{s:Sd}(h:AgD H b s):Ot2 H [b]:=by
 obtain⟨xo,vo,xt,vt,q,vk,g,_⟩:=h
 intro c hc o r z C T e
 simp only[List.mem_cons,List.not_mem_nil,or_false]at hc
 subst hc;rw[g]at e;cases e
 decide
theorem A9g(ch:Int):agl ch 0 false X0 (.slice none 0 0) false X0 (.slice none 0 0) false R0 (.slice none 0 0) false=[.int .i64 ch,.int .i64 0,.bool false,.int .u64 0,.int .u32 0,.int .u32 0,.slice none 0 0,.bool false,.int .u64 0,.int .u32 0,.int .u32 0,.slice none 0 0,.bool false,.int .i64 0,.int .i64 0,.int .u64 0,.int .u32 0,.int .u32 0,.slice none 0 0,.bool false]:=by
 unfold agl R0 X0
 simp only[←Ac2,←Afn]
theorem A9h(ch:Int):Aa4 Bpk [(0,1,.int .i64 ch)]=some (agl ch 0 false X0 (.slice none 0 0) false X0 (.slice none 0 0) false R0 (.slice none 0 0) false):=by
 rw[A9g];rfl
theorem t49(H:Aaa)(ch:Int):∃w K,Aau Tryz.prog 0 49 [.int .i64 ch] H w K∧w=ptr H.n 0∧Aac H K∧AgD K H.n (sd0 ch):=by
 refine Aaq Bem Blz ?_
 intro Q hq1 hq2
 have al:(agl ch 0 false X0 (.slice none 0 0) false X0 (.slice none 0 0) false R0 (.slice none 0 0) false).all Value.oneCell'=true:=by rw[A9g];rfl
 have ll:(agl ch 0 false X0 (.slice none 0 0) false X0 (.slice none 0 0) false R0 (.slice none 0 0) false).length=20:=rfl
 simp(disch:=first|assumption|omega)only[f49,P4,seval,A9h,al,ll]
 have i0:∀K x,iR K none x (.slice none 0 0):=fun K x=>⟨rfl,fun r e=>by cases e⟩
 have k0:∀K k,kR K none k (.slice none 0 0):=fun K x=>⟨rfl,fun r e=>by cases e⟩
 exact hq2 _ _ ⟨ptr H.n 0,rfl,rfl,(Aac.refl H).alloc _,X0,.slice none 0 0,X0,.slice none 0 0,R0,.slice none 0 0,Aaa.Bp6 H _,i0 _ _,i0 _ _,k0 _ _⟩
set_option maxHeartbeats 2000000 in
theorem t87{H:Aaa}{b:Nat}{s:Sd}{cy:Int}{x:Inp}{v:Value}{cs:List (Int×Int)}(h:AgD H b s)(hv:SlC H 2 v (cs.map Aft))(hcl:cs.length≤1000):
 ∃w K,Aau Tryz.prog 0 87 [ptr b 0,.int .i64 cy,.agg (inl x v).toArray] H w K∧Chg [b] H K∧AgD K b (Akt s cy x cs)∧∃z,w=.tuple #[.agg (rdl (Aj8 s cy x cs) z).toArray,.int .i64 (Amc s cy)]∧SlC K 2 z ((Aj8 s cy x cs).c.map Aft):=by
 refine Aaq Bex Bma ?_
 intro Q hq1 hq2
 have hb:=h.ot
 have hA:=h
 obtain⟨xo,vo,xt,vt,k,vk,g,po,pt,pk⟩:=h
 have lb:=Aaa.Bp9 g
 have hc:CL H v cs:=hv.s
 have oc:=Sl.one hc
 have oo:=Aas po.s
 have ot:=Aas pt.s
 have ok:=Aas pk.s
 have e1:inl x v=[S64 x.oc,S32 x.nr,S32 x.rv,v]:=rfl
 rw[e1]
 unfold agl at g
 by_cases hle:cy≤s.cy
 ·have eS:Akt s cy x cs=s:=by unfold Akt;rw[if_pos hle]
  have eR:Aj8 s cy x cs=R0:=by unfold Aj8;rw[if_pos hle]
  have eE:Amc s cy=2:=by unfold Amc;rw[if_pos hle]
  simp only[eS,eR,eE,Anb]at hq1 hq2
  simp(disch:=first|assumption|omega|(simp only[LN]<;>omega)|(simp(disch:=first|assumption|omega|(simp only[LN]<;>omega))only[Aab,Aad];assumption))only[f87,P4,seval,oc,O4,g,hle,Aig]
  have kA:=((Aac.refl H).alloc (.cells true false 4 [S64 x.oc,S32 x.nr,S32 x.rv,v] 46)).alloc (.cells true false 6 [.int .i64 0,.int .i64 0,.int .u64 0,.int .u32 0,.int .u32 0,.slice none 0 0] 126)
  exact hq2 _ _ ⟨_,Aea (p:=H.n+1) (Aaa.Bp6 (H.alloc _) _) rfl rfl rfl,kA.chg _,hA.keeps kA,.slice none 0 0,rfl,Sl.nil _ _,.inl rfl⟩
 have eR:Aj8 s cy x cs=⟨s.ch,cy,x,cs⟩:=by unfold Aj8;rw[if_neg hle]
 have eE:Amc s cy=0:=by unfold Amc;rw[if_neg hle]
 have eS:Akt s cy x cs={s with cy:=cy,own:=some ⟨s.ch,cy,x,cs⟩,br:=false,other:=s.kept.filter fun k=>decide (k.cy=cy),kept:=s.kept.filter fun k=>decide (cy<k.cy)}:=by unfold Akt;rw[if_neg hle]
 simp only[eR,eE,eS]at hq1 hq2
 have er:∀z,rdl ⟨s.ch,cy,x,cs⟩ z=[.int .i64 s.ch,.int .i64 cy,S64 x.oc,S32 x.nr,S32 x.rv,z]:=fun _=>rfl
 obtain⟨A0,hA0⟩:∃o:AO,o=.cells true false 20 [.int .i64 s.ch,.int .i64 cy,.bool true,S64 xo.oc,S32 xo.nr,S32 xo.rv,vo,.bool s.other.isSome,S64 xt.oc,S32 xt.nr,S32 xt.rv,vt,.bool s.kept.isSome,.int .i64 k.ch,.int .i64 k.cy,S64 k.x.oc,S32 k.x.nr,S32 k.x.rv,vk,.bool s.br] 136:=⟨_,rfl⟩
 obtain⟨K0,hK0⟩:∃X,X=((H.set b A0).alloc (.cells true false 4 [S64 x.oc,S32 x.nr,S32 x.rv,v] 46)).alloc (.cells true false 6 [.int .i64 0,.int .i64 0,.int .u64 0,.int .u32 0,.int .u32 0,.slice none 0 0] 126):=⟨_,rfl⟩
 have cK:Chg [b] H K0:=by rw[hK0];exact(Chg.set H lb _).trans ((((Aac.refl _).alloc _).alloc _).chg []) (by simp)
 have n0:K0.n=H.n+2:=by rw[hK0];rfl
 have g0:K0.get H.n=some (.cells true false 4 [S64 x.oc,S32 x.nr,S32 x.rv,v] 46):=by rw[hK0];exact((Aac.refl _).alloc _).at_ (Aaa.Bp6 (H.set b _) _)
 have g1:K0.get (H.n+1)=some (.cells true false 6 [.int .i64 0,.int .i64 0,.int .u64 0,.int .u32 0,.int .u32 0,.slice none 0 0] 126):=by rw[hK0];exact Aaa.Bp6 ((H.set b _).alloc _) _
 have gb:K0.get b=some A0:=by rw[hK0];exact(((Aac.refl _).alloc _).alloc _).at_ (Aaa.Bp7 g A0)
 rw[hA0]at hK0 gb
 have tC:=Bg1 (x:=x) (hv.oth cK hb).s (by omega)
 simp only[e1]at tC
 have e1z:∀z,inl x z=[S64 x.oc,S32 x.nr,S32 x.rv,z]:=fun _=>rfl
 simp only[e1z]at tC
 have i0:∀K x,iR K none x (.slice none 0 0):=fun K x=>⟨rfl,fun r e=>by cases e⟩
 have z64:S64 X0.oc=.int .u64 0:=Ac2.symm
 have z32n:S32 X0.nr=.int .u32 0:=Afn.symm
 have z32r:S32 X0.rv=.int .u32 0:=Afn.symm
 refine Acv 10 (fun fr Z=>∃x6 x7,fr=[ptr b 0,.int .i64 cy,.agg #[S64 x.oc,S32 x.nr,S32 x.rv,v],ptr H.n 0,ptr (H.n+1) 0,.int .i64 0,x6,x7]∧Chg [b] H Z∧K0.n≤Z.n∧Z.get H.n=some (.cells true false 4 [S64 x.oc,S32 x.nr,S32 x.rv,v] 46)∧
  Z.get (H.n+1)=some (.cells true false 6 [.int .i64 0,.int .i64 0,.int .u64 0,.int .u32 0,.int .u32 0,.slice none 0 0] 126)∧AgD Z b {s with cy:=cy,own:=some ⟨s.ch,cy,x,cs⟩,br:=false,other:=s.kept.filter fun k=>decide (k.cy=cy),kept:=s.kept.filter fun k=>decide (cy<k.cy)}) (by kernel_rfl) ?_ ?_
 ·intro Q' hn _ _
  simp(disch:=first|assumption|omega|(simp only[LN]<;>omega)|(simp(disch:=first|assumption|omega|(simp only[LN]<;>omega))only[Aab,Aad];assumption))only[f87,Ae5,P4,seval,oc,O4,g,hle,oo,ot,ok]
  rw[←hK0]
  refine Aag tC ?_
  rintro _ Y ⟨z,rfl,nc⟩
  have gY:=nc.k.at_ gb
  have lY:=Aaa.Bp9 gY
  have isz:=Sl.is nc.c.s
  have oz:=Sl.one nc.c.s
  have nY:=nc.k.n
  have fz:∀b,blk z=some b→K0.n≤b:=nc.f
  have cY:∀o,Chg [b] H (Y.set b o):=fun o=>(cK.trans (nc.k.chg [b]) (by simp)).trans (Chg.set Y lY o) (by simp)
  have fin:∀(fr:List Value) (o t:Option Rd) (xt:Inp) (vt:Value),(∃x6 x7,fr=[ptr b 0,.int .i64 cy,.agg #[S64 x.oc,S32 x.nr,S32 x.rv,v],ptr H.n 0,ptr (H.n+1) 0,.int .i64 0,x6,x7])→
   (s.kept.filter fun k=>decide (k.cy=cy))=o→(s.kept.filter fun k=>decide (cy<k.cy))=t→iR H o xt vt→(∀r,t=some r→s.kept=some r)→
   Q' .normal fr (Y.set b (.cells true false 20 (agl s.ch cy true x z o.isSome xt vt t.isSome k vk false) 136)):=by
   rintro fr o t xt vt hfr rfl rfl ho ht
   obtain⟨x6,x7,rfl⟩:=hfr
   refine hn _ _ ⟨x6,x7,rfl,cY _,nY,(Aaa.Bp8 Y (by omega) lY _).trans (nc.k.at_ g0),(Aaa.Bp8 Y (by omega) lY _).trans (nc.k.at_ g1),x,z,_,_,k,vk,Aaa.Bp7 gY _,⟨isz,fun r e=>by cases e;exact⟨rfl,nc.c.chg (Chg.set Y lY _) (fun c h1 h2=>by have:=fz c h1;simp at h2;omega)⟩⟩,ho.oth (cY _) hb,⟨pk.s,fun r e=>?_⟩⟩
   obtain⟨a1,a2⟩:=pk.r r (ht r e)
   exact⟨a1,a2.oth (cY _) hb⟩
  cases hk:s.kept with
  |none=>
   rw[hk]at fin
   simp only[hk,Option.isSome_none]at gY
   simp(disch:=first|assumption|omega|(simp only[LN]<;>omega)|(simp(disch:=first|assumption|omega|(simp only[LN]<;>omega))only[Aab,Aad];assumption))only[P4,seval,gY,isz,oz,oo,ot,ok,O4,Afl]
   have f:=fin _ none none X0 (.slice none 0 0) ⟨.bool false,.bool false,rfl⟩ rfl rfl (i0 _ _) (fun r e=>by cases e)
   simp only[agl,z64,z32n,z32r,Option.isSome_none]at f
   exact f
  |some q=>
   rw[hk]at fin
   obtain⟨rfl,_⟩:=pk.r q hk
   simp only[hk,Option.isSome_some]at gY
   rcases Int.lt_trichotomy cy q.cy with hlt|heq|hgt
   ·have h1:¬q.cy=cy:=by omega
    have f1:(Option.filter (fun k:Rd=>decide (k.cy=cy)) (some q))=none:=by simp;omega
    have f2:(Option.filter (fun k:Rd=>decide (cy<k.cy)) (some q))=some q:=by simp;omega
    simp(disch:=first|assumption|omega|(simp only[LN]<;>omega)|(simp(disch:=first|assumption|omega|(simp only[LN]<;>omega))only[Aab,Aad];assumption))only[P4,seval,gY,isz,oz,oo,ot,ok,O4,Afl,h1,hlt]
    have f:=fin _ none (some q) X0 (.slice none 0 0) ⟨.bool false,.bool false,rfl⟩ f1 f2 (i0 _ _) (fun r e=>e)
    simp only[agl,z64,z32n,z32r,Option.isSome_none,Option.isSome_some]at f
    exact f
   ·have h1:q.cy=cy:=by omega
    have h2:¬cy<q.cy:=by omega
    have f1:(Option.filter (fun k:Rd=>decide (k.cy=cy)) (some q))=some q:=by simp;omega
    have f2:(Option.filter (fun k:Rd=>decide (cy<k.cy)) (some q))=none:=by simp;omega
    simp(disch:=first|assumption|omega|(simp only[LN]<;>omega)|(simp(disch:=first|assumption|omega|(simp only[LN]<;>omega))only[Aab,Aad];assumption))only[P4,seval,gY,isz,oz,oo,ot,ok,O4,Afl,h1,h2]
    have f:=fin _ (some q) none q.x vk ⟨.bool false,.bool true,rfl⟩ f1 f2 ⟨pk.s,fun r e=>by cases e;exact⟨rfl,(pk.r q hk).2⟩⟩ (fun r e=>by cases e)
    simp only[agl,h1,Option.isSome_none,Option.isSome_some]at f
    exact f
   ·have h1:¬q.cy=cy:=by omega
    have h2:¬cy<q.cy:=by omega
    have f1:(Option.filter (fun k:Rd=>decide (k.cy=cy)) (some q))=none:=by simp;omega
    have f2:(Option.filter (fun k:Rd=>decide (cy<k.cy)) (some q))=none:=by simp;omega
    simp(disch:=first|assumption|omega|(simp only[LN]<;>omega)|(simp(disch:=first|assumption|omega|(simp only[LN]<;>omega))only[Aab,Aad];assumption))only[P4,seval,gY,isz,oz,oo,ot,ok,O4,Afl,h1,h2]
    have f:=fin _ none none X0 (.slice none 0 0) ⟨.bool false,.bool false,rfl⟩ f1 f2 (i0 _ _) (fun r e=>by cases e)
    simp only[agl,z64,z32n,z32r,Option.isSome_none]at f
    exact f
 ·rintro fr Z ⟨x6,x7,rfl,cZ,nZ,gi,gr,ag⟩
  have agZ:=ag
  obtain⟨_,_,_,_,_,_,gZ,_⟩:=ag
  unfold agl at gZ
  have tD:=Bg1 (x:=x) (hv.oth cZ hb).s (by omega)
  simp only[e1z]at tD
  have lZ:=Aaa.Bp9 gZ
  simp(disch:=first|assumption|omega|(simp only[LN]<;>omega)|(simp(disch:=first|assumption|omega|(simp only[LN]<;>omega))only[Aab,Aad];assumption))only[f87,Ab5,P4,seval,gi,gZ]
  refine Aag tD ?_
  rintro _ V ⟨z,rfl,nc⟩
  have kV:=nc.k
  have grV:=kV.at_ gr
  have lV:=Aaa.Bp9 grV
  have oz:=Sl.one nc.c.s
  have fz:∀b,blk z=some b→Z.n≤b:=nc.f
  have gbV:=kV.get b lZ
  simp(disch:=first|assumption|omega|(simp only[LN]<;>omega)|(simp(disch:=first|assumption|omega|(simp only[LN]<;>omega))only[Aab,Aad];assumption))only[P4,seval,grV,oz,O4,Apv,gbV]
  refine⟨by simp,?_⟩
  have cV:=Chg.set V lV (.cells true false 6 [.int .i64 s.ch,.int .i64 cy,S64 x.oc,S32 x.nr,S32 x.rv,z] 126)
  have o6:Ot2 V [H.n+1]:=fun c hm o r y C T e=>by
   simp only[List.mem_cons,List.not_mem_nil,or_false]at hm
   subst hm;rw[grV]at e;cases e;decide
  have cAll:=(cZ.trans (kV.chg [b]) (by simp)).trans (cV.mono (T:=[b,H.n+1]) (by simp)) (by simp)
  have cA:Chg [b] H (V.set (H.n+1) (.cells true false 6 [.int .i64 s.ch,.int .i64 cy,S64 x.oc,S32 x.nr,S32 x.rv,z] 126)):=⟨cAll.n,fun c h1 h2=>cAll.get c h1 (by simp at h2 ⊢;omega)⟩
  exact hq2 _ _ ⟨_,Aea (p:=H.n+1) (Aaa.Bp7 grV _) rfl rfl rfl,cA,(agZ.keeps kV).oth cV (by simp;omega) o6,z,rfl,nc.c.chg cV (fun c h1 h2=>by have:=fz c h1;simp at h2;omega)⟩
theorem t24{H:Aaa}{b:Nat}{s:Sd}(h:AgD H b s)(hs:SOk s):∃w K,Aau Tryz.prog 0 24 [ptr b 0] H w K∧∃z,w=.tuple #[.agg (inl (Ab1 s) z).toArray,.bool (Aj9 s)]∧Amq H K z (Aka s):=by
 refine Aaq Bek Blx ?_
 intro Q hq1 hq2
 obtain⟨xo,vo,xt,vt,k,vk,g,po,pt,pk⟩:=h
 unfold agl at g
 have lb:=Aaa.Bp9 g
 have kA:=(Aac.refl H).alloc (.cells true false 4 [.int .u64 0,.int .u32 0,.int .u32 0,.slice none 0 0] 46)
 have gA:=Aaa.Bp6 H (.cells true false 4 [.int .u64 0,.int .u32 0,.int .u32 0,.slice none 0 0] 46)
 have no:Ab1 s=X0→Aka s=[]→Aj9 s=false→∀{fr:List Value},fr.getD 1 undef=ptr H.n 0→fr.getD 2 undef=.bool false→Q .ret fr (H.alloc (.cells true false 4 [.int .u64 0,.int .u32 0,.int .u32 0,.slice none 0 0] 46)):=fun e1 e2 e3 fr h1 h2=>by
  simp only[e1,e2,e3,A9e]at hq2
  exact hq2 _ _ ⟨_,Aea (p:=H.n) gA rfl h1 h2,.slice none 0 0,rfl,kA,⟨Sl.nil _ _,.inl rfl⟩,fun b hb=>by cases hb⟩
 cases ho:s.own with
 |none=>
  simp only[ho,Option.isSome_none]at g
  simp(disch:=first|assumption|omega|(simp only[LN]<;>omega)|(simp(disch:=first|assumption|omega|(simp only[LN]<;>omega))only[Aab,Aad];assumption))only[f24,P4,seval,g,Afl]
  exact no (by unfold Ab1;rw[ho]) (by unfold Aka;rw[ho]) (by unfold Aj9;rw[ho];rfl) rfl rfl
 |some a=>
 obtain⟨rfl,sa⟩:=po.r a ho
 cases ht:s.other with
 |none=>
  simp only[ho,ht,Option.isSome_none,Option.isSome_some]at g
  simp(disch:=first|assumption|omega|(simp only[LN]<;>omega)|(simp(disch:=first|assumption|omega|(simp only[LN]<;>omega))only[Aab,Aad];assumption))only[f24,P4,seval,g,Afl]
  exact no (by unfold Ab1;rw[ho,ht]) (by unfold Aka;rw[ho,ht]) (by unfold Aj9;rw[ho,ht];rfl) rfl rfl
 |some c=>
 obtain⟨rfl,sc⟩:=pt.r c ht
 simp only[ho,ht,Option.isSome_some]at g
 cases hbr:s.br with
 |true=>
  rw[hbr]at g
  simp(disch:=first|assumption|omega|(simp only[LN]<;>omega)|(simp(disch:=first|assumption|omega|(simp only[LN]<;>omega))only[Aab,Aad];assumption))only[f24,P4,seval,g,Afl]
  exact no (by unfold Ab1;rw[ho,ht,hbr]) (by unfold Aka;rw[ho,ht,hbr]) (by unfold Aj9;rw[ho,ht,hbr];rfl) rfl rfl
 |false=>
 rw[hbr]at g
 have e1:Ab1 s=Agv a.x c.x:=by unfold Ab1;rw[ho,ht,hbr]
 have e2:Aka s=Ana a.c c.c:=by unfold Aka;rw[ho,ht,hbr]
 have e3:Aj9 s=true:=by unfold Aj9;rw[ho,ht,hbr];rfl
 simp only[e1,e2,e3]at hq1 hq2
 have tM:=t58 (x:=a.x) (y:=c.x) (sa.keeps kA).s (sc.keeps kA).s (by have:=(hs.own a ho).1;omega) (by have:=(hs.other c ht).1.1;omega)
 have ea:∀z,inl a.x z=[S64 a.x.oc,S32 a.x.nr,S32 a.x.rv,z]:=fun _=>rfl
 have ec:∀z,inl c.x z=[S64 c.x.oc,S32 c.x.nr,S32 c.x.rv,z]:=fun _=>rfl
 simp only[ea,ec]at tM
 simp(disch:=first|assumption|omega|(simp only[LN]<;>omega)|(simp(disch:=first|assumption|omega|(simp only[LN]<;>omega))only[Aab,Aad];assumption))only[f24,P4,seval,g,Afl]
 refine Aag tM ?_
 rintro _ V ⟨z,rfl,nc⟩
 have kV:=nc.k
 have gV:=kV.at_ gA
 have lV:=Aaa.Bp9 gV
 have oz:=Sl.one nc.c.s
 have em:∀z,inl (Agv a.x c.x) z=[S64 (Agv a.x c.x).oc,S32 (Agv a.x c.x).nr,S32 (Agv a.x c.x).rv,z]:=fun _=>rfl
 simp only[em]at hq2 ⊢
 simp(disch:=first|assumption|omega|(simp only[LN]<;>omega)|(simp(disch:=first|assumption|omega|(simp only[LN]<;>omega))only[Aab,Aad];assumption))only[P4,seval,gV,oz,O4]
 have fz:∀b,blk z=some b→H.n+1≤b:=nc.f
 have cV:=Chg.set V lV (.cells true false 4 [S64 (Agv a.x c.x).oc,S32 (Agv a.x c.x).nr,S32 (Agv a.x c.x).rv,z] 46)
 exact hq2 _ _ ⟨_,Aea (p:=H.n) (Aaa.Bp7 gV _) rfl rfl rfl,z,rfl,(kA.trans kV).Bqa cV (by simp),nc.c.chg cV (fun b h1 h2=>by have:=fz b h1;simp at h2;omega),fun b h1=>by have:=fz b h1;omega⟩
set_option maxHeartbeats 2000000 in
theorem t88{H:Aaa}{b:Nat}{s:Sd}{r:Rd}{v:Value}(h:AgD H b s)(hs:SOk s)(hr:ROk r)(hv:SlC H 2 v (r.c.map Aft)):
 ∃w K,Aau Tryz.prog 0 88 [ptr b 0,.agg (rdl r v).toArray] H w K∧w=.int .i64 (Ae7 s r)∧Chg [b] H K∧AgD K b (Aev s r):=by
 refine Aaq Bey Bmb ?_
 intro Q hq1 hq2
 have hb:=h.ot
 have hA:=h
 obtain⟨xo,vo,xt,vt,k,vk,g,po,pt,pk⟩:=h
 have gg:=g
 unfold agl at g
 have lb:=Aaa.Bp9 g
 have ov:=Sl.one hv.s
 have oo:=Aas po.s
 have ot:=Aas pt.s
 have ok:=Aas pk.s
 have er:∀z,rdl r z=[.int .i64 r.ch,.int .i64 r.cy,S64 r.x.oc,S32 r.x.nr,S32 r.x.rv,z]:=fun _=>rfl
 obtain⟨K0,hK0⟩:∃X,X=H.alloc (.cells true false 6 (rdl r v) 126):=⟨_,rfl⟩
 have k0:Aac H K0:=by rw[hK0];exact(Aac.refl H).alloc _
 have n0:K0.n=H.n+1:=by rw[hK0];rfl
 have g0:K0.get H.n=some (.cells true false 6 (rdl r v) 126):=by rw[hK0];exact Aaa.Bp6 H _
 have gb0:=k0.at_ g
 rw[er]at hK0 g0
 have same:Aev s r=s→∀{fr:List Value} {e:Int} {K:Aaa},Aac H K→Ae7 s r=e→fr.getD 3 undef=.int .i64 e→Q .ret fr K:=fun e1 fr e K k e2 h1=>by
  rw[e1,e2]at hq2
  exact hq2 _ _ ⟨.int .i64 e,by show some (Afi [fr.getD 3 undef])=_;rw[h1];rfl,rfl,k.chg _,hA.keeps k⟩
 have tC:=Bg1 (x:=r.x) (hv.keeps k0).s (by have:=hr.1;omega)
 have ex:∀z,inl r.x z=[S64 r.x.oc,S32 r.x.nr,S32 r.x.rv,z]:=fun _=>rfl
 simp only[ex]at tC
 rw[er]
 by_cases h1:r.ch=IntKind.i64.wrap (1-s.ch)
 case neg=>
  have e1:Aev s r=s:=by unfold Aev;rw[if_pos h1]
  have e2:Ae7 s r=2:=by unfold Ae7;rw[if_pos h1]
  simp(disch:=first|assumption|omega)only[f88,P4,seval,ov,O4,g]
  rw[←hK0]
  exact same e1 k0 e2 rfl
 case pos=>
 have en:¬r.ch≠IntKind.i64.wrap (1-s.ch):=fun e=>e h1
 by_cases h2:r.cy<s.cy
 ·have e1:Aev s r=s:=by unfold Aev;rw[if_neg en,if_pos h2]
  have e2:Ae7 s r=190:=by unfold Ae7;rw[if_neg en,if_pos h2]
  simp(disch:=first|assumption|omega)only[f88,P4,seval,ov,O4,g,h2]
  rw[←hK0]
  exact same e1 k0 e2 rfl
 have gen:∀A:List Value,∃K,K=(H.set b (.cells true false 20 A 136)).alloc (.cells true false 6 [.int .i64 r.ch,.int .i64 r.cy,S64 r.x.oc,S32 r.x.nr,S32 r.x.rv,v] 126)∧Chg [b] H K∧K.get b=some (.cells true false 20 A 136)∧
  (∃w V,Aau Tryz.prog 0 111 [.agg #[S64 r.x.oc,S32 r.x.nr,S32 r.x.rv,v]] K w V∧∃z,w=.agg #[S64 r.x.oc,S32 r.x.nr,S32 r.x.rv,z]∧Amq K V z r.c)∧K.get H.n=some (.cells true false 6 [.int .i64 r.ch,.int .i64 r.cy,S64 r.x.oc,S32 r.x.nr,S32 r.x.rv,v] 126):=fun A=>by
  obtain⟨K,hK⟩:∃X,X=(H.set b (.cells true false 20 A 136)).alloc (.cells true false 6 [.int .i64 r.ch,.int .i64 r.cy,S64 r.x.oc,S32 r.x.nr,S32 r.x.rv,v] 126):=⟨_,rfl⟩
  have cK:Chg [b] H K:=by rw[hK];exact(Chg.set H lb _).trans (((Aac.refl _).alloc _).chg []) (by simp)
  have tC:=Bg1 (x:=r.x) (hv.oth cK hb).s (by have:=hr.1;omega)
  simp only[ex]at tC
  exact⟨K,hK,cK,by rw[hK];exact((Aac.refl _).alloc _).at_ (Aaa.Bp7 g _),tC,by rw[hK];exact Aaa.Bp6 (H.set b _) _⟩
 have cY:∀{K Y:Aaa} {A:List Value},Chg [b] H K→K.get b=some (.cells true false 20 A 136)→Aac K Y→∀o,Chg [b] H (Y.set b o):=fun{K Y A} c g k o=>(c.trans (k.chg [b]) (by simp)).trans (Chg.set Y (Aaa.Bp9 (k.at_ g)) o) (by simp)
 have zY:∀{K Y:Aaa} {A:List Value} {z:Value},K.get b=some (.cells true false 20 A 136)→Amq K Y z r.c→∀o,SlC (Y.set b o) 2 z (r.c.map Aft):=fun{K Y A z} g nc o=>by
  have gY:=nc.k.at_ g
  have l:=Aaa.Bp9 g
  have fz:∀b,blk z=some b→K.n≤b:=nc.f
  exact nc.c.chg (Chg.set Y (Aaa.Bp9 gY) o) (fun c h1 h2=>by have:=fz c h1;simp at h2;omega)
 by_cases h3:s.cy<r.cy
 ·have new:(s.kept=none∨∃q,s.kept=some q∧q.cy<r.cy)→Aev s r={s with kept:=some r}∧Ae7 s r=0:=by
   rintro(hk|⟨q,hk,h4⟩)
   ·unfold Aev Ae7;rw[if_neg en,if_neg h2,if_pos h3,if_neg en,if_neg h2,if_pos h3,hk];exact⟨rfl,rfl⟩
   ·unfold Aev Ae7;rw[if_neg en,if_neg h2,if_pos h3,if_neg en,if_neg h2,if_pos h3,hk];simp only[h4,if_true];exact⟨trivial,trivial⟩
  obtain⟨K1,hK1,cK,gK,⟨_,Y,hrun,z,rfl,nc⟩,gr⟩:=gen [.int .i64 s.ch,.int .i64 s.cy,.bool s.own.isSome,S64 xo.oc,S32 xo.nr,S32 xo.rv,vo,.bool s.other.isSome,S64 xt.oc,S32 xt.nr,S32 xt.rv,vt,.bool true,.int .i64 k.ch,.int .i64 k.cy,S64 k.x.oc,S32 k.x.nr,S32 k.x.rv,vk,.bool s.br]
  have gY:=nc.k.at_ gK
  have lY:=Aaa.Bp9 gY
  have oz:=Sl.one nc.c.s
  have krY:=nc.k.get _ (Aaa.Bp9 gr)
  have fin:∀(fr:List Value),(s.kept=none∨∃q,s.kept=some q∧q.cy<r.cy)→fr.getD 3 undef=.int .i64 0→
   Q .ret fr (Y.set b (.cells true false 20 (agl s.ch s.cy s.own.isSome xo vo s.other.isSome xt vt true r z s.br) 136)):=fun fr hk hfr=>by
   obtain⟨e1,e2⟩:=new hk
   exact hq2 _ _ ⟨.int .i64 0,by show some (Afi [fr.getD 3 undef])=_;rw[hfr];rfl,by rw[e2],cY cK gK nc.k _,by rw[e1];exact⟨_,_,_,_,r,z,Aaa.Bp7 gY _,po.oth (cY cK gK nc.k _) hb,pt.oth (cY cK gK nc.k _) hb,⟨Sl.is nc.c.s,fun q e=>by cases e;exact⟨rfl,zY gK nc _⟩⟩⟩⟩
  unfold agl at fin
  cases hk:s.kept with
  |none=>
   simp only[hk,Option.isSome_none]at g gb0
   simp(disch:=first|assumption|omega|(simp only[LN]<;>omega)|(simp(disch:=first|assumption|omega|(simp only[LN]<;>omega))only[Aab,Aad];assumption))only[f88,P4,seval,ov,O4,g,h2,h3]
   rw[←hK1]
   refine⟨_,_,hrun,?_⟩
   simp(disch:=first|assumption|omega|(simp only[LN]<;>omega)|(simp(disch:=first|assumption|omega|(simp only[LN]<;>omega))only[Aab,Aad];assumption))only[P4,seval,gY,oz,oo,ot,ok,O4,Apv,krY]
   exact⟨by simp,fin _ (.inl hk) rfl⟩
  |some q=>
   obtain⟨rfl,sq⟩:=pk.r q hk
   simp only[hk,Option.isSome_some]at g gb0
   by_cases h4:q.cy<r.cy
   ·simp(disch:=first|assumption|omega|(simp only[LN]<;>omega)|(simp(disch:=first|assumption|omega|(simp only[LN]<;>omega))only[Aab,Aad];assumption))only[f88,P4,seval,ov,O4,g,h2,h3,h4]
    rw[←hK1]
    refine⟨_,_,hrun,?_⟩
    simp(disch:=first|assumption|omega|(simp only[LN]<;>omega)|(simp(disch:=first|assumption|omega|(simp only[LN]<;>omega))only[Aab,Aad];assumption))only[P4,seval,gY,oz,oo,ot,ok,O4,Apv,krY]
    exact⟨by simp,fin _ (.inr ⟨_,hk,h4⟩) rfl⟩
   ·have e1:Aev s r=s:=by unfold Aev;rw[if_neg en,if_neg h2,if_pos h3,hk];simp only[h4,if_false]
    have e2:Ae7 s r=if decide (q.cy=r.cy)&&Amb q.x q.c r.x r.c then 0 else 4:=by unfold Ae7;rw[if_neg en,if_neg h2,if_pos h3,hk];simp only[h4,if_false]
    have tS:=t25 (x:=r.x) (y:=q.x) (hv.keeps k0).s (sq.keeps k0).s (by have:=hr.1;omega) (by have:=(hs.kept q hk).1;omega)
    simp only[ex,show∀z,inl q.x z=[S64 q.x.oc,S32 q.x.nr,S32 q.x.rv,z]from fun _=>rfl]at tS
    by_cases h5:q.cy=r.cy
    ·have h5':r.cy=q.cy:=h5.symm
     simp(disch:=first|assumption|omega|(simp only[LN]<;>omega)|(simp(disch:=first|assumption|omega|(simp only[LN]<;>omega))only[Aab,Aad];assumption))only[f88,P4,seval,ov,O4,g,h2,h3,h4]
     rw[←hK0]
     refine Aag tS ?_
     rintro _ X ⟨rfl,hX⟩
     rw[hX,Ay8]
     rw[decide_eq_true h5,Bool.true_and]at e2
     cases hB:Amb q.x q.c r.x r.c with
     |true=>
      rw[hB]at e2
      simp(disch:=first|assumption|omega)only[P4,seval]
      exact same e1 k0 e2 rfl
     |false=>
      rw[hB]at e2
      simp(disch:=first|assumption|omega)only[P4,seval]
      exact same e1 k0 e2 rfl
    ·have h5':¬r.cy=q.cy:=fun e=>h5 e.symm
     rw[decide_eq_false h5,Bool.false_and]at e2
     simp(disch:=first|assumption|omega)only[f88,P4,seval,ov,O4,g,h2,h3,h4]
     rw[←hK0]
     exact same e1 k0 e2 rfl
 ·cases ht:s.other with
  |none=>
   have e1:Aev s r={s with other:=some r}:=by unfold Aev;rw[if_neg en,if_neg h2,if_neg h3,ht]
   have e2:Ae7 s r=0:=by unfold Ae7;rw[if_neg en,if_neg h2,if_neg h3,ht]
   obtain⟨K1,hK1,cK,gK,⟨_,Y,hrun,z,rfl,nc⟩,gr⟩:=gen [.int .i64 s.ch,.int .i64 s.cy,.bool s.own.isSome,S64 xo.oc,S32 xo.nr,S32 xo.rv,vo,.bool true,S64 xt.oc,S32 xt.nr,S32 xt.rv,vt,.bool s.kept.isSome,.int .i64 k.ch,.int .i64 k.cy,S64 k.x.oc,S32 k.x.nr,S32 k.x.rv,vk,.bool s.br]
   have gY:=nc.k.at_ gK
   have lY:=Aaa.Bp9 gY
   have oz:=Sl.one nc.c.s
   simp only[ht,Option.isSome_none]at g gb0
   simp(disch:=first|assumption|omega|(simp only[LN]<;>omega)|(simp(disch:=first|assumption|omega|(simp only[LN]<;>omega))only[Aab,Aad];assumption))only[f88,P4,seval,ov,O4,g,h2,h3]
   rw[←hK1]
   refine⟨_,_,hrun,?_⟩
   simp(disch:=first|assumption|omega|(simp only[LN]<;>omega)|(simp(disch:=first|assumption|omega|(simp only[LN]<;>omega))only[Aab,Aad];assumption))only[P4,seval,gY,oz,oo,ot,ok,O4]
   exact hq2 _ _ ⟨.int .i64 0,rfl,by rw[e2],cY cK gK nc.k _,by rw[e1];exact⟨_,_,r.x,z,k,vk,Aaa.Bp7 gY _,po.oth (cY cK gK nc.k _) hb,⟨Sl.is nc.c.s,fun q e=>by cases e;exact⟨rfl,zY gK nc _⟩⟩,pk.oth (cY cK gK nc.k _) hb⟩⟩
  |some q=>
   obtain⟨rfl,sq⟩:=pt.r q ht
   simp only[ht,Option.isSome_some]at g gb0
   have tS:=t25 (x:=r.x) (y:=q.x) (hv.keeps k0).s (sq.keeps k0).s (by have:=hr.1;omega) (by have:=(hs.other q ht).1.1;omega)
   simp only[ex,show∀z,inl q.x z=[S64 q.x.oc,S32 q.x.nr,S32 q.x.rv,z]from fun _=>rfl]at tS
   simp(disch:=first|assumption|omega|(simp only[LN]<;>omega)|(simp(disch:=first|assumption|omega|(simp only[LN]<;>omega))only[Aab,Aad];assumption))only[f88,P4,seval,ov,O4,g,h2,h3]
   rw[←hK0]
   refine Aag tS ?_
   rintro _ X ⟨rfl,hX⟩
   rw[hX,Ay8]
   cases hB:Amb q.x q.c r.x r.c with
   |true=>
    have e1:Aev s r=s:=by unfold Aev;rw[if_neg en,if_neg h2,if_neg h3,ht];simp only[hB,if_true]
    have e2:Ae7 s r=0:=by unfold Ae7;rw[if_neg en,if_neg h2,if_neg h3,ht];simp only[hB,if_true]
    simp(disch:=first|assumption|omega)only[P4,seval]
    exact same e1 k0 e2 rfl
   |false=>
    have e1:Aev s r={s with br:=true}:=by unfold Aev;rw[if_neg en,if_neg h2,if_neg h3,ht];simp[hB]
    have e2:Ae7 s r=4:=by unfold Ae7;rw[if_neg en,if_neg h2,if_neg h3,ht];simp[hB]
    have l0:=Aaa.Bp9 gb0
    simp(disch:=first|assumption|omega)only[P4,seval,gb0,oo,ot,ok,O4]
    have cB:∀o,Chg [b] H (K0.set b o):=fun o=>(k0.chg [b]).trans (Chg.set K0 l0 o) (by simp)
    exact hq2 _ _ ⟨.int .i64 4,rfl,by rw[e2],cB _,by rw[e1];exact⟨xo,vo,q.x,vt,k,vk,(Aaa.Bp7 gb0 _).trans (by rw[show({s with br:=true}:Sd).other=some q from ht];rfl),po.oth (cB _) hb,pt.oth (cB _) hb,pk.oth (cB _) hb⟩⟩
end Go.AM.Fd

set_option maxRecDepth 8000
namespace Go.AM.Fd
open Go.Proofs Go.AM.F
theorem Azc{P:Program}{ng:Nat}{H:Aaa}{fr tm:List Value}{KF:List Value→Aaa→Prop}{tr:List TE}(d:D)(un:List Nat)(rd:List (Aa5×List Nat)){t:TypeId}{nm:String}{g:FuncId}(h:Amv P t nm=some g)(v:Value)(xs:List Value):
 stD P ng (.inv nm (.iface t v) xs) d un rd fr tm H tr KF=A1w P ng g (v::xs) d un rd fr tm H tr KF:=by
 show(match Amv P t nm with
  |some g=>∃v' H',Aau P ng g (v::xs) H v' H'∧_
  |none=>False)=_
 rw[h];rfl
structure Chv where
 wh:Int
 ls:Value
 lp:Value
 lr:Value
 iv:Value
 ep:Int
 fl:Int
 sb:Nat
 tk:Bool
 nx:Value
def chl(c:Chv)(s:Sta):List Value:=[.int .i64 c.wh,c.ls,c.lp,.slice none 0 0,c.lr,c.iv]++(stl s++[.int .i64 c.ep,.int .i64 c.fl,ptr c.sb 0,.bool c.tk,c.nx])
theorem Adu(c:Chv)(s:Sta):(chl c s).length=79:=by simp[chl,Aaj]
section
variable (c:Chv) (s:Sta)
theorem Bi7:(chl c s)[0]? =some (.int .i64 c.wh):=rfl
theorem A9i:(chl c s)[5]? =some c.iv:=rfl
theorem Bi8:(chl c s)[6]? =some (S64 s.lo):=rfl
theorem Bi9:(chl c s)[7]? =some (S64 s.us):=rfl
theorem Bja:(chl c s)[8]? =some (S64 s.ca):=rfl
theorem Atz(i:Nat)(h:i<5):(chl c s)[74+i]? =[Value.int .i64 c.ep,.int .i64 c.fl,ptr c.sb 0,.bool c.tk,c.nx][i]? :=by
 unfold chl
 rw[List.getElem?_append_right (by simp;omega),List.getElem?_append_right (by rw[Aaj];simp;omega),Aaj]
 congr 1
 simp
 omega
theorem Azd:(chl c s)[74]? =some (.int .i64 c.ep):=Atz c s 0 (by omega)
theorem A9j:(chl c s)[75]? =some (.int .i64 c.fl):=Atz c s 1 (by omega)
theorem Ak8:(chl c s)[76]? =some (ptr c.sb 0):=Atz c s 2 (by omega)
theorem A9k:(chl c s)[77]? =some (.bool c.tk):=Atz c s 3 (by omega)
theorem A9l:(chl c s)[78]? =some c.nx:=Atz c s 4 (by omega)
theorem A9m(i:Nat)(h:i<68):(chl c s)[6+i]? =(stl s)[i]? :=by
 unfold chl
 rw[List.getElem?_append_right (by simp),List.getElem?_append_left (by rw[Aaj];simp;omega)]
 congr 1
 simp
theorem A9n:(chl c s)[73]? =some (S32 s.po):=(A9m c s 67 (by omega)).trans (Ab4 s)
theorem Bjb{i:Nat}(h:i<64):(chl c s)[9+i]? =some (.int .u8 (s.ti i:Nat)):=by
 have:=A9m c s (3+i) (by omega)
 rw[Amg s h,←Nat.add_assoc]at this
 exact this
theorem A25:((chl c s).drop 1).take 4=[c.ls,c.lp,.slice none 0 0,c.lr]:=rfl
theorem A9o:((chl c s).drop 6).take 68=stl s:=by
 show(stl s++_).take 68=_
 rw[List.take_append_of_le_length (by rw[Aaj];omega),List.take_of_length_le (by rw[Aaj];omega)]
theorem Aze(i:Nat)(h:i<68)(x:Value):(chl c s).set (6+i) x=[.int .i64 c.wh,c.ls,c.lp,.slice none 0 0,c.lr,c.iv]++((stl s).set i x++[.int .i64 c.ep,.int .i64 c.fl,ptr c.sb 0,.bool c.tk,c.nx]):=by
 unfold chl
 rw[List.set_append_right _ _ (by simp),List.set_append_left _ _ (by rw[Aaj];simp;omega)]
 congr 3
 simp
theorem A9p(f:Nat→Bool):(chl c s).set 6 (S64 f)=chl c {s with lo:=f}:=rfl
theorem A9q(f:Nat→Bool):(chl c s).set 7 (S64 f)=chl c {s with us:=f}:=rfl
theorem A9r(f:Nat→Bool):(chl c s).set 8 (S64 f)=chl c {s with ca:=f}:=rfl
theorem A26(f:Nat→Bool):(chl c s).set 73 (S32 f)=chl c {s with po:=f}:=by
 rw[show 73=6+67 from rfl,Aze c s 67 (by omega),Af9];rfl
theorem A9s{i:Nat}(h:i<64)(n:Nat):(chl c s).set (9+i) (.int .u8 (n:Nat))=chl c {s with ti:=upd s.ti i n}:=by
 rw[show 9+i=6+(3+i) by omega,Aze c s (3+i) (by omega),Akw s h];rfl
theorem Azf(i:Nat)(h:i<5)(x:Value):(chl c s).set (74+i) x=[.int .i64 c.wh,c.ls,c.lp,.slice none 0 0,c.lr,c.iv]++(stl s++[Value.int .i64 c.ep,.int .i64 c.fl,ptr c.sb 0,.bool c.tk,c.nx].set i x):=by
 unfold chl
 rw[List.set_append_right _ _ (by simp;omega),List.set_append_right _ _ (by rw[Aaj];simp;omega),Aaj]
 congr 3
 simp
 omega
theorem At0(b:Bool):(chl c s).set 77 (.bool b)=chl {c with tk:=b} s:=Azf c s 3 (by omega) _
theorem Aoj(v:Value):(chl c s).set 78 v=chl {c with nx:=v} s:=Azf c s 4 (by omega) _
theorem A9t(t:Sta):(chl c s).take 6++stl t++(chl c s).drop (6+68)=chl c t:=by
 have h1:(chl c s).take 6=[.int .i64 c.wh,c.ls,c.lp,.slice none 0 0,c.lr,c.iv]:=rfl
 have h2:(chl c s).drop (6+68)=[.int .i64 c.ep,.int .i64 c.fl,ptr c.sb 0,.bool c.tk,c.nx]:=by
  show(stl s++_).drop 68=_
  rw[List.drop_append_of_le_length (by rw[Aaj];omega),List.drop_of_length_le (by rw[Aaj];omega)];rfl
 rw[h1,h2,List.append_assoc];rfl
end
theorem Aok{c:Chv}(s:Sta)(hi:∃t x,c.iv=.iface t x)(ha:isS c.ls=true)(hb:isS c.lp=true)(hc:isS c.lr=true)(hn:c.nx.oneCell'=true):(chl c s).all Value.oneCell'=true:=by
 obtain⟨wh,ls,lp,lr,iv,ep,fl,sb,tk,nx⟩:=c
 obtain⟨t,x,hi⟩:=hi
 simp only at hi ha hb hc hn
 subst hi
 simp only[chl,List.all_append,Aaz,List.all_cons,List.all_nil,Aas ha,Aas hb,Aas hc,hn]
 rfl
def nR(H:Aaa)(v:Value)(o:Option Sta):Prop:=match o with
 |none=>v=.pointer none
 |some t=>∃b own rm,v=ptr b 0∧H.get b=some (.cells own rm 68 (stl t) 43)
theorem nR.oth{H K:Aaa}{S:List Nat}{v:Value}{o:Option Sta}(h:nR H v o)(k:Chg S H K)(hS:∀b∈S,∀o r z C T,H.get b=some (.cells o r z C T)→z≠68):nR K v o:=by
 cases o with
 |none=>exact h
 |some t=>
  obtain⟨b,ow,rm,rfl,g⟩:=h
  exact⟨b,ow,rm,rfl,k.at_ g fun hm=>hS b hm _ _ _ _ _ g rfl⟩
def MaM(H:Aaa)(v:Value)(L:Ly):Prop:=(∃b,v=.iface 35 (ptr b 0)∧MaA H b L)∨∃b,v=.iface 139 (ptr b 0)∧MaR H b L
structure Ch where
 s:Sta
 ep:Int
 fl:Int
 sd:Sd
 tk:Bool
 nx:Option Sta
structure Wd where
 B:Aaa
 S:List Nat
def Wd.ok(W:Wd)(b:Nat):Prop:=b∈W.S∨W.B.n≤b
structure ChV (W:Wd) (H:Aaa) (c sb:Nat) (wh:Int) (L:Ly) (v:Chv) (C:Ch):Prop where
 e:v.wh=wh∧v.sb=sb∧v.ep=C.ep∧v.fl=C.fl∧v.tk=C.tk
 g:H.get c=some (.cells true false 79 (chl v C.s) 99)
 l:A9a ⟨v.ls,v.lp,.slice none 0 0,v.lr⟩ L.s.length L.p.length L.r.length
 n:nR H v.nx C.nx
 m:∀K,Chg W.S W.B K→MaM K v.iv L
 sd:AgR H sb C.sd
 ok:SOk C.sd
 ch:C.sd.ch=wh
 w:Chg W.S W.B H
 wc:W.ok c
 ws:W.ok sb
def ChR(W:Wd)(H:Aaa)(c sb:Nat)(wh:Int)(L:Ly)(C:Ch):Prop:=∃v,ChV W H c sb wh L v C
theorem ChV.ms{W:Wd}{H:Aaa}{c sb:Nat}{wh:Int}{L:Ly}{v:Chv}{C:Ch}(h:ChV W H c sb wh L v C):MaM H v.iv L:=h.m H h.w
theorem ChV.ne{W:Wd}{H:Aaa}{c sb:Nat}{wh:Int}{L:Ly}{v:Chv}{C:Ch}(h:ChV W H c sb wh L v C):c≠sb:=by
 obtain⟨_,_,_,g,_⟩:=h.sd
 intro e;subst e;rw[h.g]at g;cases g
theorem ChV.o68{W:Wd}{H:Aaa}{c sb:Nat}{wh:Int}{L:Ly}{v:Chv}{C:Ch}(h:ChV W H c sb wh L v C):∀b∈[c,sb],∀o r z C T,H.get b=some (.cells o r z C T)→z≠68∧z≠2∧T≠49:=by
 obtain⟨_,_,_,g,_⟩:=h.sd
 intro b hb o r z C T e
 simp only[List.mem_cons,List.not_mem_nil,or_false]at hb
 rcases hb with rfl|rfl
 ·rw[h.g]at e;cases e;decide
 ·rw[g]at e;cases e;decide
theorem ChV.up{W:Wd}{H K:Aaa}{c sb:Nat}{wh:Int}{L:Ly}{v:Chv}{C:Ch}(h:ChV W H c sb wh L v C)(k:Chg [c,sb] H K):Chg W.S W.B K:=
 h.w.trans k fun x hx=>by
  simp only[List.mem_cons,List.not_mem_nil,or_false]at hx
  rcases hx with rfl|rfl
  ·exact h.wc
  ·exact h.ws
theorem ChV.oth{W:Wd}{H K:Aaa}{c sb:Nat}{wh:Int}{L:Ly}{v:Chv}{C:Ch}{S:List Nat}(h:ChV W H c sb wh L v C)(k:Chg S H K)(hc:c∉S)(hs:sb∉S)(hW:∀x∈S,x∈W.S∨W.B.n≤x)
 (hS:∀b∈S,∀o r z C T,H.get b=some (.cells o r z C T)→z≠68∧z≠2∧T≠49):ChV W K c sb wh L v C:=
 ⟨h.e,k.at_ h.g hc,h.l,h.n.oth k fun b hb o r z C T e=>(hS b hb o r z C T e).1,h.m,h.sd.oth k hs fun b hb o r z C T e=>(hS b hb o r z C T e).2,h.ok,h.ch,h.w.trans k hW,h.wc,h.ws⟩
theorem ChV.keeps{W:Wd}{H K:Aaa}{c sb:Nat}{wh:Int}{L:Ly}{v:Chv}{C:Ch}(h:ChV W H c sb wh L v C)(k:Aac H K):ChV W K c sb wh L v C:=h.oth (k.chg []) (by simp) (by simp) (by simp) (by simp)
theorem ChR.keeps{W:Wd}{H K:Aaa}{c sb:Nat}{wh:Int}{L:Ly}{C:Ch}(h:ChR W H c sb wh L C)(k:Aac H K):ChR W K c sb wh L C:=by
 obtain⟨v,h⟩:=h;exact⟨v,h.keeps k⟩
end Go.AM.Fd

set_option maxRecDepth 8000
namespace Go.AM.Fd
open Nat (reduceAdd reduceEqDiff reduceLT reduceLeDiff reduceMul reduceSub)
open Go.Proofs Go.AM.F
theorem t34{H:Aaa}(n:Int):∃w K,Aau Tryz.prog 0 34 [.int .i64 n] H w K∧w=.bool (decide (0≤n)&&decide (n≤1099511627776))∧K=H:=by
 refine Aaq Bd8 Blj ?_
 intro Q hq1 hq2
 by_cases h1:0≤n
 ·simp(disch:=first|assumption|omega)only[f34,P4,seval,h1]
  exact hq2 _ _ ⟨.bool _,rfl,by simp[h1],rfl⟩
 ·simp(disch:=first|assumption|omega)only[f34,P4,seval,h1]
  exact hq2 _ _ ⟨.bool false,rfl,by simp[h1],rfl⟩
theorem t28{H:Aaa}{u:V4}{xs:List RV}{L:Ly}{wh:Int}(hw:wh=0∨wh=1)(h:LyR H u xs L)(hf:Aih 9223372036854775807 L):
 ∃w K,Aau Tryz.prog 0 28 [.int .i64 wh,.agg u.l.toArray] H w K∧Aac H K∧∃iv,w=.tuple #[iv,.int .i64 (Aar L)]∧(∃t x,iv=.iface t x)∧
  (Aar L=0→∀S K',Chg S K K'→(∀b∈S,(b<H.n∨K.n≤b)∧∀o r z c T,K.get b=some (.cells o r z c T)→¬(z=1∨z=2∨z=4∨z=5))→MaM K' iv L):=by
 refine Aaq Bd7 Bli ?_
 intro Q hq1 hq2
 have os:=Sl.one h.s
 have op:=Sl.one h.p
 have og:=Sl.one h.g
 have or:=Sl.one h.r
 have hul:u.l=[u.s,u.p,u.g,u.r]:=rfl
 have kA:=(Aac.refl H).alloc (.cells true false 4 [u.s,u.p,u.g,u.r] 27)
 rcases hw with rfl|rfl
 ·by_cases he:Aar L=0
  ·have tN:=t10 (h.keeps kA) hf he
   simp only[hul]at tN ⊢
   simp(disch:=first|assumption|omega|(simp only[LN]<;>omega)|(simp(disch:=first|assumption|omega|(simp only[LN]<;>omega))only[Aab,Aad];assumption))only[f28,P4,seval,os,op,og,or]
   refine Aag tN ?_
   rintro _ K ⟨k,b,rfl,m⟩
   simp(disch:=first|assumption|omega)only[P4,seval]
   refine hq2 _ _ ⟨.tuple #[.iface 35 (ptr b 0),.int .i64 0],rfl,kA.trans k,_,by rw[he],⟨_,_,rfl⟩,fun _ S K' c hS=>.inl ⟨b,rfl,m.chg c fun z hz b hb o r C T g=>(hS b hb).2 _ _ _ _ _ g hz⟩⟩
  ·have tN:=u10 (h.keeps kA) hf he
   simp only[hul]at tN ⊢
   simp(disch:=first|assumption|omega|(simp only[LN]<;>omega)|(simp(disch:=first|assumption|omega|(simp only[LN]<;>omega))only[Aab,Aad];assumption))only[f28,P4,seval,os,op,og,or]
   refine Aag tN ?_
   rintro _ K ⟨k,rfl⟩
   simp(disch:=first|assumption|omega)only[P4,seval]
   exact hq2 _ _ ⟨.tuple #[.iface 35 (.pointer none),.int .i64 (Aar L)],rfl,kA.trans k,_,rfl,⟨_,_,rfl⟩,fun e=>absurd e he⟩
 ·have tN:=t60 (h.keeps kA) hf
  simp only[hul]at tN ⊢
  simp(disch:=first|assumption|omega|(simp only[LN]<;>omega)|(simp(disch:=first|assumption|omega|(simp only[LN]<;>omega))only[Aab,Aad];assumption))only[f28,P4,seval,os,op,og,or]
  refine Aag tN ?_
  rintro _ K ⟨k,e1,e2⟩
  by_cases he:Aar L=0
  ·obtain⟨b,rfl,m⟩:=e2 he
   simp(disch:=first|assumption|omega)only[P4,seval]
   exact hq2 _ _ ⟨.tuple #[.iface 139 (ptr b 0),.int .i64 0],rfl,kA.trans k,_,by rw[he],⟨_,_,rfl⟩,fun _ S K' c hS=>.inr ⟨b,rfl,(m.same fun d h1 h2=>c.get d h2 fun hm=>by
    have:=(hS d hm).1
    simp only[Acd]at h1
    omega).r⟩⟩
  ·rw[e1 he]
   simp(disch:=first|assumption|omega)only[P4,seval]
   exact hq2 _ _ ⟨.tuple #[.iface 139 (.pointer none),.int .i64 (Aar L)],rfl,kA.trans k,_,rfl,⟨_,_,rfl⟩,fun e=>absurd e he⟩
theorem A9u(wh:Int)(a b c iv:Value)(sb:Nat)(hi:∃t x,iv=.iface t x)(ha:isS a=true)(hb:isS b=true)(hc:isS c=true):Aa4 Bg9 [(0,1,.int .i64 wh),(1,4,.agg #[a,b,.slice none 0 0,c]),(5,1,iv),(76,1,ptr sb 0)]=some (chl ⟨wh,a,b,c,iv,0,0,sb,false,.pointer none⟩ Abs):=by
 have e:chl ⟨wh,a,b,c,iv,0,0,sb,false,.pointer none⟩ Abs=[.int .i64 wh,a,b,.slice none 0 0,c,iv,.int .u64 0,.int .u64 0,.int .u64 0]++List.replicate 64 (.int .u8 0)++[.int .u32 0,.int .i64 0,.int .i64 0,ptr sb 0,.bool false,.pointer none]:=by
  unfold chl
  rw[←Ado];rfl
 rw[e]
 obtain⟨t,x,rfl⟩:=hi
 obtain⟨_,_,_,rfl⟩:=Aeo ha
 obtain⟨_,_,_,rfl⟩:=Aeo hb
 obtain⟨_,_,_,rfl⟩:=Aeo hc
 rfl
theorem Bjc(H:Aaa){e esz b n:Nat}{z:List Value}(hz:z.length=esz)(ho:z.all Value.oneCell'=true)(h1:n*b≤140737488355328)(h2:n≤1000000):Aam (.mksl e esz b z (.int .i64 ((n:Nat):Int)) (.int .i64 ((n:Nat):Int))) H=some (slc H.n 0 n n,H.alloc (.cells true false esz (List.replicate n z).flatten e)):=by
 have h4:((n*b:Nat):Int)≤140737488355328:=by omega
 have h3:((n:Nat):Int)*(b:Int)≤140737488355328:=by simpa using h4
 have h5:(b:Int)*((n:Nat):Int)≤140737488355328:=by rw[Int.mul_comm];exact h3
 simp only[Aam]
 rw[if_pos ⟨by omega,by omega,by first|exact h3|exact h5|omega,by first|exact h3|exact h5|omega,hz,ho⟩,Int.toNat_natCast]
theorem t9{H:Aaa}{u:V4}{xs:List RV}{L:Ly}{wh:Int}(h:LyR H u xs L)(hf:Aih 9223372036854775807 L):
 ∃w K,Aau Tryz.prog 0 9 [.int .i64 wh,.agg u.l.toArray] H w K∧Aac H K∧(¬(wh=0∨wh=1)→w=.tuple #[.pointer none,.int .i64 2])∧(wh=0∨wh=1→(Aar L≠0→w=.tuple #[.pointer none,.int .i64 (Aar L)])∧
  (Aar L=0→∃c sb,∃v:Chv,w=.tuple #[ptr c 0,.int .i64 0]∧(v.wh=wh∧v.sb=sb∧v.ep=0∧v.fl=0∧v.tk=false∧v.nx=.pointer none)∧K.get c=some (.cells true false 79 (chl v Abs) 99)∧
   A9a ⟨v.ls,v.lp,.slice none 0 0,v.lr⟩ L.s.length L.p.length L.r.length∧AgR K sb (sd0 wh)∧H.n≤c∧H.n≤sb∧
   ∀S K',Chg S K K'→(∀b∈S,(b<H.n∨b=c∨b=sb∨K.n≤b)∧∀o r z c T,K.get b=some (.cells o r z c T)→¬(z=1∨z=2∨z=4∨z=5))→MaM K' v.iv L)):=by
 refine Aaq Blh f9_n ?_
 intro Q hq1 hq2
 have os:=Sl.one h.s
 have op:=Sl.one h.p
 have og:=Sl.one h.g
 have or:=Sl.one h.r
 have is:=Sl.is h.s
 have ip:=Sl.is h.p
 have ir:=Sl.is h.r
 have ls:=h.s.len
 have lp:=h.p.len
 have lr:=h.r.len
 rw[h.rlen]at lr
 have hul:u.l=[u.s,u.p,u.g,u.r]:=rfl
 have kA:=(Aac.refl H).alloc (.cells true false 4 [u.s,u.p,u.g,u.r] 27)
 have gA:=Aaa.Bp6 H (.cells true false 4 [u.s,u.p,u.g,u.r] 27)
 by_cases hw:wh=0∨wh=1
 case neg=>
  have h0:¬wh=0:=fun e=>hw (.inl e)
  have h1:¬wh=1:=fun e=>hw (.inr e)
  simp only[hul]
  simp(disch:=first|assumption|omega)only[f9,P4,seval,os,op,og,or]
  exact hq2 _ _ ⟨.tuple #[.pointer none,.int .i64 2],rfl,kA,fun _=>rfl,fun e=>absurd e hw⟩
 have tN:=t28 hw (h.keeps kA) hf
 simp only[hul]at tN ⊢
 by_cases he:Aar L=0
 case neg=>
  have ne:(Aar L != 0)=true:=by simp[he]
  rcases hw with rfl|rfl
  all_goals
   simp(disch:=first|assumption|omega|(simp only[LN]<;>omega)|(simp(disch:=first|assumption|omega|(simp only[LN]<;>omega))only[Aab,Aad];assumption))only[f9,P4,seval,os,op,og,or]
   refine Aag tN ?_
   rintro _ K ⟨k,iv,rfl,_,_⟩
   simp(disch:=first|assumption|omega)only[P4,seval,ne]
   exact hq2 _ _ ⟨.tuple #[.pointer none,.int .i64 (Aar L)],rfl,kA.trans k,fun e=>absurd (by simp) e,fun _=>⟨fun _=>rfl,fun e=>absurd e he⟩⟩
 case pos=>
 have ne:(Aar L != 0)=false:=by simp[he]
 have hL:=Aa8 (Aav he)
 have hLs:=hL.s
 have hLp:=hL.p
 have hLr:=hL.r
 have tG:∀K,∃w V,Aau Tryz.prog 0 29 [.int .i64 wh] K w V∧w=ptr K.n 0∧Aac K V∧AgR V K.n (sd0 wh):=fun K=>t29 hw
 have m1:=fun K=>Bjc K (e:=9) (esz:=1) (b:=16) (n:=L.s.length) (z:=[.string ByteArray.empty]) rfl rfl (by omega) (by omega)
 have m2:=fun K=>Bjc K (e:=89) (esz:=2) (b:=24) (n:=L.p.length) (z:=[.string ByteArray.empty,.int .i64 0]) rfl rfl (by omega) (by omega)
 have m3:=fun K=>Bjc K (e:=87) (esz:=6) (b:=120) (n:=L.r.length) (z:=[.string ByteArray.empty,.int .i64 0,.slice none 0 0,.slice none 0 0,.slice none 0 0,.slice none 0 0]) rfl rfl (by omega) (by omega)
 have fl:∀a b c d e f g h i,Aa4 [.slice none 0 0,.slice none 0 0,.slice none 0 0,.slice none 0 0] [(0,1,slc a 0 b c),(1,1,slc d 0 e f),(3,1,slc g 0 h i)]=some [slc a 0 b c,slc d 0 e f,.slice none 0 0,slc g 0 h i]:=fun _ _ _ _ _ _ _ _ _=>rfl
 refine Acv 2 (fun fr Z=>∃x8 x9,fr=[.int .i64 wh,.agg #[u.s,u.p,u.g,u.r],ptr H.n 0,.pointer none,.int .i64 0,undef,undef,undef,x8,x9]∧Z=H.alloc (.cells true false 4 [u.s,u.p,u.g,u.r] 27)) (by kernel_rfl) ?_ ?_
 ·intro Q' hn _ _
  rcases hw with rfl|rfl
  all_goals
   simp(disch:=first|assumption|omega)only[f9,Ae5,P4,seval,os,op,og,or]
   exact hn _ _ ⟨_,_,rfl,rfl⟩
 rintro fr Z ⟨x8,x9,rfl,rfl⟩
 simp(disch:=first|assumption|omega|(simp only[LN]<;>omega)|(simp(disch:=first|assumption|omega|(simp only[LN]<;>omega))only[Aab,Aad];assumption))only[f9,Ab5,P4,seval]
 refine Aag tN ?_
 rintro _ K ⟨k,iv,rfl,hiv,hm⟩
 have gK:=k.at_ gA
 have oiv:iv.oneCell'=true:=by obtain⟨_,_,rfl⟩:=hiv;rfl
 have lK:=Aaa.Bp9 gK
 simp(disch:=first|assumption|omega|(simp only[LN]<;>omega)|(simp(disch:=first|assumption|omega|(simp only[LN]<;>omega))only[Aab,Aad];assumption))only[P4,seval,ne,gK,ls,lp,lr,is,ip,ir,m1,m2,m3,fl,oiv]
 obtain⟨K4,hK4⟩:∃X,X=(((K.alloc (.cells true false 1 (List.replicate L.s.length [.string ByteArray.empty]).flatten 9)).alloc (.cells true false 2 (List.replicate L.p.length [.string ByteArray.empty,.int .i64 0]).flatten 89)).alloc (.cells true false 6 (List.replicate L.r.length [.string ByteArray.empty,.int .i64 0,.slice none 0 0,.slice none 0 0,.slice none 0 0,.slice none 0 0]).flatten 87)).alloc (.cells true false 4 [slc K.n 0 L.s.length L.s.length,slc (K.n+1) 0 L.p.length L.p.length,.slice none 0 0,slc (K.n+1+1) 0 L.r.length L.r.length] 27):=⟨_,rfl⟩
 have k4:Aac K K4:=by rw[hK4];exact((((Aac.refl K).alloc _).alloc _).alloc _).alloc _
 have n4:K4.n=K.n+4:=by rw[hK4];rfl
 rw[←hK4]
 refine Aag (tG _) ?_
 rintro _ V ⟨rfl,kV,ag⟩
 have fc:=A9u wh (slc K.n 0 L.s.length L.s.length) (slc (K.n+1) 0 L.p.length L.p.length) (slc (K.n+1+1) 0 L.r.length L.r.length) iv K4.n hiv rfl rfl rfl
 have on:=Aok (c:=⟨wh,slc K.n 0 L.s.length L.s.length,slc (K.n+1) 0 L.p.length L.p.length,slc (K.n+1+1) 0 L.r.length L.r.length,iv,0,0,K4.n,false,.pointer none⟩) Abs hiv rfl rfl rfl rfl
 have ln:=Adu ⟨wh,slc K.n 0 L.s.length L.s.length,slc (K.n+1) 0 L.p.length L.p.length,slc (K.n+1+1) 0 L.r.length L.r.length,iv,0,0,K4.n,false,.pointer none⟩ Abs
 simp(disch:=first|assumption|omega)only[P4,seval,fc,on,ln]
 have nV:=kV.n
 have kN:=(k4.trans kV).alloc (.cells true false 79 (chl ⟨wh,slc K.n 0 L.s.length L.s.length,slc (K.n+1) 0 L.p.length L.p.length,slc (K.n+1+1) 0 L.r.length L.r.length,iv,0,0,K4.n,false,.pointer none⟩ Abs) 99)
 refine⟨by simp;exact kV.get _ (by omega),hq2 _ _ ⟨.tuple #[ptr V.n 0,.int .i64 0],rfl,(kA.trans k).trans kN,fun e=>absurd hw e,fun _=>⟨fun e=>absurd he e,fun _=>⟨V.n,K4.n,_,rfl,⟨rfl,rfl,rfl,rfl,rfl,rfl⟩,Aaa.Bp6 V _,⟨⟨rfl,rfl⟩,⟨rfl,rfl⟩,rfl,⟨rfl,rfl⟩⟩,ag.keeps ((Aac.refl V).alloc _),by omega,by omega,?_⟩⟩⟩⟩
 intro S K' c hS
 refine hm he S K' ((kN.chg S).trans c (fun x h=>.inl h)) fun b hb=>⟨?_,fun o r z C T g=>(hS b hb).2 o r z C T (kN.at_ g)⟩
 have:=(hS b hb).1
 simp only[Acd]at this ⊢
 omega
end Go.AM.Fd

set_option maxRecDepth 20000
namespace Go.AM.Fd
open Go.Proofs Go.AM.F
theorem Bfu{L:Ly}(he:Aar L=0)(s:Sta):Bhc L s=Amk L s:=by
 have hL:=Aa8 (Aav he)
 have lr:=hL.r
 have lp:=hL.p
 unfold Bhc Amk
 congr 1
 rw[Bool.eq_iff_iff]
 simp only[Bool.and_eq_true,Aa0,Abk,List.all_eq_true,List.mem_range,Bool.not_eq_true',Bool.and_eq_false_iff,iOK,kOK,nOK,Bool.or_eq_true,Bool.not_eq_false']
 constructor
 ·rintro⟨⟨h1,h2⟩,h3⟩ i hi
  refine⟨?_,?_⟩
  ·cases hlo:s.lo i with
   |false=>exact .inl rfl
   |true=>
    right
    intro k hk
    by_cases hik:i=k
    ·left;left;simp[hik]
    ·by_cases hlk:s.lo k=true
     ·right
      rcases h1 k (by omega)with h|h
      ·have:(s.lo i&&Ain L i k)=false:=by
        have:=h
        unfold Ah5 at this
        rw[List.any_eq_false]at this
        simpa using this i (List.mem_range.2 hi)
       rw[hlo]at this
       have hki:¬k=i:=fun e=>hik e.symm
       simp[Ain,hk,hki]at this
       exact this
      ·rw[hlk]at h;cases h
     ·left;right;simpa using hlk
  ·intro x hx
   cases hlo:s.lo i with
   |false=>exact .inl rfl
   |true=>
    right
    have hg:=(Aa2 he (List.getElem_mem hi)).nd x (by rw[←Ac4 hi];exact hx)
    obtain⟨xp,xb⟩:=x
    obtain⟨m,rfl⟩:∃m:Nat,xp=(m:Int):=⟨xp.toNat,by have:=hg.1;simp only at this;omega⟩
    have hm:m<32:=by have:=hg.2;simp only at this;omega
    show(s.po m != xb)=false
    cases xb with
    |false=>
     rcases h2 m hm with h|h
     ·have:(s.lo i&&nor L i m)=false:=by
       unfold Ah5 at h
       rw[List.any_eq_false]at h
       simpa using h i (List.mem_range.2 hi)
      rw[hlo]at this
      have hc:nor L i m=true:=List.contains_iff_mem.2 hx
      rw[hc]at this;cases this
     ·rw[h];rfl
    |true=>
     rcases h3 m hm with h|h
     ·have:(s.lo i&&rev L i m)=false:=by
       unfold Ah5 at h
       rw[List.any_eq_false]at h
       simpa using h i (List.mem_range.2 hi)
      rw[hlo]at this
      have hc:rev L i m=true:=List.contains_iff_mem.2 hx
      rw[hc]at this;cases this
     ·rw[h];rfl
 ·intro h
  refine⟨⟨?_,?_⟩,?_⟩
  ·intro k hk
   by_cases hlk:s.lo k=true
   ·left
    unfold Ah5
    rw[List.any_eq_false]
    intro i hi
    have hi':=List.mem_range.1 hi
    cases hlo:s.lo i with
    |false=>simp
    |true=>
     rcases(h i hi').1 with h1|h1
     ·rw[hlo]at h1;cases h1
     ·by_cases hkn:k<L.r.length
      ·rcases h1 k hkn with(h2|h2)|h2
       ·have e:i=k:=by simpa using h2
        subst e
        simp[Ain]
       ·rw[hlk]at h2;cases h2
       ·simp[Ain,h2]
      ·simp[Ain,hkn]
   ·right;simpa using hlk
  ·intro p hp
   by_cases hpo:s.po p=true
   ·left
    unfold Ah5
    rw[List.any_eq_false]
    intro i hi
    have hi':=List.mem_range.1 hi
    cases hlo:s.lo i with
    |false=>simp
    |true=>
     simp only[Bool.true_and]
     intro hc
     have hx:=List.contains_iff_mem.1 (show(nds (ro L i)).contains ((p:Int),false)=true from hc)
     rcases(h i hi').2 _ hx with h2|h2
     ·rw[hlo]at h2;cases h2
     ·have h2':(s.po p != false)=false:=h2
      rw[hpo]at h2';cases h2'
   ·right;simpa using hpo
  ·intro p hp
   by_cases hpo:s.po p=false
   ·left
    unfold Ah5
    rw[List.any_eq_false]
    intro i hi
    have hi':=List.mem_range.1 hi
    cases hlo:s.lo i with
    |false=>simp
    |true=>
     simp only[Bool.true_and]
     intro hc
     have hx:=List.contains_iff_mem.1 (show(nds (ro L i)).contains ((p:Int),true)=true from hc)
     rcases(h i hi').2 _ hx with h2|h2
     ·rw[hlo]at h2;cases h2
     ·have h2':(s.po p != true)=false:=h2
      rw[hpo]at h2';cases h2'
   ·right;simpa using hpo
theorem Avb{H:Aaa}{u:V4}{xs:List RV}{L:Ly}(h:LyR H u xs L):u.l.all Value.oneCell'=true:=by
 have os:=Sl.one h.s
 have op:=Sl.one h.p
 have og:=Sl.one h.g
 have or:=Sl.one h.r
 simp only[V4.l,List.all_cons,List.all_nil,os,op,og,or];rfl
end Go.AM.Fd

set_option maxRecDepth 8000
namespace Go.AM.Fd
open Nat (reduceAdd reduceEqDiff reduceLT reduceLeDiff reduceMul reduceSub)
open Go.Proofs Go.AM.F
theorem A27{H:Aaa}{iv:Value}{L:Ly}(h:MaM H iv L)(he:Aar L=0):∃t v g,iv=.iface t v∧Amv Tryz.prog t "Right" =some g∧∀K,Aac H K→∀s:Sta,∃w K',Aau Tryz.prog 0 g [v,.agg (stl s).toArray] K w K'∧w=.bool (Amk L s)∧K'=K:=by
 have hL:=(Aa8 (Aav he)).r
 rcases h with⟨b,rfl,m⟩|⟨b,rfl,m⟩
 ·exact⟨_,_,16,rfl,by kernel_rfl,fun K k s=>t16 (m.keeps k) he s⟩
 ·refine⟨_,_,170,rfl,by kernel_rfl,fun K k s=>?_⟩
  have:=t170 (m.keeps k) hL s
  rw[Bfu he]at this
  exact this
def otl(L:Ly)(x:Inp)(s:Sta):List Value:=[S64 fun i=>decide (i<L.r.length)&&Aes L x s i,S32 s.po]
theorem A9v{H:Aaa}{iv:Value}{L:Ly}(h:MaM H iv L)(he:Aar L=0):∃t v g,iv=.iface t v∧Amv Tryz.prog t "Step" =some g∧∀K,Aac H K→∀(s:Sta) (x:Inp) (z:Value) (cs:List (Int×Int)),SlC K 2 z (cs.map Aft)→cs.length≤1000000→(∀c∈cs,0≤c.1∧c.1<256)→
 ∃w K',Aau Tryz.prog 0 g [v,.agg (stl s).toArray,.agg (inl x z).toArray] K w K'∧w=.tuple #[.agg (stl (Ac5 L s x cs)).toArray,.agg (otl L x (Ac5 L s x cs)).toArray]∧K'=K:=by
 rcases h with⟨b,rfl,m⟩|⟨b,rfl,m⟩
 ·exact⟨_,_,156,rfl,by kernel_rfl,fun K k s x z cs h1 h2 h3=>t156 (m.keeps k) he h1 h2 h3⟩
 ·refine⟨_,_,171,rfl,by kernel_rfl,fun K k s x z cs h1 h2 h3=>?_⟩
  have:=t171 (s:=s) (x:=x) (m.keeps k) (Aa8 (Aav he)) h1.s h2
  rw[A6i he s x cs]at this
  have e:(fun i=>prB L x (Ac5 L s x cs) i)=fun i=>decide (i<L.r.length)&&Aes L x (Ac5 L s x cs) i:=funext fun i=>Bmv he _ i
  rw[show prB L x (Ac5 L s x cs)=_ from e]at this
  exact this
theorem Azg{H:Aaa}{b b':Nat}(h:b≠b')(h1:b<H.n)(h2:b'<H.n)(o o':AO):(H.set b o).set b' o'=(H.set b' o').set b o:=by
 simp only[Aaa.set]
 rw[List.set_comm _ _ (by omega)]
def Ant(n:Int):Bool:=decide (0≤n)&&decide (n≤1099511627776)
def A28(L:Ly)(s:Sta)(ep cy:Int):Bool:=Amk L s&&(Ant ep&&Ant cy)
def Arg(L:Ly)(C:Ch)(wh:Int)(s:Sta)(ep cy:Int):Ch:=if A28 L s ep cy then⟨s,ep,cy,sd0 wh,false,none⟩else C
def Arh(L:Ly)(s:Sta)(ep cy:Int):Int:=if A28 L s ep cy then 0 else 2
theorem Aq0{B:List Value}{m:Nat}(hB:B.length=m)(i:Nat)(E:List Value)(x:Value)(hx:x.cells.toList=[x])(hi:i<E.length)(r:List (Nat×Nat×Value)):Aa4 (B++E) ((m+i,1,x)::r)=Aa4 (B++E.set i x) r:=by
 have hl:m+i<(B++E).length:=by rw[List.length_append,hB];omega
 rw[Ad9,hx,if_pos ⟨rfl,hl⟩]
 congr 1
 have h1:=List.set_eq_take_append_cons_drop (l:=B++E) (i:=m+i) (a:=x)
 rw[if_pos hl,List.set_append_right _ _ (by omega),hB]at h1
 rw[show m+i-m=i by omega]at h1
 rw[h1,List.append_assoc];rfl
theorem Bjd{B:List Value}(hB:B.length=74)(e0 e1 e2 e3 e4:Value)(a b:Int)(sb:Nat):Aa4 (B++[e0,e1,e2,e3,e4]) [(74,1,.int .i64 a),(75,1,.int .i64 b),(76,1,ptr sb 0)]=some (B++[.int .i64 a,.int .i64 b,ptr sb 0,e3,e4]):=by
 refine(Aq0 hB 0 _ _ rfl (by simp) _).trans ?_
 refine(Aq0 hB 1 _ _ rfl (by simp) _).trans ?_
 exact Aq0 hB 2 _ _ rfl (by simp) _
theorem A9w(wh ep cy:Int)(a b c iv:Value)(s:Sta)(sb:Nat)(hi:∃t x,iv=.iface t x)(ha:isS a=true)(hb:isS b=true)(hc:isS c=true):Aa4 Bg9 [(0,1,.int .i64 wh),(1,4,.agg #[a,b,.slice none 0 0,c]),(5,1,iv),(6,68,.agg (stl s).toArray),(74,1,.int .i64 ep),(75,1,.int .i64 cy),(76,1,ptr sb 0)]=some (chl ⟨wh,a,b,c,iv,ep,cy,sb,false,.pointer none⟩ s):=by
 have e:Aa4 Bg9 [(0,1,.int .i64 wh),(1,4,.agg #[a,b,.slice none 0 0,c]),(5,1,iv),(6,68,.agg (stl s).toArray),(74,1,.int .i64 ep),(75,1,.int .i64 cy),(76,1,ptr sb 0)]=Aa4 (([.int .i64 wh,a,b,.slice none 0 0,c,iv]++stl s)++[.int .i64 0,.int .i64 0,.pointer none,.bool false,.pointer none]) [(74,1,.int .i64 ep),(75,1,.int .i64 cy),(76,1,ptr sb 0)]:=by
  obtain⟨t,x,rfl⟩:=hi
  obtain⟨_,_,_,rfl⟩:=Aeo ha
  obtain⟨_,_,_,rfl⟩:=Aeo hb
  obtain⟨_,_,_,rfl⟩:=Aeo hc
  rfl
 rw[e,Bjd (by simp[Aaj])]
 unfold chl
 rw[List.append_assoc]
set_option maxHeartbeats 1000000 in
theorem t11{W:Wd}{H:Aaa}{c sb:Nat}{wh:Int}{L:Ly}{C:Ch}(h:ChR W H c sb wh L C)(hw:wh=0∨wh=1)(he:Aar L=0)(s:Sta)(ep cy:Int):
 ∃w K,Aau Tryz.prog 0 11 [ptr c 0,.agg (stl s).toArray,.int .i64 ep,.int .i64 cy] H w K∧w=.int .i64 (Arh L s ep cy)∧Chg [c,sb] H K∧∃sb',(sb'=sb∨H.n≤sb')∧ChR W K c sb' wh L (Arg L C wh s ep cy):=by
 refine Aaq Bd9 Blk ?_
 intro Q hq1 hq2
 obtain⟨v,hv⟩:=h
 obtain⟨t,mv,g,eiv,hme,hrun⟩:=A27 hv.ms he
 have gc:=hv.g
 have lc:=Aaa.Bp9 gc
 have ks:=(Aac.refl H).alloc (.cells true false 68 (stl s) 43)
 have gs:=Aaa.Bp6 H (.cells true false 68 (stl s) 43)
 have m5:=A9i v C.s
 rw[eiv]at m5
 have bad:A28 L s ep cy=false→∀{fr:List Value} {K:Aaa},Aac H K→fr.getD 5 undef=.int .i64 2→Q .ret fr K:=fun e fr K k hf=>by
  have e1:Arh L s ep cy=2:=by unfold Arh;rw[e];rfl
  have e2:Arg L C wh s ep cy=C:=by unfold Arg;rw[e];rfl
  exact hq2 _ _ ⟨.int .i64 2,by show some (Afi [fr.getD 5 undef])=_;rw[hf];rfl,by rw[e1],k.chg _,sb,.inl rfl,by rw[e2];exact⟨v,hv.keeps k⟩⟩
 have len:=Adu v C.s
 simp(disch:=first|assumption|omega)only[f11,P4,seval,Aaz,Aaj,gc,m5,Abc,Azc (h:=hme)]
 refine Aaw (hrun _ ks s) ?_
 have hb:A28 L s ep cy=(Amk L s&&(Ant ep&&Ant cy)):=rfl
 cases h1:Amk L s with
 |false=>
  simp(disch:=first|assumption|omega)only[P4,seval]
  exact bad (by rw[hb,h1];rfl) ks rfl
 |true=>
 simp(disch:=first|assumption|omega)only[P4,seval]
 refine Aaw (t34 _) ?_
 cases h2:Ant ep with
 |false=>
  have h2':=h2
  unfold Ant at h2'
  rw[h2']
  simp(disch:=first|assumption|omega)only[P4,seval]
  exact bad (by rw[hb,h1,h2];rfl) ks rfl
 |true=>
 have h2':=h2
 unfold Ant at h2'
 rw[h2']
 simp(disch:=first|assumption|omega)only[P4,seval]
 refine Aaw (t34 _) ?_
 cases h3:Ant cy with
 |false=>
  have h3':=h3
  unfold Ant at h3'
  rw[h3']
  simp(disch:=first|assumption|omega)only[P4,seval]
  exact bad (by rw[hb,h1,h2,h3];rfl) ks rfl
 |true=>
 have h3':=h3
 unfold Ant at h3'
 rw[h3']
 have m0:=Bi7 v C.s
 have ml:=A25 v C.s
 have gcs:=ks.at_ gc
 have tG:=fun K=>t29 (H:=K) hw
 obtain⟨e1,e2,e3,e4,e5⟩:=hv.e
 rw[e1]at m0
 simp(disch:=first|assumption|omega)only[P4,seval,Aaz,Aaj,gc,m0,m5,ml,len,Abc]
 refine Aag (tG _) ?_
 rintro _ V ⟨rfl,kV,ag⟩
 have fr:=A9w wh ep cy v.ls v.lp v.lr (.iface t mv) s (H.n+1) ⟨_,_,rfl⟩ hv.l.s.1 hv.l.p.1 hv.l.r.1
 have gV:=(ks.trans kV).at_ gc
 have lV:=Aaa.Bp9 gV
 have gsV:=kV.at_ gs
 obtain⟨v',hv'⟩:∃v':Chv,v'=⟨wh,v.ls,v.lp,v.lr,.iface t mv,ep,cy,H.n+1,false,.pointer none⟩:=⟨_,rfl⟩
 rw[←hv']at fr
 have on:(chl v' s).all Value.oneCell'=true:=by rw[hv'];exact Aok s ⟨_,_,rfl⟩ hv.l.s.1 hv.l.p.1 hv.l.r.1 rfl
 have ln:=Adu v' s
 have e1':Arh L s ep cy=0:=by unfold Arh;rw[hb,h1,h2,h3];rfl
 have e2':Arg L C wh s ep cy=⟨s,ep,cy,sd0 wh,false,none⟩:=by unfold Arg;rw[hb,h1,h2,h3];rfl
 simp(disch:=first|assumption|omega)only[P4,seval,fr,gV,gc,gsV,on,ln]
 have cS:=((ks.trans kV).chg [c,sb]).trans ((Chg.set V lV (.cells true false 79 (chl v' s) 99)).mono (T:=[c,sb]) (by simp)) (by simp)
 have nS:V.n=(V.set c (.cells true false 79 (chl v' s) 99)).n:=(Ab7 ..).symm
 have agS:AgR (V.set c (.cells true false 79 (chl v' s) 99)) (H.n+1) (sd0 wh):=ag.oth (Chg.set V lV _) (by simp only[Acd,List.mem_cons,List.not_mem_nil,or_false];omega) fun b hb o r z C T e=>by
  simp only[List.mem_cons,List.not_mem_nil,or_false]at hb
  subst hb;rw[gV]at e;cases e;decide
 have lB:=hv.w.n
 refine⟨by simp,hq2 _ _ ⟨.int .i64 0,rfl,by rw[e1'],cS,H.n+1,.inr (Nat.le_succ _),by
  rw[e2']
  exact⟨v',⟨by rw[hv'];exact⟨rfl,rfl,rfl,rfl,rfl⟩,Aaa.Bp7 gV _,by rw[hv'];exact hv.l,by rw[hv'];rfl,by rw[hv'];exact eiv ▸ hv.m,agS,Apu wh,rfl,hv.up cS,hv.wc,.inr (Nat.le_succ_of_le lB)⟩⟩⟩⟩
def bgB(L:Ly)(C:Ch)(cy:Int)(x:Inp)(cs:List (Int×Int)):Bool:= !decide (1099511627776<cy)&&(!decide (cy≤C.fl)&&inR L.s.length L.p.length L.r.length x cs)
def bgS(L:Ly)(C:Ch)(cy:Int)(x:Inp)(cs:List (Int×Int)):Ch:=if bgB L C cy x cs then(if cy≤C.sd.cy then C else{C with sd:=Akt C.sd cy x cs,tk:=false,nx:=none})else C
def bgR(L:Ly)(C:Ch)(cy:Int)(x:Inp)(cs:List (Int×Int)):Rd:=if bgB L C cy x cs then Aj8 C.sd cy x cs else R0
def bgE(L:Ly)(C:Ch)(cy:Int)(x:Inp)(cs:List (Int×Int)):Int:=if bgB L C cy x cs then Amc C.sd cy else 2
set_option maxHeartbeats 1000000 in
theorem t13{W:Wd}{H:Aaa}{c sb:Nat}{wh:Int}{L:Ly}{C:Ch}{x:Inp}{z:Value}{cs:List (Int×Int)}(h:ChR W H c sb wh L C)(cy:Int)(hz:SlC H 2 z (cs.map Aft))(hcl:cs.length≤1000)(hk:∀c∈cs,0≤c.1∧c.1<256):
 ∃w K,Aau Tryz.prog 0 13 [ptr c 0,.int .i64 cy,.agg (inl x z).toArray] H w K∧Chg [c,sb] H K∧ChR W K c sb wh L (bgS L C cy x cs)∧∃y,w=.tuple #[.agg (rdl (bgR L C cy x cs) y).toArray,.int .i64 (bgE L C cy x cs)]∧SlC K 2 y ((bgR L C cy x cs).c.map Aft):=by
 refine Aaq Bea Bll ?_
 intro Q hq1 hq2
 obtain⟨v,hv⟩:=h
 have gc:=hv.g
 have lc:=Aaa.Bp9 gc
 have oz:=Sl.one hz.s
 have e1:inl x z=[S64 x.oc,S32 x.nr,S32 x.rv,z]:=rfl
 obtain⟨K0,hK0⟩:∃X,X=(H.alloc (.cells true false 4 [S64 x.oc,S32 x.nr,S32 x.rv,z] 46)).alloc (.cells true false 6 [.int .i64 0,.int .i64 0,.int .u64 0,.int .u32 0,.int .u32 0,.slice none 0 0] 49):=⟨_,rfl⟩
 have k0:Aac H K0:=by rw[hK0];exact((Aac.refl H).alloc _).alloc _
 have n0:K0.n=H.n+2:=by rw[hK0];rfl
 have g0:K0.get H.n=some (.cells true false 4 [S64 x.oc,S32 x.nr,S32 x.rv,z] 46):=by rw[hK0];exact((Aac.refl _).alloc _).at_ (Aaa.Bp6 H _)
 have g1:K0.get (H.n+1)=some (.cells true false 6 [.int .i64 0,.int .i64 0,.int .u64 0,.int .u32 0,.int .u32 0,.slice none 0 0] 49):=by rw[hK0];exact Aaa.Bp6 (H.alloc _) _
 have gc0:=k0.at_ gc
 have m75:=A9j v C.s
 have m76:=Ak8 v C.s
 have ml:=A25 v C.s
 have len:=Adu v C.s
 obtain⟨v1,v2,v3,v4,v5⟩:=hv.e
 rw[v4]at m75
 rw[v2]at m76
 have hB:bgB L C cy x cs=(!decide (1099511627776<cy)&&(!decide (cy≤C.fl)&&inR L.s.length L.p.length L.r.length x cs)):=rfl
 have bad:bgB L C cy x cs=false→∀{fr:List Value} {K:Aaa},Aac H K→K.get (H.n+1)=some (.cells true false 6 [.int .i64 0,.int .i64 0,.int .u64 0,.int .u32 0,.int .u32 0,.slice none 0 0] 49)→fr.getD 4 undef=ptr (H.n+1) 0→fr.getD 5 undef=.int .i64 2→Q .ret fr K:=fun e fr K k0 g1 h1 h2=>by
  have r1:bgS L C cy x cs=C:=by unfold bgS;rw[e];rfl
  have r2:bgR L C cy x cs=R0:=by unfold bgR;rw[e];rfl
  have r3:bgE L C cy x cs=2:=by unfold bgE;rw[e];rfl
  simp only[r1,r2,r3,Anb]at hq2
  exact hq2 _ _ ⟨_,Aea g1 rfl h1 h2,k0.chg _,⟨v,hv.keeps k0⟩,.slice none 0 0,rfl,Sl.nil _ _,.inl rfl⟩
 rw[e1]
 have tR:=t36 (x:=x) (cv:=z) (cs:=cs) hv.l (hz.keeps k0).s (by omega)
 simp only[V4.l,e1]at tR
 by_cases c1:1099511627776<cy
 ·simp(disch:=first|assumption|omega|(simp only[LN]<;>omega)|(simp(disch:=first|assumption|omega|(simp only[LN]<;>omega))only[Aab,Aad];assumption))only[f13,P4,seval,oz,O4,c1,Aig]
  rw[←hK0]
  exact bad (by rw[hB,decide_eq_true c1];rfl) k0 g1 rfl rfl
 by_cases c2:cy≤C.fl
 ·simp(disch:=first|assumption|omega|(simp only[LN]<;>omega)|(simp(disch:=first|assumption|omega|(simp only[LN]<;>omega))only[Aab,Aad];assumption))only[f13,P4,seval,oz,O4,c1,c2,gc,m75,Aig]
  rw[←hK0]
  exact bad (by rw[hB,decide_eq_true c2];simp) k0 g1 rfl rfl
 rw[decide_eq_false c1,decide_eq_false c2]at hB
 simp(disch:=first|assumption|omega|(simp only[LN]<;>omega)|(simp(disch:=first|assumption|omega|(simp only[LN]<;>omega))only[Aab,Aad];assumption))only[f13,P4,seval,oz,O4,c1,c2,gc,m75,ml,len]
 rw[←hK0]
 refine Aag tR ?_
 rintro _ X ⟨rfl,hX⟩
 rw[hX]
 cases hr:inR L.s.length L.p.length L.r.length x cs with
 |false=>
  have l1:=Aaa.Bp9 g1
  simp(disch:=first|assumption|omega|(simp only[LN]<;>omega)|(simp(disch:=first|assumption|omega|(simp only[LN]<;>omega))only[Aab,Aad];assumption))only[P4,seval,g1,Aig]
  exact bad (by rw[hB,hr];rfl) (k0.set (by omega) l1 _) (Aaa.Bp7 g1 _) rfl rfl
 |true=>
 rw[hr]at hB
 have hB1:bgB L C cy x cs=true:=hB
 have tB:=u37 (cy:=cy) (x:=x) hv.sd k0 (hz.keeps k0) hcl
 simp only[e1]at tB
 have gb:=fun(K:Aaa) (k:Chg [sb] K0 K)=>k.at_ gc0 (by have:=hv.ne;simpa using this)
 simp(disch:=first|assumption|omega|(simp only[LN]<;>omega)|(simp(disch:=first|assumption|omega|(simp only[LN]<;>omega))only[Aab,Aad];assumption))only[P4,seval,gc0,m76,g0,O4]
 refine Aag tB ?_
 rintro _ K ⟨cK,aK,y,rfl,hy⟩
 have gK:=gb K cK
 have l1:=Aaa.Bp9 g1
 have g1K:=cK.at_ g1 (by have:=hv.sd;obtain⟨_,_,_,g,_⟩:=this;have:=Aaa.Bp9 g;simp;omega)
 have l1K:=Aaa.Bp9 g1K
 have lK:=Aaa.Bp9 gK
 have nK:=cK.n
 have oy:=Sl.one hy.s
 have hne:=hv.ne
 have lsb:sb<H.n:=by obtain⟨_,_,_,g,_⟩:=hv.sd;exact Aaa.Bp9 g
 have o1:∀x∈[H.n+1],H.n≤x∧x<K0.n∧∀o r z C T,K.get x=some (.cells o r z C T)→z≠2:=fun x hx=>by
  simp only[List.mem_cons,List.not_mem_nil,or_false]at hx
  subst hx
  exact⟨by omega,by omega,fun o r z C T e=>by rw[g1K]at e;cases e;decide⟩
 have fin:∀{Z:Aaa},Chg [H.n+1] K Z→∀o,Chg [c,sb] H (Z.alloc o):=fun{Z} c2 o=>by
  have a:=(((k0.chg [sb]).trans cK (by simp)).mono (T:=[c,sb]) (by simp)).trans c2 (by simp)
  exact a.trans (((Aac.refl Z).alloc o).chg []) (by simp)
 by_cases c3:cy≤C.sd.cy
 ·have er:Aj8 C.sd cy x cs=R0:=by unfold Aj8;rw[if_pos c3]
  have ee:Amc C.sd cy=2:=by unfold Amc;rw[if_pos c3]
  have es:Akt C.sd cy x cs=C.sd:=by unfold Akt;rw[if_pos c3]
  rw[er]at hy
  rw[es]at aK
  rw[er,ee,Anb]
  simp(disch:=first|assumption|omega|(simp only[LN]<;>omega)|(simp(disch:=first|assumption|omega|(simp only[LN]<;>omega))only[Aab,Aad];assumption))only[P4,seval,oy,g1K,Ag8]
  have r1:bgS L C cy x cs=C:=by unfold bgS;rw[hB1,if_pos rfl,if_pos c3]
  have r2:bgR L C cy x cs=R0:=by unfold bgR;rw[hB1,if_pos rfl,er]
  have r3:bgE L C cy x cs=2:=by unfold bgE;rw[hB1,if_pos rfl,ee]
  simp only[r1,r2,r3,Anb]at hq2
  have c2:=Chg.set K l1K (.cells true false 6 [.int .i64 0,.int .i64 0,.int .u64 0,.int .u32 0,.int .u32 0,y] 49)
  have aZ:=aK _ _ c2 (by simp;omega) o1
  have kZ:=(Aac.refl (K.set (H.n+1) (.cells true false 6 [.int .i64 0,.int .i64 0,.int .u64 0,.int .u32 0,.int .u32 0,y] 49))).alloc (.cells true false 6 [.int .i64 0,.int .i64 0,.int .u64 0,.int .u32 0,.int .u32 0,y] 49)
  have cF:=fin c2
  have gZ:=kZ.at_ ((Aaa.Bp8 K (by omega) l1K (.cells true false 6 [.int .i64 0,.int .i64 0,.int .u64 0,.int .u32 0,.int .u32 0,y] 49)).trans gK)
  exact hq2 _ _ ⟨_,Aea (p:=H.n+1) (kZ.at_ (Aaa.Bp7 g1K _)) rfl rfl rfl,cF _,⟨v,hv.e,gZ,hv.l,hv.n.oth (cF _) (fun b hb o r z C T e=>(hv.o68 b hb o r z C T e).1),hv.m,aZ.keeps kZ,hv.ok,hv.ch,hv.up (cF _),hv.wc,hv.ws⟩,y,rfl,(SlC.oth hy c2 (fun b hb o r z C T e=>(o1 b hb).2.2 o r z C T e)).keeps kZ⟩
 ·have er:Aj8 C.sd cy x cs=⟨C.sd.ch,cy,x,cs⟩:=by unfold Aj8;rw[if_neg c3]
  have ee:Amc C.sd cy=0:=by unfold Amc;rw[if_neg c3]
  have erd:∀z,rdl ⟨C.sd.ch,cy,x,cs⟩ z=[.int .i64 C.sd.ch,.int .i64 cy,S64 x.oc,S32 x.nr,S32 x.rv,z]:=fun _=>rfl
  have s78:=Aoj v C.s (.pointer none)
  have s77:=At0 {v with nx:=.pointer none} C.s false
  have len2:=Adu {v with nx:=.pointer none} C.s
  rw[er]at hy
  rw[er,ee,erd]
  simp(disch:=first|assumption|omega|(simp only[LN]<;>omega)|(simp(disch:=first|assumption|omega|(simp only[LN]<;>omega))only[Aab,Aad];assumption))only[P4,seval,oy,g1K,gK,O4,s78,s77,len,len2]
  have r1:bgS L C cy x cs={C with sd:=Akt C.sd cy x cs,tk:=false,nx:=none}:=by unfold bgS;rw[hB1,if_pos rfl,if_neg c3]
  have r2:bgR L C cy x cs=⟨C.sd.ch,cy,x,cs⟩:=by unfold bgR;rw[hB1,if_pos rfl,er]
  have r3:bgE L C cy x cs=0:=by unfold bgE;rw[hB1,if_pos rfl,ee]
  simp only[r1,r2,r3,erd]at hq2
  rw[Azg (by omega) lK l1K]
  obtain⟨R2,hR2⟩:∃o:AO,o=.cells true false 6 [.int .i64 C.sd.ch,.int .i64 cy,S64 x.oc,S32 x.nr,S32 x.rv,y] 49:=⟨_,rfl⟩
  rw[←hR2]
  have c2:=Chg.set K l1K R2
  have g1Z:=Aaa.Bp7 g1K R2
  have gcZ:=(Aaa.Bp8 K (show c≠H.n+1 by omega) l1K R2).trans gK
  have lZ:=Aaa.Bp9 gcZ
  have aZ:=aK _ _ c2 (by simp;omega) o1
  obtain⟨A2,hA2⟩:∃o:AO,o=.cells true false 79 (chl {v with nx:=.pointer none,tk:=false} C.s) 99:=⟨_,rfl⟩
  rw[show AO.cells true false 79 (chl _ C.s) 99=A2 from hA2.symm]
  have c4:=Chg.set (K.set (H.n+1) R2) lZ A2
  have aF:=aZ.oth c4 (by simp;omega) fun b hb o r z C T e=>by
   simp only[List.mem_cons,List.not_mem_nil,or_false]at hb
   subst hb;rw[gcZ]at e;cases e;decide
  have kF:=(Aac.refl ((K.set (H.n+1) R2).set c A2)).alloc R2
  have hy4:SlC ((K.set (H.n+1) R2).set c A2) 2 y (cs.map Aft):=(SlC.oth hy c2 (fun b hb o r z C T e=>(o1 b hb).2.2 o r z C T e)).oth c4 fun b hb o r z C T e=>by
   simp only[List.mem_cons,List.not_mem_nil,or_false]at hb
   subst hb;rw[gcZ]at e;cases e;decide
  have cF:Chg [c,sb] H (((K.set (H.n+1) R2).set c A2).alloc R2):=(((((k0.chg [sb]).trans cK (by simp)).mono (T:=[c,sb]) (by simp)).trans c2 (by simp)).trans (c4.mono (T:=[c,sb]) (by simp)) (by simp)).trans (kF.chg []) (by simp)
  refine hq2 _ _ ⟨_,Aea (p:=H.n+1) (kF.at_ ((Aaa.Bp8 _ (by omega) lZ A2).trans (g1Z.trans (by rw[hR2])))) rfl rfl rfl,cF,⟨{v with nx:=.pointer none,tk:=false},⟨v1,v2,v3,v4,rfl⟩,kF.at_ ((Aaa.Bp7 gcZ A2).trans (by rw[hA2])),hv.l,rfl,hv.m,aF.keeps kF,Atx hv.ok hcl hk,?_,hv.up cF,hv.wc,hv.ws⟩,y,rfl,hy4.keeps kF⟩
  show(Akt C.sd cy x cs).ch=wh
  unfold Akt
  rw[if_neg c3]
  exact hv.ch
end Go.AM.Fd

set_option maxRecDepth 8000
namespace Go.AM.Fd
open Nat (reduceAdd reduceEqDiff reduceLT reduceLeDiff reduceMul reduceSub)
open Go.Proofs Go.AM.F
theorem Af6:Bph=stl Abs:=Ado
def hhS(L:Ly)(C:Ch)(r:Rd):Ch:=if inR L.s.length L.p.length L.r.length r.x r.c then{C with sd:=Aev C.sd r}else C
def hhE(L:Ly)(C:Ch)(r:Rd):Int:=if inR L.s.length L.p.length L.r.length r.x r.c then Ae7 C.sd r else 2
theorem A29(s:Sd)(r:Rd):(Aev s r).ch=s.ch:=by
 unfold Aev
 repeat' split
 all_goals rfl
set_option maxHeartbeats 1000000 in
theorem t14{W:Wd}{H:Aaa}{c sb:Nat}{wh:Int}{L:Ly}{C:Ch}{r:Rd}{z:Value}(h:ChR W H c sb wh L C)(hr:ROk r)(hz:SlC H 2 z (r.c.map Aft)):
 ∃w K,Aau Tryz.prog 0 14 [ptr c 0,.iface 49 (.agg (rdl r z).toArray)] H w K∧w=.int .i64 (hhE L C r)∧Chg [c,sb] H K∧ChR W K c sb wh L (hhS L C r):=by
 refine Aaq Az9 Beb ?_
 intro Q hq1 hq2
 obtain⟨v,hv⟩:=h
 have gc:=hv.g
 have lc:=Aaa.Bp9 gc
 have oz:=Sl.one hz.s
 have er:rdl r z=[.int .i64 r.ch,.int .i64 r.cy,S64 r.x.oc,S32 r.x.nr,S32 r.x.rv,z]:=rfl
 have m76:=Ak8 v C.s
 have ml:=A25 v C.s
 have len:=Adu v C.s
 obtain⟨v1,v2,v3,v4,v5⟩:=hv.e
 rw[v2]at m76
 obtain⟨K0,hK0⟩:∃X,X=H.alloc (.cells true false 6 (rdl r z) 49):=⟨_,rfl⟩
 have k0:Aac H K0:=by rw[hK0];exact(Aac.refl H).alloc _
 have g0:K0.get H.n=some (.cells true false 6 (rdl r z) 49):=by rw[hK0];exact Aaa.Bp6 H _
 have gc0:=k0.at_ gc
 have tR:=t36 (x:=r.x) (cv:=z) (cs:=r.c) hv.l (hz.keeps k0).s (by have:=hr.1;omega)
 have tH:=t38 (hv.sd.keeps k0) hv.ok hr (hz.keeps k0)
 have ei:inl r.x z=[S64 r.x.oc,S32 r.x.nr,S32 r.x.rv,z]:=rfl
 simp only[V4.l,ei]at tR
 rw[er]at hK0 tH g0 ⊢
 simp(disch:=first|assumption|omega|(simp only[LN]<;>omega)|(simp(disch:=first|assumption|omega|(simp only[LN]<;>omega))only[Aab,Aad];assumption))only[f14,P4,seval,oz,O4,gc,ml,len]
 rw[←hK0]
 refine Aag tR ?_
 rintro _ X ⟨rfl,hX⟩
 rw[hX]
 cases hB:inR L.s.length L.p.length L.r.length r.x r.c with
 |false=>
  have r1:hhS L C r=C:=by unfold hhS;rw[hB];rfl
  have r2:hhE L C r=2:=by unfold hhE;rw[hB];rfl
  simp(disch:=first|assumption|omega)only[P4,seval]
  exact hq2 _ _ ⟨.int .i64 2,rfl,by rw[r2],k0.chg _,by rw[r1];exact⟨v,hv.keeps k0⟩⟩
 |true=>
  have r1:hhS L C r={C with sd:=Aev C.sd r}:=by unfold hhS;rw[hB];rfl
  have r2:hhE L C r=Ae7 C.sd r:=by unfold hhE;rw[hB];rfl
  simp(disch:=first|assumption|omega)only[P4,seval,gc0,m76]
  refine Aag tH ?_
  rintro _ K ⟨rfl,cK,aK⟩
  simp(disch:=first|assumption|omega)only[P4,seval]
  have cF:=((k0.chg [sb]).trans cK (by simp)).mono (T:=[c,sb]) (by simp)
  have hne:=hv.ne
  exact hq2 _ _ ⟨.int .i64 (Ae7 C.sd r),rfl,by rw[r2],cF,by
   rw[r1]
   exact⟨v,⟨v1,v2,v3,v4,v5⟩,cK.at_ gc0 (by simpa using hne),hv.l,hv.n.oth cF (fun b hb o r z C T e=>(hv.o68 b hb o r z C T e).1),hv.m,aK,Aty hv.ok hr,(A29 _ _).trans hv.ch,hv.up cF,hv.wc,hv.ws⟩⟩
theorem u14{W:Wd}{H:Aaa}{c sb:Nat}{wh:Int}{L:Ly}{C:Ch}{x:Value}(h:ChR W H c sb wh L C)(hx:x=.nilIface∨∃y,x=.iface 9 (.string y)):
 ∃w K,Aau Tryz.prog 0 14 [ptr c 0,x] H w K∧w=.int .i64 2∧Aac H K:=by
 refine Aaq Az9 Beb ?_
 intro Q hq1 hq2
 obtain⟨v,hv⟩:=h
 have gc:=hv.g
 have lc:=Aaa.Bp9 gc
 have m76:=Ak8 v C.s
 obtain⟨v1,v2,v3,v4,v5⟩:=hv.e
 rw[v2]at m76
 have k0:=(Aac.refl H).alloc (.cells true false 6 [.int .i64 0,.int .i64 0,.int .u64 0,.int .u32 0,.int .u32 0,.slice none 0 0] 49)
 have gc0:=k0.at_ gc
 have tH:=u38 (hv.sd.keeps k0) hx
 have an:∀z K,Aam (.assert 49 z true .nilIface) K=some (.tuple #[z,.bool false],K):=fun _ _=>rfl
 rcases hx with rfl|⟨y,rfl⟩
 all_goals
  simp(disch:=first|assumption|omega|(simp only[LN]<;>omega)|(simp(disch:=first|assumption|omega|(simp only[LN]<;>omega))only[Aab,Aad];assumption))only[f14,P4,seval,an,gc0,m76]
  refine Aag tH ?_
  rintro _ K ⟨rfl,kK⟩
  simp(disch:=first|assumption|omega)only[P4,seval]
  exact hq2 _ _ ⟨.int .i64 2,rfl,rfl,k0.trans kK⟩
def tkE(C:Ch):Int:=if C.nx.isSome then 0 else 4
def tkS(C:Ch):Ch:=match C.nx with
 |none=>C
 |some t=>{C with s:=t,nx:=none,tk:=true}
theorem t17{W:Wd}{H:Aaa}{c sb:Nat}{wh:Int}{L:Ly}{C:Ch}(h:ChR W H c sb wh L C):
 ∃w K,Aau Tryz.prog 0 17 [ptr c 0] H w K∧w=.int .i64 (tkE C)∧Chg [c,sb] H K∧ChR W K c sb wh L (tkS C):=by
 refine Aaq Bed Bln ?_
 intro Q hq1 hq2
 obtain⟨v,hv⟩:=h
 have gc:=hv.g
 have lc:=Aaa.Bp9 gc
 have m78:=A9l v C.s
 have hn:=hv.n
 cases hx:C.nx with
 |none=>
  rw[hx]at hn
  rw[show v.nx=_ from hn]at m78
  have r1:tkS C=C:=by unfold tkS;rw[hx]
  have r2:tkE C=4:=by unfold tkE;rw[hx];rfl
  simp(disch:=first|assumption|omega)only[f17,P4,seval,gc,m78]
  exact hq2 _ _ ⟨.int .i64 4,rfl,by rw[r2],Chg.refl _ _,by rw[r1];exact⟨v,hv⟩⟩
 |some t=>
  rw[hx]at hn
  obtain⟨b,ow,rm,e,gb⟩:=hn
  rw[e]at m78
  have r1:tkS C={C with s:=t,nx:=none,tk:=true}:=by unfold tkS;rw[hx]
  have r2:tkE C=0:=by unfold tkE;rw[hx];rfl
  have hcb:c≠b:=fun e=>by subst e;rw[gc]at gb;cases gb
  have len:=Adu v C.s
  have len2:=Adu v t
  have len3:=Adu {v with nx:=.pointer none} t
  have sS:=A9t v C.s t
  have s78:=Aoj v t (.pointer none)
  have s77:=At0 {v with nx:=.pointer none} t true
  simp(disch:=first|assumption|omega)only[f17,P4,seval,gc,m78,gb,Abc,Aaz,Aaj,len,len2,len3,sS,s78,s77]
  have cS:=Chg.set H lc (.cells true false 79 (chl {v with nx:=.pointer none,tk:=true} t) 99)
  have cF:=cS.mono (T:=[c,sb]) (by simp)
  have hne:=hv.ne
  have o1:∀b∈[c],∀o r z C T,H.get b=some (.cells o r z C T)→z≠2∧T≠49:=fun b hb o r z D T e=>(hv.o68 b (by simp at hb ⊢;exact .inl hb) o r z D T e).2
  exact hq2 _ _ ⟨.int .i64 0,rfl,by rw[r2],cF,by
   rw[r1]
   exact⟨{v with nx:=.pointer none,tk:=true},⟨hv.e.1,hv.e.2.1,hv.e.2.2.1,hv.e.2.2.2.1,rfl⟩,Aaa.Bp7 gc _,hv.l,rfl,hv.m,hv.sd.oth cS (by simp;omega) o1,hv.ok,hv.ch,hv.up cF,hv.wc,hv.ws⟩⟩
theorem t23{W:Wd}{H:Aaa}{c sb:Nat}{wh:Int}{L:Ly}{C:Ch}(h:ChR W H c sb wh L C):
 ∃w K,Aau Tryz.prog 0 23 [ptr c 0] H w K∧∃z,w=.tuple #[.agg (inl (Ab1 C.sd) z).toArray,.bool (Aj9 C.sd)]∧Amq H K z (Aka C.sd):=by
 refine Aaq Bef Blp ?_
 intro Q hq1 hq2
 obtain⟨v,hv⟩:=h
 have gc:=hv.g
 have lc:=Aaa.Bp9 gc
 have m76:=Ak8 v C.s
 rw[hv.e.2.1]at m76
 have kA:=(Aac.refl H).alloc (.cells true false 4 [.int .u64 0,.int .u32 0,.int .u32 0,.slice none 0 0] 46)
 have gA:=Aaa.Bp6 H (.cells true false 4 [.int .u64 0,.int .u32 0,.int .u32 0,.slice none 0 0] 46)
 have tM:=t39 (hv.sd.keeps kA) hv.ok
 have em:∀z,inl (Ab1 C.sd) z=[S64 (Ab1 C.sd).oc,S32 (Ab1 C.sd).nr,S32 (Ab1 C.sd).rv,z]:=fun _=>rfl
 simp only[em]at tM hq2
 simp(disch:=first|assumption|omega)only[f23,P4,seval,gc,m76]
 refine Aag tM ?_
 rintro _ V ⟨z,rfl,nc⟩
 have gV:=nc.k.at_ gA
 have lV:=Aaa.Bp9 gV
 have oz:=Sl.one nc.c.s
 simp(disch:=first|assumption|omega|(simp only[LN]<;>omega)|(simp(disch:=first|assumption|omega|(simp only[LN]<;>omega))only[Aab,Aad];assumption))only[P4,seval,gV,oz,O4]
 have fz:∀b,blk z=some b→H.n+1≤b:=nc.f
 have cV:=Chg.set V lV (.cells true false 4 [S64 (Ab1 C.sd).oc,S32 (Ab1 C.sd).nr,S32 (Ab1 C.sd).rv,z] 46)
 exact hq2 _ _ ⟨_,Aea (p:=H.n) (Aaa.Bp7 gV _) rfl rfl rfl,z,rfl,(kA.trans nc.k).Bqa cV (by simp),nc.c.chg cV (fun b h1 h2=>by have:=fz b h1;simp at h2;omega),fun b h1=>by have:=fz b h1;omega⟩
theorem t18{W:Wd}{H:Aaa}{c sb:Nat}{wh:Int}{L:Ly}{C:Ch}(h:ChR W H c sb wh L C):
 ∃w K,Aau Tryz.prog 0 18 [ptr c 0] H w K∧w=.agg (stl C.s).toArray∧K=H:=by
 refine A0g ?_
 refine Aaq Bee Blo ?_
 intro Q hq1 hq2
 obtain⟨v,hv⟩:=h
 have gc:=hv.g
 have lc:=Aaa.Bp9 gc
 have m6:=A9o v C.s
 have len:=Adu v C.s
 simp(disch:=first|assumption|omega)only[f18,P4,seval,gc,m6,len,Abc,Aaz,Aaj,Af6,Abh]
 exact hq2 _ _ ⟨_,by show Acx [.cn 68 1] _ _=_;rw[Aqx];show Adm 68 (ptr H.n 0) _=_;rw[Acq,Abj,Aaa.Bp6,Abc];rfl,rfl,(Aac.refl H).alloc _⟩
def thB(C:Ch):Bool:=Aj9 C.sd&& !C.tk
def thS(L:Ly)(C:Ch):Sta:=Ac5 L C.s (Ab1 C.sd) (Aka C.sd)
def frl(a b:Int)(o:List Value):List Value:=.int .i64 a:: .int .i64 b::o
def thW(L:Ly)(C:Ch):Value:=if thB C then .tuple #[.agg (stl (thS L C)).toArray,.agg (frl C.sd.cy C.ep (otl L (Ab1 C.sd) (thS L C))).toArray,.int .i64 0]else .tuple #[.agg (stl Abs).toArray,.agg (frl 0 0 [.int .u64 0,.int .u32 0]).toArray,.int .i64 4]
def thC(L:Ly)(C:Ch):Ch:=if thB C then{C with nx:=some (thS L C)}else C
theorem Amd{K:Aaa}{fr:List Value}{n m i i2 j p q T T2:Nat}{o r o2 r2:Bool}{c d:List Value}{w:Value}(g:K.get p=some (.cells o r n c T))(hl:c.length=n)(g2:K.get q=some (.cells o2 r2 m d T2))(hl2:d.length=m)(h1:fr.getD i undef=ptr p 0)(h3:fr.getD i2 undef=ptr q 0)(h2:fr.getD j undef=w):
 Acx [.cn n i,.cn m i2,.t j] fr K=some (.tuple #[.agg c.toArray,.agg d.toArray,w]):=by
 simp only[Acx,Agl,RX.get,h1,h2,h3]
 rw[Acq,Abj,g,Abx hl,Acq,Abj,g2,Abx hl2]
 rfl
theorem Apw:Aa4 [.int .i64 0,.int .i64 0,.int .u64 0,.int .u32 0] []=some [.int .i64 0,.int .i64 0,.int .u64 0,.int .u32 0]:=rfl
theorem Azh(a b:Int)(f g:Nat→Bool):Aa4 [.int .i64 0,.int .i64 0,.int .u64 0,.int .u32 0] [(0,1,.int .i64 a),(1,1,.int .i64 b),(2,2,.agg #[S64 f,S32 g])]=some [.int .i64 a,.int .i64 b,S64 f,S32 g]:=rfl
theorem Aol{s:Sd}(h:SOk s):(Aka s).length≤1000∧∀c∈Aka s,0≤c.1∧c.1<256:=by
 unfold Aka
 split
 ·rename_i a c e1 e2 e3
  unfold Ana
  split
  ·exact h.own a e1
  ·simp
 ·simp
set_option maxHeartbeats 2000000 in
theorem t15{W:Wd}{H:Aaa}{c sb:Nat}{wh:Int}{L:Ly}{C:Ch}(h:ChR W H c sb wh L C)(he:Aar L=0):
 ∃w K,Aau Tryz.prog 0 15 [ptr c 0] H w K∧w=thW L C∧Chg [c,sb] H K∧ChR W K c sb wh L (thC L C):=by
 refine Aaq Bec Blm ?_
 intro Q hq1 hq2
 obtain⟨v,hv⟩:=h
 have gc:=hv.g
 have lc:=Aaa.Bp9 gc
 have m76:=Ak8 v C.s
 have m77:=A9k v C.s
 have m74:=Azd v C.s
 have m5:=A9i v C.s
 have ms:=A9o v C.s
 have len:=Adu v C.s
 obtain⟨v1,v2,v3,v4,v5⟩:=hv.e
 rw[v2]at m76
 rw[v5]at m77
 rw[v3]at m74
 obtain⟨K0,hK0⟩:∃X,X=(H.alloc (.cells true false 68 (stl Abs) 43)).alloc (.cells true false 4 [.int .i64 0,.int .i64 0,.int .u64 0,.int .u32 0] 56):=⟨_,rfl⟩
 have k0:Aac H K0:=by rw[hK0];exact((Aac.refl H).alloc _).alloc _
 have n0:K0.n=H.n+2:=by rw[hK0];rfl
 have g0:K0.get H.n=some (.cells true false 68 (stl Abs) 43):=by rw[hK0];exact((Aac.refl _).alloc _).at_ (Aaa.Bp6 H _)
 have g1:K0.get (H.n+1)=some (.cells true false 4 [.int .i64 0,.int .i64 0,.int .u64 0,.int .u32 0] 56):=by rw[hK0];exact Aaa.Bp6 (H.alloc _) _
 have tM:=t39 (hv.sd.keeps k0) hv.ok
 have em:∀z,inl (Ab1 C.sd) z=[S64 (Ab1 C.sd).oc,S32 (Ab1 C.sd).nr,S32 (Ab1 C.sd).rv,z]:=fun _=>rfl
 simp only[em]at tM
 simp(disch:=first|assumption|omega|(simp only[LN]<;>omega)|(simp(disch:=first|assumption|omega|(simp only[LN]<;>omega))only[Aab,Aad];assumption))only[f15,P4,seval,gc,m76,Af6,Aaz]
 rw[←hK0]
 refine Aag tM ?_
 rintro _ K ⟨z,rfl,nc⟩
 have oz:=Sl.one nc.c.s
 have g0K:=nc.k.at_ g0
 have g1K:=nc.k.at_ g1
 have gcK:=(k0.trans nc.k).at_ gc
 have nK:=nc.k.n
 have l0K:=Aaa.Bp9 g0K
 have l1K:=Aaa.Bp9 g1K
 have lcK:=Aaa.Bp9 gcK
 have kI:=(k0.trans nc.k).alloc (.cells true false 4 [S64 (Ab1 C.sd).oc,S32 (Ab1 C.sd).nr,S32 (Ab1 C.sd).rv,z] 46)
 have hno:thB C=false→thW L C=.tuple #[.agg (stl Abs).toArray,.agg (frl 0 0 [.int .u64 0,.int .u32 0]).toArray,.int .i64 4]∧thC L C=C:=fun e=>by unfold thW thC;rw[e];exact⟨rfl,rfl⟩
 have no:thB C=false→∀{fr:List Value} {Z:Aaa},Aac H Z→Z.get H.n=some (.cells true false 68 (stl Abs) 43)→Z.get (H.n+1)=some (.cells true false 4 [.int .i64 0,.int .i64 0,.int .u64 0,.int .u32 0] 56)→fr.getD 1 undef=ptr H.n 0→fr.getD 2 undef=ptr (H.n+1) 0→fr.getD 3 undef=.int .i64 4→Q .ret fr Z:=fun e fr Z kZ a b h1 h2 h3=>by
  rw[(hno e).1,(hno e).2]at hq2
  exact hq2 _ _ ⟨_,Amd a (Aaj _) b rfl h1 h2 h3,rfl,kZ.chg _,⟨v,hv.keeps kZ⟩⟩
 have hB:thB C=(Aj9 C.sd&& !C.tk):=rfl
 have nop:thB C=false→∀{fr:List Value} (o:AO),fr.getD 1 undef=ptr H.n 0→fr.getD 2 undef=ptr (H.n+1) 0→fr.getD 3 undef=.int .i64 4→Q .ret fr (((K.set H.n (.cells true false 68 (stl Abs) 43)).set (H.n+1) (.cells true false 4 [.int .i64 0,.int .i64 0,.int .u64 0,.int .u32 0] 56)).alloc o):=fun e fr o h1 h2 h3=>by
  have l1':H.n+1<(K.set H.n (.cells true false 68 (stl Abs) 43)).n:=by rw[Ab7];exact l1K
  have g1':=(Aaa.Bp8 K (show H.n+1≠H.n by omega) l0K (.cells true false 68 (stl Abs) 43)).trans g1K
  have kZ:=((((k0.trans nc.k).set (Nat.le_refl _) l0K (.cells true false 68 (stl Abs) 43)).set (by omega) l1' (.cells true false 4 [.int .i64 0,.int .i64 0,.int .u64 0,.int .u32 0] 56))).alloc o
  have ka:=(Aac.refl ((K.set H.n (.cells true false 68 (stl Abs) 43)).set (H.n+1) (.cells true false 4 [.int .i64 0,.int .i64 0,.int .u64 0,.int .u32 0] 56))).alloc o
  exact no e kZ (ka.at_ ((Aaa.Bp8 _ (by omega) l1' _).trans (Aaa.Bp7 g0K _))) (ka.at_ (Aaa.Bp7 g1' _)) h1 h2 h3
 cases hb:Aj9 C.sd with
 |false=>
  simp(disch:=first|assumption|omega|(simp only[LN]<;>omega)|(simp(disch:=first|assumption|omega|(simp only[LN]<;>omega))only[Aab,Aad];assumption))only[P4,seval,oz,O4,Af6,Aaz,Aaj,Apw,Asr,g0K,g1K,Abh]
  exact nop (by rw[hB,hb];rfl) _ rfl rfl rfl
 |true=>
 cases ht:C.tk with
 |true=>
  rw[ht]at m77
  simp(disch:=first|assumption|omega|(simp only[LN]<;>omega)|(simp(disch:=first|assumption|omega|(simp only[LN]<;>omega))only[Aab,Aad];assumption))only[P4,seval,oz,O4,Af6,Aaz,Aaj,Apw,Asr,g0K,g1K,Abh,gcK,m77]
  exact nop (by rw[hB,hb,ht];rfl) _ rfl rfl rfl
 |false=>
 rw[ht]at m77
 have hBt:thB C=true:=by rw[hB,hb,ht];rfl
 have e1:thW L C=.tuple #[.agg (stl (thS L C)).toArray,.agg (frl C.sd.cy C.ep (otl L (Ab1 C.sd) (thS L C))).toArray,.int .i64 0]:=by unfold thW;rw[hBt];rfl
 have e2:thC L C={C with nx:=some (thS L C)}:=by unfold thC;rw[hBt];rfl
 rw[e1,e2]at hq1 hq2
 obtain⟨t,mv,g,eiv,hme,hrun⟩:=A9v hv.ms he
 rw[eiv]at m5
 have mo:=Aol hv.ok
 have tS:=hrun _ kI C.s (Ab1 C.sd) z (Aka C.sd) (nc.c.keeps ((Aac.refl K).alloc _)) (by omega) mo.2
 simp only[em]at tS
 have nk:∀Z,Aam (.nilck (.iface t mv)) Z=some (.iface t mv,Z):=fun _=>rfl
 simp(disch:=first|assumption|omega|(simp only[LN]<;>omega)|(simp(disch:=first|assumption|omega|(simp only[LN]<;>omega))only[Aab,Aad];assumption))only[P4,seval,oz,O4,gcK,m77,m5,ms,len,Azc (h:=hme),nk]
 refine Aag tS ?_
 rintro _ X ⟨rfl,hX⟩
 rw[hX]
 obtain⟨T,hT⟩:∃T,T=thS L C:=⟨_,rfl⟩
 rw[show Ac5 L C.s (Ab1 C.sd) (Aka C.sd)=T from hT.symm]
 rw[←hT]at hq1 hq2
 have eo:otl L (Ab1 C.sd) T=[S64 fun i=>decide (i<L.r.length)&&Aes L (Ab1 C.sd) T i,S32 T.po]:=rfl
 have ef:∀a b,frl a b (otl L (Ab1 C.sd) T)=[.int .i64 a,.int .i64 b,S64 fun i=>decide (i<L.r.length)&&Aes L (Ab1 C.sd) T i,S32 T.po]:=fun _ _=>rfl
 rw[ef]at hq1 hq2
 rw[eo]
 obtain⟨v',hv'⟩:∃v':Chv,v'={v with nx:=ptr (K.n+1) 0}:=⟨_,rfl⟩
 have s78:(chl v C.s).set 78 (ptr (K.n+1) 0)=chl v' C.s:=by rw[hv'];exact Aoj v C.s (ptr (K.n+1) 0)
 have p76:(chl v' C.s)[76]? =some (ptr sb 0):=by rw[Ak8,hv'];exact congrArg (fun n=>some (ptr n 0)) v2
 have p74:(chl v' C.s)[74]? =some (.int .i64 C.ep):=by rw[Azd,hv'];exact congrArg (fun n=>some (Value.int .i64 n)) v3
 have hne:=hv.ne
 have lsb:sb<H.n:=by obtain⟨_,_,_,g,_⟩:=hv.sd;exact Aaa.Bp9 g
 have cS:=Chg.set K lcK (.cells true false 79 (chl v' C.s) 99)
 have o1:OtR K [c]:=fun b hb o r z D T e=>by
  simp only[List.mem_cons,List.not_mem_nil,or_false]at hb
  subst hb;rw[gcK]at e;cases e;decide
 obtain⟨K4,hK4⟩:∃X,X=(((K.set c (.cells true false 79 (chl v' C.s) 99)).alloc (.cells true false 4 [S64 (Ab1 C.sd).oc,S32 (Ab1 C.sd).nr,S32 (Ab1 C.sd).rv,z] 46)).alloc (.cells true false 68 (stl T) 43)).alloc (.cells true false 2 [S64 fun i=>decide (i<L.r.length)&&Aes L (Ab1 C.sd) T i,S32 T.po] 54):=⟨_,rfl⟩
 have k4:Aac (K.set c (.cells true false 79 (chl v' C.s) 99)) K4:=by rw[hK4];exact(((Aac.refl _).alloc _).alloc _).alloc _
 have a4:=(((hv.sd.keeps (k0.trans nc.k)).oth cS (by simpa using fun e=>hne e.symm) o1)).keeps k4
 have gc4:=k4.at_ (Aaa.Bp7 gcK (.cells true false 79 (chl v' C.s) 99))
 have g04:=k4.at_ ((Aaa.Bp8 K (show H.n≠c by omega) lcK (.cells true false 79 (chl v' C.s) 99)).trans g0K)
 have g14:=k4.at_ ((Aaa.Bp8 K (show H.n+1≠c by omega) lcK (.cells true false 79 (chl v' C.s) 99)).trans g1K)
 have gs4:K4.get (K.n+1)=some (.cells true false 68 (stl T) 43):=by
  rw[hK4]
  exact((Aac.refl _).alloc _).at_ (Aaa.Bp6 ((K.set c _).alloc _) _)
 have go4:K4.get (K.n+1+1)=some (.cells true false 2 [S64 fun i=>decide (i<L.r.length)&&Aes L (Ab1 C.sd) T i,S32 T.po] 54):=by
  rw[hK4]
  exact Aaa.Bp6 (((K.set c _).alloc _).alloc _) _
 have l04:=Aaa.Bp9 g04
 have l14:=Aaa.Bp9 g14
 simp(disch:=first|assumption|omega|(simp only[LN]<;>omega)|(simp(disch:=first|assumption|omega|(simp only[LN]<;>omega))only[Aab,Aad];assumption))only[P4,seval,Af6,Aaz,Aaj,Abc,Abh,gcK,O4,s78,len,p76]
 rw[←hK4]
 refine Aaw (t40 a4) ?_
 simp(disch:=first|assumption|omega|(simp only[LN]<;>omega)|(simp(disch:=first|assumption|omega|(simp only[LN]<;>omega))only[Aab,Aad];assumption))only[P4,seval,gc4,p74,go4,gs4,Azh,g04,g14,Abh,Aaz,Aaj,O4]
 obtain⟨F,hF⟩:∃F:AO,F=.cells true false 4 [.int .i64 C.sd.cy,.int .i64 C.ep,S64 fun i=>decide (i<L.r.length)&&Aes L (Ab1 C.sd) T i,S32 T.po] 56:=⟨_,rfl⟩
 rw[←hF]
 have c1:=(Chg.set K4 l04 (.cells true false 68 (stl T) 43)).mono (T:=[H.n,H.n+1]) (by simp)
 have l14':H.n+1<(K4.set H.n (.cells true false 68 (stl T) 43)).n:=by rw[Ab7];exact l14
 have c2:=c1.trans ((Chg.set _ l14' F).mono (T:=[H.n,H.n+1]) (by simp)) (by simp)
 have o2:OtR K4 [H.n,H.n+1]:=fun b hb o r z D T' e=>by
  simp only[List.mem_cons,List.not_mem_nil,or_false]at hb
  rcases hb with rfl|rfl
  ·rw[g04]at e;cases e;decide
  ·rw[g14]at e;cases e;decide
 have n4:=k4.n
 rw[Ab7]at n4
 have cF:=((((((k0.trans nc.k).chg [c,sb]).trans (cS.mono (T:=[c,sb]) (by simp)) (by simp)).trans (k4.chg []) (by simp))).trans c2 (fun x hx=>by simp only[List.mem_cons,List.not_mem_nil,or_false]at hx;right;omega))
 have gS:=(Aaa.Bp8 _ (show H.n≠H.n+1 by omega) l14' F).trans (Aaa.Bp7 g04 (.cells true false 68 (stl T) 43))
 have gF:((K4.set H.n (.cells true false 68 (stl T) 43)).set (H.n+1) F).get (H.n+1)=some F:=Aaa.Bp7 ((Aaa.Bp8 K4 (show H.n+1≠H.n by omega) l04 _).trans g14) F
 have gg:∀b o,b≠H.n→b≠H.n+1→K4.get b=some o→((K4.set H.n (.cells true false 68 (stl T) 43)).set (H.n+1) F).get b=some o:=fun b o h1 h2 g=>(Aaa.Bp8 _ h2 l14' F).trans ((Aaa.Bp8 K4 h1 l04 _).trans g)
 refine⟨by simp,Aaa.Bp9 go4,by simp,hq2 _ _ ⟨_,Amd gS (Aaj _) (gF.trans (by rw[hF])) rfl rfl rfl rfl,rfl,cF,⟨v',⟨by rw[hv'];exact v1,by rw[hv'];exact v2,by rw[hv'];exact v3,by rw[hv'];exact v4,by rw[hv'];exact v5⟩,gg _ _ (by omega) (by omega) gc4,by rw[hv'];exact hv.l,by rw[hv'];exact⟨K.n+1,true,false,rfl,gg _ _ (by omega) (by omega) gs4⟩,by rw[hv'];exact hv.m,a4.oth c2 (by simp;omega) o2,hv.ok,hv.ch,hv.up cF,hv.wc,hv.ws⟩⟩⟩
end Go.AM.Fd

set_option maxRecDepth 8000
namespace Go.AM.Fd
open Nat (reduceAdd reduceEqDiff reduceLT reduceLeDiff reduceMul reduceSub)
open Go.Proofs Go.AM.F
theorem Ajt:Bpj=stl Abs:=Ado
def x8(a b:Nat):Nat:=(BitVec.ofInt 8 (a:Int) ^^^ BitVec.ofInt 8 (b:Int)).toNat
theorem Azi(a b:Nat):Ab9 .xor (.int .u8 (a:Int)) (.int .u8 (b:Int))=some (.int .u8 ((x8 a b:Nat):Int)):=by
 rw[Aqs]
 have h:(x8 a b)<256:=by unfold x8;exact BitVec.isLt _
 show some (Value.int _ (IntKind.u8.wrap ((x8 a b:Nat):Int)))=_
 rw[Al6]
 congr 2
 omega
def At1(s x:Sta):Sta:=⟨fun i=>s.lo i ^^ x.lo i,fun i=>s.us i ^^ x.us i,fun i=>s.ca i ^^ x.ca i,fun i=>x8 (s.ti i) (x.ti i),fun i=>s.po i ^^ x.po i⟩
def Aku(s x:Sta)(n:Nat):Sta:={At1 s x with ti:=fun i=>if i<n then x8 (s.ti i) (x.ti i)else s.ti i}
theorem Azj(s x:Sta):Aku s x 0={At1 s x with ti:=s.ti}:=by unfold Aku;simp
theorem Azk(s x:Sta)(n:Nat):{Aku s x n with ti:=upd (Aku s x n).ti n (x8 ((Aku s x n).ti n) (x.ti n))}=Aku s x (n+1):=by
 unfold Aku
 simp only[Sta.mk.injEq,true_and,and_true]
 funext i
 unfold upd
 by_cases h:i=n
 ·subst h;simp
 ·have e:(i<n+1)=(i<n):=by simp;omega
  simp only[h,if_false,e]
theorem Azl(s x:Sta):stl (Aku s x 64)=stl (At1 s x):=Adn (fun _ _=>rfl) (fun _ _=>rfl) (fun _ _=>rfl) (fun i h=>by simp[Aku,At1,h]) (fun _ _=>rfl)
theorem A3a(v:Chv){s t:Sta}(h:stl s=stl t):chl v s=chl v t:=by unfold chl;rw[h]
set_option maxHeartbeats 1000000 in
theorem t26{W:Wd}{H:Aaa}{c sb:Nat}{wh:Int}{L:Ly}{C:Ch}(h:ChR W H c sb wh L C)(x:Sta):
 ∃w K,Aau Tryz.prog 0 26 [ptr c 0,.agg (stl x).toArray] H w K∧w=.tuple #[]∧Chg [c,sb] H K∧ChR W K c sb wh L {C with s:=At1 C.s x}:=by
 refine Aaq Beg Blq ?_
 intro Q hq1 hq2
 obtain⟨v,hv⟩:=h
 have gc:=hv.g
 have lc:=Aaa.Bp9 gc
 have hne:=hv.ne
 have m:=fun s=>Adu v s
 have a6:=fun s=>Bi8 v s
 have a7:=fun s=>Bi9 v s
 have a8:=fun s=>Bja v s
 have a73:=fun s=>A9n v s
 have b6:=fun s f=>A9p v s f
 have b7:=fun s f=>A9q v s f
 have b8:=fun s f=>A9r v s f
 have b73:=fun s f=>A26 v s f
 simp(disch:=first|assumption|omega|(simp only[LN]<;>omega)|(simp(disch:=first|assumption|omega|(simp only[LN]<;>omega))only[Aab,Aad];assumption))only[f26,P3,seval,Aak,Aat,gc,Aaz,Aaj,a6,a7,a8,a73,b6,b7,b8,b73,m,Bff,Aq9,Abv,Aeq,Adv,Ab4,O4,Auv]
 obtain⟨A1,hA1⟩:∃z:Value,z=.agg (stl x).toArray:=⟨_,rfl⟩
 rw[←hA1,Aah]
 refine Aan (fun q fr K=>∃i x3 x4 x8,fr=[ptr c 0,A1,ptr H.n 0,x3,x4,.bool false,.agg (tis x.ti).toArray,.int .i64 ((i:Nat):Int),x8]∧Chg [c] H K∧K.get c=some (.cells true false 79 (chl v (Aku C.s x i)) 99)∧i≤64∧q=64-i) 64
  ⟨0,_,_,_,rfl,(Chg.set H lc _).trans (((Aac.refl _).alloc _).chg []) (by simp),by rw[Azj];exact((Aac.refl _).alloc _).at_ (Aaa.Bp7 gc _),by omega,rfl⟩ ?_
 rintro Q' q fr K ⟨i,x3,x4,x8',rfl,cK,gK,hi,rfl⟩ hn' hx' hret
 have lK:=Aaa.Bp9 gK
 by_cases hlt:i<64
 ·have e1:(i:Int)<64:=by omega
  have e0:(0:Int)≤(i:Int):=by omega
  have hw:IntKind.i64.wrap ((i:Int)+1)=((i+1:Nat):Int):=by rw[Aae (by omega) (by omega)];simp
  have ai:=Auw
  have ct:=Bjb v (Aku C.s x i) hlt
  have cs:=A9s v (Aku C.s x i) hlt
  have e9:9+i<79:=by omega
  have len:=m (Aku C.s x i)
  have e8:=Azi ((Aku C.s x i).ti i) (x.ti i)
  rw[Aqs,Option.some.injEq]at e8
  simp(disch:=first|assumption|omega)only[P4,seval,e1,e0,Auw,hlt,gK,Aa1,Int.toNat_natCast,Nat.mul_one,ct,cs,e9,len,hw]
  rw[e8,cs,Azk]
  exact hn' _ _ _ ⟨i+1,_,_,_,rfl,cK.trans (Chg.set K lK _) (by simp),Aaa.Bp7 gK _,by omega,rfl⟩ (by omega)
 ·have e1:¬(i:Int)<64:=by omega
  have hie:i=64:=by omega
  subst hie
  simp(disch:=first|assumption|omega)only[P4,seval,e1]
  refine hx' _ _ _ ?_
  show Q .normal _ _
  have cF:=cK.mono (T:=[c,sb]) (by simp)
  rw[A3a v (Azl C.s x)]at gK
  have o1:OtR H [c]:=fun b hb o r z D T e=>(hv.o68 b (by simp at hb ⊢;exact .inl hb) o r z D T e).2
  exact hq1 _ _ ⟨.tuple #[],rfl,rfl,cF,⟨v,hv.e,gK,hv.l,hv.n.oth cF (fun b hb o r z C T e=>(hv.o68 b hb o r z C T e).1),hv.m,hv.sd.oth cK (by simpa using fun e=>hne e.symm) o1,hv.ok,hv.ch,hv.up cF,hv.wc,hv.ws⟩⟩
set_option maxHeartbeats 1000000 in
theorem t56(H:Aaa)(s x:Sta):∃w K,Aau Tryz.prog 0 56 [.agg (stl s).toArray,.agg (stl x).toArray] H w K∧w=.agg (stl (At1 s x)).toArray∧K=H:=by
 refine A0g ?_
 refine Aaq Bet Bl6 ?_
 intro Q hq1 hq2
 simp(disch:=first|assumption|omega|(simp only[LN]<;>omega)|(simp(disch:=first|assumption|omega|(simp only[LN]<;>omega))only[Aab,Aad];assumption))only[f56,P3,seval,Aak,Aat,Aaz,Aaj,Bff,Aq9,Abv,Aeq,Adv,Ab4,Ah6,Ais,Ahe,Af9,O4,Ajt]
 obtain⟨A0,hA0⟩:∃z:Value,z=.agg (stl s).toArray:=⟨_,rfl⟩
 obtain⟨A1,hA1⟩:∃z:Value,z=.agg (stl x).toArray:=⟨_,rfl⟩
 have t0:=Azj s x
 unfold At1 at t0
 simp only at t0
 rw[←t0]
 obtain⟨K0,hK0⟩:∃X,X=((H.alloc (.cells true false 68 (stl (Aku s x 0)) 43)).alloc (.cells true false 68 (stl x) 43)).alloc (.cells true false 68 (stl Abs) 43):=⟨_,rfl⟩
 have k0:Aac H K0:=by rw[hK0];exact(((Aac.refl H).alloc _).alloc _).alloc _
 have g0:K0.get H.n=some (.cells true false 68 (stl (Aku s x 0)) 43):=by rw[hK0];exact(((Aac.refl _).alloc _).alloc _).at_ (Aaa.Bp6 H _)
 have g1:K0.get (H.n+1)=some (.cells true false 68 (stl x) 43):=by rw[hK0];exact((Aac.refl _).alloc _).at_ (Aaa.Bp6 (H.alloc _) _)
 have g2:K0.get (H.n+1+1)=some (.cells true false 68 (stl Abs) 43):=by rw[hK0];exact Aaa.Bp6 ((H.alloc _).alloc _) _
 rw[←hA0,←hA1,←hK0,Aah]
 refine Aan (fun q fr K=>∃i x6,fr=[A0,A1,ptr H.n 0,ptr (H.n+1) 0,ptr (H.n+1+1) 0,.int .i64 ((i:Nat):Int),x6]∧Chg [H.n] K0 K∧K.get H.n=some (.cells true false 68 (stl (Aku s x i)) 43)∧i≤64∧q=64-i) 64
  ⟨0,_,rfl,Chg.refl _ _,g0,by omega,rfl⟩ ?_
 rintro Q' q fr K ⟨i,x6,rfl,cK,gK,hi,rfl⟩ hn' hx' hret
 have lK:=Aaa.Bp9 gK
 have g1K:=cK.at_ g1 (by simp)
 have g2K:=cK.at_ g2 (by simp;omega)
 have l1K:=Aaa.Bp9 g1K
 have l2K:=Aaa.Bp9 g2K
 by_cases hlt:i<64
 ·have e1:(i:Int)<64:=by omega
  have e0:(0:Int)≤(i:Int):=by omega
  have hw:IntKind.i64.wrap ((i:Int)+1)=((i+1:Nat):Int):=by rw[Aae (by omega) (by omega)];simp
  have ct:=Amg (Aku s x i) hlt
  have cx:=Amg x hlt
  have cs:=Akw (Aku s x i) hlt (x8 ((Aku s x i).ti i) (x.ti i))
  have e3:3+i<68:=by omega
  have e8:=Azi ((Aku s x i).ti i) (x.ti i)
  rw[Aqs,Option.some.injEq]at e8
  simp(disch:=first|assumption|omega)only[P4,seval,e1,e0,gK,g1K,Aa1,Int.toNat_natCast,Nat.mul_one,ct,cx,e3,Aaj,hw]
  rw[e8,cs,Azk]
  exact hn' _ _ _ ⟨i+1,_,rfl,cK.trans (Chg.set K lK _) (by simp),Aaa.Bp7 gK _,by omega,rfl⟩ (by omega)
 ·have e1:¬(i:Int)<64:=by omega
  have hie:i=64:=by omega
  subst hie
  rw[Azl]at gK
  simp(disch:=first|assumption|omega)only[P4,seval,e1]
  refine hx' _ _ _ ?_
  simp(disch:=first|assumption|omega)only[P4,seval,gK,Abc,Abh,g2K]
  exact hq2 _ _ ⟨_,by show Acx [.cn 68 4] _ _=_;rw[Aqx];show Adm 68 (ptr (H.n+1+1) 0) _=_;rw[Acq,Abj,Aaa.Bp7 g2K,Abc];rfl,rfl,(k0.Bqa cK (by simp)).set (by omega) l2K _⟩
end Go.AM.Fd

set_option maxRecDepth 8000
namespace Go.AM.Fd
open Nat (reduceAdd reduceEqDiff reduceLT reduceLeDiff reduceMul reduceSub)
open Go.Proofs Go.AM.F
structure Dhv where
 u:V4
 ep:Int
 sb:Nat
 fl:Int
 tk:Bool
 th:Bool
def dhl(d:Dhv)(s n:Sta):List Value:=[d.u.s,d.u.p,d.u.g,d.u.r]++(stl s++([.int .i64 d.ep,ptr d.sb 0,.int .i64 d.fl,.bool d.tk,.bool d.th]++stl n))
section
variable (d:Dhv) (s n:Sta)
theorem Adh:(dhl d s n).length=145:=by simp[dhl,Aaj]
theorem At2(i:Nat)(h:i<5):(dhl d s n)[72+i]? =[Value.int .i64 d.ep,ptr d.sb 0,.int .i64 d.fl,.bool d.tk,.bool d.th][i]? :=by
 unfold dhl
 rw[List.getElem?_append_right (by simp;omega),List.getElem?_append_right (by rw[Aaj];simp;omega),Aaj,List.getElem?_append_left (by simp;omega)]
 congr 1
 simp
 omega
theorem Azm:(dhl d s n)[72]? =some (.int .i64 d.ep):=At2 d s n 0 (by omega)
theorem Ak9:(dhl d s n)[73]? =some (ptr d.sb 0):=At2 d s n 1 (by omega)
theorem A9x:(dhl d s n)[74]? =some (.int .i64 d.fl):=At2 d s n 2 (by omega)
theorem A9y:(dhl d s n)[75]? =some (.bool d.tk):=At2 d s n 3 (by omega)
theorem A9z:(dhl d s n)[76]? =some (.bool d.th):=At2 d s n 4 (by omega)
theorem At3:(dhl d s n).take 4=[d.u.s,d.u.p,d.u.g,d.u.r]:=rfl
theorem A3b:((dhl d s n).drop 4).take 68=stl s:=by
 show(stl s++_).take 68=_
 rw[List.take_append_of_le_length (by rw[Aaj];omega),List.take_of_length_le (by rw[Aaj];omega)]
theorem A3d:(dhl d s n).drop 77=stl n:=by
 show(stl s++_).drop 73=_
 rw[List.drop_append,List.drop_of_length_le (by rw[Aaj];omega),Aaj];rfl
theorem Bje:((dhl d s n).drop 77).take 68=stl n:=by
 rw[A3d,List.take_of_length_le (by rw[Aaj];omega)]
theorem Azn(i:Nat)(h:i<5)(x:Value):(dhl d s n).set (72+i) x=[d.u.s,d.u.p,d.u.g,d.u.r]++(stl s++([Value.int .i64 d.ep,ptr d.sb 0,.int .i64 d.fl,.bool d.tk,.bool d.th].set i x++stl n)):=by
 unfold dhl
 rw[List.set_append_right _ _ (by simp;omega),List.set_append_right _ _ (by rw[Aaj];simp;omega),Aaj,List.set_append_left _ _ (by simp;omega)]
 congr 4
 simp
 omega
theorem At4(b:Bool):(dhl d s n).set 75 (.bool b)=dhl {d with tk:=b} s n:=Azn d s n 3 (by omega) _
theorem Aom(b:Bool):(dhl d s n).set 76 (.bool b)=dhl {d with th:=b} s n:=Azn d s n 4 (by omega) _
theorem Azo(t:Sta):(dhl d s n).take 4++stl t++(dhl d s n).drop (4+68)=dhl d t n:=by
 have h2:(dhl d s n).drop (4+68)=[.int .i64 d.ep,ptr d.sb 0,.int .i64 d.fl,.bool d.tk,.bool d.th]++stl n:=by
  show(stl s++_).drop 68=_
  rw[List.drop_append_of_le_length (by rw[Aaj];omega),List.drop_of_length_le (by rw[Aaj];omega)];rfl
 rw[At3,h2,List.append_assoc];rfl
theorem A90(t:Sta):(dhl d s n).take 77++stl t++(dhl d s n).drop (77+68)=dhl d s t:=by
 have h2:(dhl d s n).drop (77+68)=[]:=List.drop_of_length_le (by rw[Adh];omega)
 have h1:(dhl d s n).take 77=[d.u.s,d.u.p,d.u.g,d.u.r]++(stl s++[.int .i64 d.ep,ptr d.sb 0,.int .i64 d.fl,.bool d.tk,.bool d.th]):=by
  show[d.u.s,d.u.p,d.u.g,d.u.r]++(stl s++_).take 73=_
  rw[List.take_append,List.take_of_length_le (by rw[Aaj];omega),Aaj];rfl
 rw[h1,h2,List.append_nil]
 unfold dhl
 simp only[List.append_assoc]
theorem At5(ha:d.u.s.oneCell'=true)(hb:d.u.p.oneCell'=true)(hc:d.u.g.oneCell'=true)(hd:d.u.r.oneCell'=true):(dhl d s n).all Value.oneCell'=true:=by
 simp only[dhl,List.all_append,Aaz,List.all_cons,List.all_nil,ha,hb,hc,hd]
 rfl
end
structure DhV (H:Aaa) (c sb:Nat) (u:V4) (d:Dhv) (C:Ch):Prop where
 e:d.u=u∧d.sb=sb∧d.ep=C.ep∧d.fl=C.fl∧d.tk=C.tk∧d.th=C.nx.isSome
 g:∃n,H.get c=some (.cells true false 145 (dhl d C.s n) 74)∧∀t,C.nx=some t→stl n=stl t
 sd:AgD H sb C.sd
 ok:SOk C.sd
def DhR(H:Aaa)(c sb:Nat)(u:V4)(C:Ch):Prop:=∃d,DhV H c sb u d C
theorem DhV.ne{H:Aaa}{c sb:Nat}{u:V4}{d:Dhv}{C:Ch}(h:DhV H c sb u d C):c≠sb:=by
 obtain⟨_,_,_,_,_,_,g,_⟩:=h.sd
 obtain⟨n,g2,_⟩:=h.g
 intro e;subst e;rw[g2]at g;cases g
theorem DhV.o2{H:Aaa}{c sb:Nat}{u:V4}{d:Dhv}{C:Ch}(h:DhV H c sb u d C):Ot2 H [c]:=by
 obtain⟨n,g2,_⟩:=h.g
 intro b hb o r z C T e
 simp only[List.mem_cons,List.not_mem_nil,or_false]at hb
 subst hb;rw[g2]at e;cases e;decide
theorem DhV.oth{H K:Aaa}{c sb:Nat}{u:V4}{d:Dhv}{C:Ch}{S:List Nat}(h:DhV H c sb u d C)(k:Chg S H K)(hc:c∉S)(hs:sb∉S)(hS:Ot2 H S):DhV K c sb u d C:=by
 obtain⟨n,g2,e2⟩:=h.g
 exact⟨h.e,⟨n,k.at_ g2 hc,e2⟩,h.sd.oth k hs hS,h.ok⟩
theorem DhV.keeps{H K:Aaa}{c sb:Nat}{u:V4}{d:Dhv}{C:Ch}(h:DhV H c sb u d C)(k:Aac H K):DhV K c sb u d C:=h.oth (k.chg []) (by simp) (by simp) (fun b hb=>by cases hb)
theorem DhR.keeps{H K:Aaa}{c sb:Nat}{u:V4}{C:Ch}(h:DhR H c sb u C)(k:Aac H K):DhR K c sb u C:=by
 obtain⟨d,h⟩:=h;exact⟨d,h.keeps k⟩
def ch0(wh:Int):Ch:=⟨Abs,0,0,sd0 wh,false,none⟩
theorem A91(a b c e:Value)(sb:Nat):Aa4 Ax3 [(0,4,.agg #[a,b,c,e]),(73,1,ptr sb 0)]=some (dhl ⟨⟨a,b,c,e⟩,0,sb,0,false,false⟩ Abs Abs):=by
 unfold dhl
 rw[←Ado];rfl
theorem t21{H:Aaa}{u:V4}{xs:List RV}{L:Ly}(h:LyR H u xs L)(wh:Int):∃w K,Aau Tryz.prog 0 21 [.int .i64 wh,.agg u.l.toArray] H w K∧Aac H K∧∃c sb,w=ptr c 0∧H.n≤c∧H.n≤sb∧DhR K c sb u (ch0 wh):=by
 refine Aaq Bei Blv ?_
 intro Q hq1 hq2
 have os:=Sl.one h.s
 have op:=Sl.one h.p
 have og:=Sl.one h.g
 have or:=Sl.one h.r
 have hul:u.l=[u.s,u.p,u.g,u.r]:=rfl
 have k0:=(Aac.refl H).alloc (.cells true false 4 [u.s,u.p,u.g,u.r] 27)
 rw[hul]
 simp(disch:=first|assumption|omega|(simp only[LN]<;>omega)|(simp(disch:=first|assumption|omega|(simp only[LN]<;>omega))only[Aab,Aad];assumption))only[f21,P4,seval,os,op,og,or]
 refine Aag (t49 _ _) ?_
 rintro _ K ⟨rfl,kK,aK⟩
 have fd:=A91 u.s u.p u.g u.r (H.n+1)
 have on:=At5 ⟨u,0,H.n+1,0,false,false⟩ Abs Abs os op og or
 have ln:=Adh ⟨u,0,H.n+1,0,false,false⟩ Abs Abs
 have gl:=kK.get H.n (Nat.lt_succ_self _)
 simp(disch:=first|assumption|omega)only[P4,seval,fd,on,ln,gl]
 have nK:=kK.n
 have kN:=(Aac.refl K).alloc (.cells true false 145 (dhl ⟨u,0,H.n+1,0,false,false⟩ Abs Abs) 74)
 refine⟨by simp,hq2 _ _ ⟨ptr K.n 0,rfl,(k0.trans kK).trans kN,K.n,H.n+1,rfl,Nat.le_trans (Nat.le_succ _) nK,Nat.le_succ _,⟨u,0,H.n+1,0,false,false⟩,⟨rfl,rfl,rfl,rfl,rfl,rfl⟩,⟨Abs,Aaa.Bp6 K _,fun t e=>by cases e⟩,aK.keeps kN,Apu wh⟩⟩
theorem t91{H:Aaa}(n:Int):∃w K,Aau Tryz.prog 0 91 [.int .i64 n] H w K∧w=.bool (Ant n)∧K=H:=by
 refine Aaq Bez Bmc ?_
 intro Q hq1 hq2
 unfold Ant at*
 by_cases h1:0≤n
 ·simp(disch:=first|assumption|omega)only[f91,P4,seval,h1]
  exact hq2 _ _ ⟨.bool _,rfl,by simp[h1],rfl⟩
 ·simp(disch:=first|assumption|omega)only[f91,P4,seval,h1]
  exact hq2 _ _ ⟨.bool false,rfl,by simp[h1],rfl⟩
theorem A92(a b c e:Value)(s:Sta)(ep cy:Int)(sb:Nat):Aa4 Ax3 [(0,4,.agg #[a,b,c,e]),(4,68,.agg (stl s).toArray),(72,1,.int .i64 ep),(73,1,ptr sb 0),(74,1,.int .i64 cy)]=some (dhl ⟨⟨a,b,c,e⟩,ep,sb,cy,false,false⟩ s Abs):=by
 have h:Aa4 Ax3 [(0,4,.agg #[a,b,c,e]),(4,68,.agg (stl s).toArray),(72,1,.int .i64 ep),(73,1,ptr sb 0),(74,1,.int .i64 cy)]=Aa4 (([a,b,c,e]++stl s)++([.int .i64 0,.pointer none,.int .i64 0,.bool false,.bool false]++([.int .u64 0,.int .u64 0,.int .u64 0]++List.replicate 64 (.int .u8 0)++[.int .u32 0]))) [(72,1,.int .i64 ep),(73,1,ptr sb 0),(74,1,.int .i64 cy)]:=rfl
 have hB:([a,b,c,e]++stl s).length=72:=by simp[Aaj]
 rw[h]
 refine(Aq0 (m:=72) hB 0 _ _ rfl (by simp) _).trans ?_
 refine(Aq0 (m:=72) hB 1 _ _ rfl (by simp) _).trans ?_
 refine(Aq0 (m:=72) hB 2 _ _ rfl (by simp) _).trans ?_
 unfold dhl
 rw[←Ado,List.append_assoc];rfl
set_option maxHeartbeats 1000000 in
theorem t57{H:Aaa}{c sb:Nat}{u:V4}{xs:List RV}{L:Ly}{C:Ch}(h:DhR H c sb u C)(hl:LyR H u xs L)(he:Aar L=0)(s:Sta)(ep cy:Int):
 ∃w K,Aau Tryz.prog 0 57 [ptr c 0,.agg (stl s).toArray,.int .i64 ep,.int .i64 cy] H w K∧w=.int .i64 (Arh L s ep cy)∧Chg [c,sb] H K∧∃sb',(sb'=sb∨H.n≤sb')∧DhR K c sb' u (Arg L C C.sd.ch s ep cy):=by
 refine Aaq Beu Bl7 ?_
 intro Q hq1 hq2
 obtain⟨d,hd⟩:=h
 obtain⟨n,gc,hn⟩:=hd.g
 have lc:=Aaa.Bp9 gc
 obtain⟨e1,e2,e3,e4,e5,e6⟩:=hd.e
 have os:=Sl.one hl.s
 have op:=Sl.one hl.p
 have og:=Sl.one hl.g
 have or:=Sl.one hl.r
 have ks:=(Aac.refl H).alloc (.cells true false 68 (stl s) 43)
 have gs:=Aaa.Bp6 H (.cells true false 68 (stl s) 43)
 have ml:=At3 d C.s n
 rw[e1]at ml
 have m73:=Ak9 d C.s n
 rw[e2]at m73
 have len:=Adh d C.s n
 have hul:u.l=[u.s,u.p,u.g,u.r]:=rfl
 have tR:=t90 (hl.keeps ks) he s
 rw[hul]at tR
 have bad:A28 L s ep cy=false→∀{fr:List Value} {K:Aaa},Aac H K→fr.getD 5 undef=.int .i64 2→Q .ret fr K:=fun e fr K k hf=>by
  have r1:Arh L s ep cy=2:=by unfold Arh;rw[e];rfl
  have r2:Arg L C C.sd.ch s ep cy=C:=by unfold Arg;rw[e];rfl
  exact hq2 _ _ ⟨.int .i64 2,by show some (Afi [fr.getD 5 undef])=_;rw[hf];rfl,by rw[r1],k.chg _,sb,.inl rfl,by rw[r2];exact⟨d,hd.keeps k⟩⟩
 have hb:A28 L s ep cy=(Amk L s&&(Ant ep&&Ant cy)):=rfl
 simp(disch:=first|assumption|omega)only[f57,P4,seval,Aaz,Aaj,gc,ml,len,Abc]
 refine Aag tR ?_
 rintro _ X ⟨rfl,hX⟩
 rw[hX]
 cases h1:Amk L s with
 |false=>
  simp(disch:=first|assumption|omega)only[P4,seval]
  exact bad (by rw[hb,h1];rfl) ks rfl
 |true=>
 simp(disch:=first|assumption|omega)only[P4,seval]
 refine Aaw (t91 _) ?_
 cases h2:Ant ep with
 |false=>
  simp(disch:=first|assumption|omega)only[P4,seval]
  exact bad (by rw[hb,h1,h2];rfl) ks rfl
 |true=>
 simp(disch:=first|assumption|omega)only[P4,seval]
 refine Aaw (t91 _) ?_
 cases h3:Ant cy with
 |false=>
  simp(disch:=first|assumption|omega)only[P4,seval]
  exact bad (by rw[hb,h1,h2,h3];rfl) ks rfl
 |true=>
 have asd:=hd.sd
 obtain⟨_,_,_,_,_,_,ga,_⟩:=hd.sd
 unfold agl at ga
 have la:=Aaa.Bp9 ga
 have gas:=ks.at_ ga
 have gcs:=ks.at_ gc
 simp(disch:=first|assumption|omega)only[P4,seval,Aaz,Aaj,gc,ml,m73,len,Abc,ga,la,lc]
 refine Aag (t49 _ _) ?_
 rintro _ V ⟨rfl,kV,ag⟩
 have gV:=kV.at_ gcs
 have lV:=Aaa.Bp9 gV
 have gsV:=kV.at_ gs
 have fd:=A92 u.s u.p u.g u.r s ep cy (H.n+1)
 have on:=At5 ⟨u,ep,H.n+1,cy,false,false⟩ s Abs os op og or
 have ln:=Adh ⟨u,ep,H.n+1,cy,false,false⟩ s Abs
 simp(disch:=first|assumption|omega)only[P4,seval,fd,gV,gc,gsV,on,ln]
 have e1':Arh L s ep cy=0:=by unfold Arh;rw[hb,h1,h2,h3];rfl
 have e2':Arg L C C.sd.ch s ep cy=⟨s,ep,cy,sd0 C.sd.ch,false,none⟩:=by unfold Arg;rw[hb,h1,h2,h3];rfl
 have cV:=Chg.set V lV (.cells true false 145 (dhl ⟨u,ep,H.n+1,cy,false,false⟩ s Abs) 74)
 have cS:=((ks.trans kV).chg [c,sb]).trans (cV.mono (T:=[c,sb]) (by simp)) (by simp)
 have o2:Ot2 V [c]:=fun b hb o r z D T e=>by
  simp only[List.mem_cons,List.not_mem_nil,or_false]at hb
  subst hb;rw[gV]at e;cases e;decide
 refine⟨by simp,hq2 _ _ ⟨.int .i64 0,rfl,by rw[e1'],cS,H.n+1,.inr (Nat.le_succ _),by
  rw[e2']
  exact⟨⟨u,ep,H.n+1,cy,false,false⟩,⟨rfl,rfl,rfl,rfl,rfl,rfl⟩,⟨Abs,Aaa.Bp7 gV _,fun t e=>by cases e⟩,ag.oth cV (by simp only[Acd,List.mem_cons,List.not_mem_nil,or_false];omega) o2,Apu _⟩⟩⟩
set_option maxHeartbeats 1000000 in
theorem t52{H:Aaa}{c sb:Nat}{u:V4}{xs:List RV}{L:Ly}{C:Ch}{r:Rd}{z:Value}(h:DhR H c sb u C)(hl:LyR H u xs L)(he:Aar L=0)(hr:ROk r)(hz:SlC H 2 z (r.c.map Aft)):
 ∃w K,Aau Tryz.prog 0 52 [ptr c 0,.agg (rdl r z).toArray] H w K∧w=.int .i64 (hhE L C r)∧Chg [c,sb] H K∧DhR K c sb u (hhS L C r):=by
 refine Aaq Bep Bl2 ?_
 intro Q hq1 hq2
 obtain⟨d,hd⟩:=h
 obtain⟨n,gc,hn⟩:=hd.g
 have lc:=Aaa.Bp9 gc
 obtain⟨e1,e2,e3,e4,e5,e6⟩:=hd.e
 have hL:=Aa8 (Aav he)
 have oz:=Sl.one hz.s
 have er:rdl r z=[.int .i64 r.ch,.int .i64 r.cy,S64 r.x.oc,S32 r.x.nr,S32 r.x.rv,z]:=rfl
 have ml:=At3 d C.s n
 rw[e1]at ml
 have m73:=Ak9 d C.s n
 rw[e2]at m73
 have len:=Adh d C.s n
 obtain⟨K0,hK0⟩:∃X,X=H.alloc (.cells true false 6 (rdl r z) 126):=⟨_,rfl⟩
 have k0:Aac H K0:=by rw[hK0];exact(Aac.refl H).alloc _
 have g0:K0.get H.n=some (.cells true false 6 (rdl r z) 126):=by rw[hK0];exact Aaa.Bp6 H _
 have gc0:=k0.at_ gc
 have tR:=u12 (x:=r.x) (cv:=z) (cs:=r.c) (hl.keeps k0) hL (hz.keeps k0).s (by have:=hr.1;omega)
 have tH:=t88 (hd.sd.keeps k0) hd.ok hr (hz.keeps k0)
 have ei:inl r.x z=[S64 r.x.oc,S32 r.x.nr,S32 r.x.rv,z]:=rfl
 have hul:u.l=[u.s,u.p,u.g,u.r]:=rfl
 rw[ei,hul]at tR
 rw[er]at hK0 tH g0 ⊢
 simp(disch:=first|assumption|omega|(simp only[LN]<;>omega)|(simp(disch:=first|assumption|omega|(simp only[LN]<;>omega))only[Aab,Aad];assumption))only[f52,P4,seval,oz,O4,gc,ml,len]
 rw[←hK0]
 refine Aag tR ?_
 rintro _ X ⟨rfl,hX⟩
 rw[hX]
 cases hB:inR L.s.length L.p.length L.r.length r.x r.c with
 |false=>
  have r1:hhS L C r=C:=by unfold hhS;rw[hB];rfl
  have r2:hhE L C r=2:=by unfold hhE;rw[hB];rfl
  simp(disch:=first|assumption|omega)only[P4,seval]
  exact hq2 _ _ ⟨.int .i64 2,rfl,by rw[r2],k0.chg _,by rw[r1];exact⟨d,hd.keeps k0⟩⟩
 |true=>
  have r1:hhS L C r={C with sd:=Aev C.sd r}:=by unfold hhS;rw[hB];rfl
  have r2:hhE L C r=Ae7 C.sd r:=by unfold hhE;rw[hB];rfl
  simp(disch:=first|assumption|omega|(simp only[LN]<;>omega)|(simp(disch:=first|assumption|omega|(simp only[LN]<;>omega))only[Aab,Aad];assumption))only[P4,seval,gc0,m73,g0]
  refine Aag tH ?_
  rintro _ K ⟨rfl,cK,aK⟩
  simp(disch:=first|assumption|omega)only[P4,seval]
  have cF:=((k0.chg [sb]).trans cK (by simp)).mono (T:=[c,sb]) (by simp)
  have hne:=hd.ne
  exact hq2 _ _ ⟨.int .i64 (Ae7 C.sd r),rfl,by rw[r2],cF,by
   rw[r1]
   exact⟨d,hd.e,⟨n,cK.at_ gc0 (by simpa using hne),hn⟩,aK,Aty hd.ok hr⟩⟩
theorem t55{H:Aaa}{c sb:Nat}{u:V4}{C:Ch}(h:DhR H c sb u C):
 ∃w K,Aau Tryz.prog 0 55 [ptr c 0] H w K∧w=.int .i64 (tkE C)∧Chg [c,sb] H K∧DhR K c sb u (tkS C):=by
 refine Aaq Bes Bl5 ?_
 intro Q hq1 hq2
 obtain⟨d,hd⟩:=h
 obtain⟨n,gc,hn⟩:=hd.g
 have lc:=Aaa.Bp9 gc
 obtain⟨e1,e2,e3,e4,e5,e6⟩:=hd.e
 have m76:=A9z d C.s n
 rw[e6]at m76
 cases hx:C.nx with
 |none=>
  have r1:tkS C=C:=by unfold tkS;rw[hx]
  have r2:tkE C=4:=by unfold tkE;rw[hx];rfl
  simp only[hx,Option.isSome_none]at m76
  simp(disch:=first|assumption|omega)only[f55,P4,seval,gc,m76]
  exact hq2 _ _ ⟨.int .i64 4,rfl,by rw[r2],Chg.refl _ _,by rw[r1];exact⟨d,hd⟩⟩
 |some t=>
  have r1:tkS C={C with s:=t,nx:=none,tk:=true}:=by unfold tkS;rw[hx]
  have r2:tkE C=0:=by unfold tkE;rw[hx];rfl
  simp only[hx,Option.isSome_some]at m76
  have en:=hn t hx
  have mn:=Bje d C.s n
  have len:=Adh d C.s n
  have len2:=Adh d n n
  have len3:=Adh {d with th:=false} n n
  have sS:=Azo d C.s n n
  have s76:=Aom d n n false
  have s75:=At4 {d with th:=false} n n true
  simp(disch:=first|assumption|omega)only[f55,P4,seval,gc,m76,mn,Aaz,Aaj,len,len2,len3,sS,s76,s75]
  have cS:=Chg.set H lc (.cells true false 145 (dhl {d with th:=false,tk:=true} n n) 74)
  have hne:=hd.ne
  exact hq2 _ _ ⟨.int .i64 0,rfl,by rw[r2],cS.mono (by simp),by
   rw[r1]
   exact⟨{d with th:=false,tk:=true},⟨e1,e2,e3,e4,rfl,rfl⟩,⟨n,(Aaa.Bp7 gc _).trans (by unfold dhl;rw[en]),fun t e=>by cases e⟩,hd.sd.oth cS (by simpa using fun e=>hne e.symm) hd.o2,hd.ok⟩⟩
end Go.AM.Fd

set_option maxRecDepth 8000
namespace Go.AM.Fd
open Nat (reduceAdd reduceEqDiff reduceLT reduceLeDiff reduceMul reduceSub)
open Go.Proofs Go.AM.F
set_option maxHeartbeats 1000000 in
theorem t51{H:Aaa}{c sb:Nat}{u:V4}{xs:List RV}{L:Ly}{C:Ch}{x:Inp}{z:Value}{cs:List (Int×Int)}(h:DhR H c sb u C)(hl:LyR H u xs L)(he:Aar L=0)(cy:Int)(hz:SlC H 2 z (cs.map Aft))(hcl:cs.length≤1000)(hk:∀c∈cs,0≤c.1∧c.1<256):
 ∃w K,Aau Tryz.prog 0 51 [ptr c 0,.int .i64 cy,.agg (inl x z).toArray] H w K∧Chg [c,sb] H K∧DhR K c sb u (bgS L C cy x cs)∧∃y,w=.tuple #[.agg (rdl (bgR L C cy x cs) y).toArray,.int .i64 (bgE L C cy x cs)]∧SlC K 2 y ((bgR L C cy x cs).c.map Aft):=by
 refine Aaq Beo Bl1 ?_
 intro Q hq1 hq2
 obtain⟨d,hd⟩:=h
 obtain⟨n,gc,hn⟩:=hd.g
 have lc:=Aaa.Bp9 gc
 obtain⟨v1,v2,v3,v4,v5,v6⟩:=hd.e
 have hL:=Aa8 (Aav he)
 have oz:=Sl.one hz.s
 have e1:inl x z=[S64 x.oc,S32 x.nr,S32 x.rv,z]:=rfl
 obtain⟨K0,hK0⟩:∃X,X=(H.alloc (.cells true false 4 [S64 x.oc,S32 x.nr,S32 x.rv,z] 46)).alloc (.cells true false 6 [.int .i64 0,.int .i64 0,.int .u64 0,.int .u32 0,.int .u32 0,.slice none 0 0] 126):=⟨_,rfl⟩
 have k0:Aac H K0:=by rw[hK0];exact((Aac.refl H).alloc _).alloc _
 have n0:K0.n=H.n+2:=by rw[hK0];rfl
 have g0:K0.get H.n=some (.cells true false 4 [S64 x.oc,S32 x.nr,S32 x.rv,z] 46):=by rw[hK0];exact((Aac.refl _).alloc _).at_ (Aaa.Bp6 H _)
 have g1:K0.get (H.n+1)=some (.cells true false 6 [.int .i64 0,.int .i64 0,.int .u64 0,.int .u32 0,.int .u32 0,.slice none 0 0] 126):=by rw[hK0];exact Aaa.Bp6 (H.alloc _) _
 have gc0:=k0.at_ gc
 have m74:=A9x d C.s n
 have m73:=Ak9 d C.s n
 have ml:=At3 d C.s n
 have len:=Adh d C.s n
 rw[v4]at m74
 rw[v2]at m73
 rw[v1]at ml
 have hB:bgB L C cy x cs=(!decide (1099511627776<cy)&&(!decide (cy≤C.fl)&&inR L.s.length L.p.length L.r.length x cs)):=rfl
 have bad:bgB L C cy x cs=false→∀{fr:List Value} {K:Aaa},Aac H K→K.get (H.n+1)=some (.cells true false 6 [.int .i64 0,.int .i64 0,.int .u64 0,.int .u32 0,.int .u32 0,.slice none 0 0] 126)→fr.getD 4 undef=ptr (H.n+1) 0→fr.getD 5 undef=.int .i64 2→Q .ret fr K:=fun e fr K k0 g1 h1 h2=>by
  have r1:bgS L C cy x cs=C:=by unfold bgS;rw[e];rfl
  have r2:bgR L C cy x cs=R0:=by unfold bgR;rw[e];rfl
  have r3:bgE L C cy x cs=2:=by unfold bgE;rw[e];rfl
  simp only[r1,r2,r3,Anb]at hq2
  exact hq2 _ _ ⟨_,Aea g1 rfl h1 h2,k0.chg _,⟨d,hd.keeps k0⟩,.slice none 0 0,rfl,Sl.nil _ _,.inl rfl⟩
 rw[e1]
 have tR:=u12 (x:=x) (cv:=z) (cs:=cs) (hl.keeps k0) hL (hz.keeps k0).s (by omega)
 have hul:u.l=[u.s,u.p,u.g,u.r]:=rfl
 simp only[hul,e1]at tR
 by_cases c1:1099511627776<cy
 ·simp(disch:=first|assumption|omega|(simp only[LN]<;>omega)|(simp(disch:=first|assumption|omega|(simp only[LN]<;>omega))only[Aab,Aad];assumption))only[f51,P4,seval,oz,O4,c1,Aig]
  rw[←hK0]
  exact bad (by rw[hB,decide_eq_true c1];rfl) k0 g1 rfl rfl
 by_cases c2:cy≤C.fl
 ·simp(disch:=first|assumption|omega|(simp only[LN]<;>omega)|(simp(disch:=first|assumption|omega|(simp only[LN]<;>omega))only[Aab,Aad];assumption))only[f51,P4,seval,oz,O4,c1,c2,gc,m74,Aig]
  rw[←hK0]
  exact bad (by rw[hB,decide_eq_true c2];simp) k0 g1 rfl rfl
 rw[decide_eq_false c1,decide_eq_false c2]at hB
 simp(disch:=first|assumption|omega|(simp only[LN]<;>omega)|(simp(disch:=first|assumption|omega|(simp only[LN]<;>omega))only[Aab,Aad];assumption))only[f51,P4,seval,oz,O4,c1,c2,gc,m74,ml,len]
 rw[←hK0]
 refine Aag tR ?_
 rintro _ X ⟨rfl,hX⟩
 rw[hX]
 cases hr:inR L.s.length L.p.length L.r.length x cs with
 |false=>
  have l1:=Aaa.Bp9 g1
  simp(disch:=first|assumption|omega|(simp only[LN]<;>omega)|(simp(disch:=first|assumption|omega|(simp only[LN]<;>omega))only[Aab,Aad];assumption))only[P4,seval,g1,Aig]
  exact bad (by rw[hB,hr];rfl) (k0.set (by omega) l1 _) (Aaa.Bp7 g1 _) rfl rfl
 |true=>
 rw[hr]at hB
 have hB1:bgB L C cy x cs=true:=hB
 have tB:=t87 (cy:=cy) (x:=x) (hd.sd.keeps k0) (hz.keeps k0) hcl
 simp only[e1]at tB
 have hne:=hd.ne
 simp(disch:=first|assumption|omega|(simp only[LN]<;>omega)|(simp(disch:=first|assumption|omega|(simp only[LN]<;>omega))only[Aab,Aad];assumption))only[P4,seval,gc0,m73,g0,O4]
 refine Aag tB ?_
 rintro _ K ⟨cK,aK,y,rfl,hy⟩
 have gK:=cK.at_ gc0 (by simpa using hne)
 have lsb:sb<H.n:=by obtain⟨_,_,_,_,_,_,g,_⟩:=hd.sd;exact Aaa.Bp9 g
 have g1K:=cK.at_ g1 (by simp;omega)
 have l1K:=Aaa.Bp9 g1K
 have lK:=Aaa.Bp9 gK
 have nK:=cK.n
 have oy:=Sl.one hy.s
 have o1:Ot2 K [H.n+1]:=fun b hb o r z D T e=>by
  simp only[List.mem_cons,List.not_mem_nil,or_false]at hb
  subst hb;rw[g1K]at e;cases e;decide
 have cH:=((k0.chg [sb]).trans cK (by simp)).mono (T:=[c,sb]) (by simp)
 by_cases c3:cy≤C.sd.cy
 ·have er:Aj8 C.sd cy x cs=R0:=by unfold Aj8;rw[if_pos c3]
  have ee:Amc C.sd cy=2:=by unfold Amc;rw[if_pos c3]
  have es:Akt C.sd cy x cs=C.sd:=by unfold Akt;rw[if_pos c3]
  rw[er]at hy
  rw[es]at aK
  rw[er,ee,Anb]
  simp(disch:=first|assumption|omega|(simp only[LN]<;>omega)|(simp(disch:=first|assumption|omega|(simp only[LN]<;>omega))only[Aab,Aad];assumption))only[P4,seval,oy,g1K,Ag8]
  have r1:bgS L C cy x cs=C:=by unfold bgS;rw[hB1,if_pos rfl,if_pos c3]
  have r2:bgR L C cy x cs=R0:=by unfold bgR;rw[hB1,if_pos rfl,er]
  have r3:bgE L C cy x cs=2:=by unfold bgE;rw[hB1,if_pos rfl,ee]
  simp only[r1,r2,r3,Anb]at hq2
  have c2:=Chg.set K l1K (.cells true false 6 [.int .i64 0,.int .i64 0,.int .u64 0,.int .u32 0,.int .u32 0,y] 126)
  have kZ:=(Aac.refl (K.set (H.n+1) (.cells true false 6 [.int .i64 0,.int .i64 0,.int .u64 0,.int .u32 0,.int .u32 0,y] 126))).alloc (.cells true false 6 [.int .i64 0,.int .i64 0,.int .u64 0,.int .u32 0,.int .u32 0,y] 126)
  have gZ:=kZ.at_ ((Aaa.Bp8 K (show c≠H.n+1 by omega) l1K (.cells true false 6 [.int .i64 0,.int .i64 0,.int .u64 0,.int .u32 0,.int .u32 0,y] 126)).trans gK)
  exact hq2 _ _ ⟨_,Aea (p:=H.n+1) (kZ.at_ (Aaa.Bp7 g1K _)) rfl rfl rfl,(cH.trans c2 (by simp)).trans (kZ.chg []) (by simp),⟨d,hd.e,⟨n,gZ,hn⟩,(aK.oth c2 (by simp;omega) o1).keeps kZ,hd.ok⟩,y,rfl,(SlC.oth hy c2 o1).keeps kZ⟩
 ·have er:Aj8 C.sd cy x cs=⟨C.sd.ch,cy,x,cs⟩:=by unfold Aj8;rw[if_neg c3]
  have ee:Amc C.sd cy=0:=by unfold Amc;rw[if_neg c3]
  have erd:∀z,rdl ⟨C.sd.ch,cy,x,cs⟩ z=[.int .i64 C.sd.ch,.int .i64 cy,S64 x.oc,S32 x.nr,S32 x.rv,z]:=fun _=>rfl
  have s76:=Aom d C.s n false
  have s75:=At4 {d with th:=false} C.s n false
  have len2:=Adh {d with th:=false} C.s n
  rw[er]at hy
  rw[er,ee,erd]
  simp(disch:=first|assumption|omega|(simp only[LN]<;>omega)|(simp(disch:=first|assumption|omega|(simp only[LN]<;>omega))only[Aab,Aad];assumption))only[P4,seval,oy,g1K,gK,O4,s76,s75,len,len2]
  have r1:bgS L C cy x cs={C with sd:=Akt C.sd cy x cs,tk:=false,nx:=none}:=by unfold bgS;rw[hB1,if_pos rfl,if_neg c3]
  have r2:bgR L C cy x cs=⟨C.sd.ch,cy,x,cs⟩:=by unfold bgR;rw[hB1,if_pos rfl,er]
  have r3:bgE L C cy x cs=0:=by unfold bgE;rw[hB1,if_pos rfl,ee]
  simp only[r1,r2,r3,erd]at hq2
  rw[Azg (by omega) lK l1K]
  obtain⟨R2,hR2⟩:∃o:AO,o=.cells true false 6 [.int .i64 C.sd.ch,.int .i64 cy,S64 x.oc,S32 x.nr,S32 x.rv,y] 126:=⟨_,rfl⟩
  rw[←hR2]
  have c2:=Chg.set K l1K R2
  have g1Z:=Aaa.Bp7 g1K R2
  have gcZ:=(Aaa.Bp8 K (show c≠H.n+1 by omega) l1K R2).trans gK
  have lZ:=Aaa.Bp9 gcZ
  obtain⟨A2,hA2⟩:∃o:AO,o=.cells true false 145 (dhl {d with th:=false,tk:=false} C.s n) 74:=⟨_,rfl⟩
  rw[show AO.cells true false 145 (dhl _ C.s n) 74=A2 from hA2.symm]
  have c4:=Chg.set (K.set (H.n+1) R2) lZ A2
  have o4:Ot2 (K.set (H.n+1) R2) [c]:=fun b hb o r z C T e=>by
   simp only[List.mem_cons,List.not_mem_nil,or_false]at hb
   subst hb;rw[gcZ]at e;cases e;decide
  have aF:=(aK.oth c2 (by simp;omega) o1).oth c4 (by simp;omega) o4
  have kF:=(Aac.refl ((K.set (H.n+1) R2).set c A2)).alloc R2
  have cF:Chg [c,sb] H (((K.set (H.n+1) R2).set c A2).alloc R2):=((cH.trans c2 (by simp)).trans (c4.mono (T:=[c,sb]) (by simp)) (by simp)).trans (kF.chg []) (by simp)
  exact hq2 _ _ ⟨_,Aea (p:=H.n+1) (kF.at_ ((Aaa.Bp8 _ (show H.n+1≠c by omega) lZ A2).trans (g1Z.trans (by rw[hR2])))) rfl rfl rfl,cF,⟨{d with th:=false,tk:=false},⟨v1,v2,v3,v4,rfl,rfl⟩,⟨n,kF.at_ ((Aaa.Bp7 gcZ A2).trans (by rw[hA2])),fun t e=>by cases e⟩,aF.keeps kF,Atx hd.ok hcl hk⟩,y,rfl,((SlC.oth hy c2 o1).oth c4 o4).keeps kF⟩
set_option maxHeartbeats 2000000 in
theorem t53{H:Aaa}{c sb:Nat}{u:V4}{xs:List RV}{L:Ly}{C:Ch}(h:DhR H c sb u C)(hl:LyR H u xs L)(he:Aar L=0):
 ∃w K,Aau Tryz.prog 0 53 [ptr c 0] H w K∧w=thW L C∧Chg [c,sb] H K∧DhR K c sb u (thC L C):=by
 refine Aaq Beq Bl3 ?_
 intro Q hq1 hq2
 obtain⟨d,hd⟩:=h
 obtain⟨n,gc,hn⟩:=hd.g
 have lc:=Aaa.Bp9 gc
 obtain⟨v1,v2,v3,v4,v5,v6⟩:=hd.e
 have m73:=Ak9 d C.s n
 have m75:=A9y d C.s n
 have m72:=Azm d C.s n
 have ml:=At3 d C.s n
 have ms:=A3b d C.s n
 have len:=Adh d C.s n
 rw[v2]at m73
 rw[v5]at m75
 rw[v3]at m72
 rw[v1]at ml
 obtain⟨K0,hK0⟩:∃X,X=(H.alloc (.cells true false 68 (stl Abs) 43)).alloc (.cells true false 4 [.int .i64 0,.int .i64 0,.int .u64 0,.int .u32 0] 130):=⟨_,rfl⟩
 have k0:Aac H K0:=by rw[hK0];exact((Aac.refl H).alloc _).alloc _
 have n0:K0.n=H.n+2:=by rw[hK0];rfl
 have g0:K0.get H.n=some (.cells true false 68 (stl Abs) 43):=by rw[hK0];exact((Aac.refl _).alloc _).at_ (Aaa.Bp6 H _)
 have g1:K0.get (H.n+1)=some (.cells true false 4 [.int .i64 0,.int .i64 0,.int .u64 0,.int .u32 0] 130):=by rw[hK0];exact Aaa.Bp6 (H.alloc _) _
 have tM:=t24 (hd.sd.keeps k0) hd.ok
 have em:∀z,inl (Ab1 C.sd) z=[S64 (Ab1 C.sd).oc,S32 (Ab1 C.sd).nr,S32 (Ab1 C.sd).rv,z]:=fun _=>rfl
 simp only[em]at tM
 simp(disch:=first|assumption|omega|(simp only[LN]<;>omega)|(simp(disch:=first|assumption|omega|(simp only[LN]<;>omega))only[Aab,Aad];assumption))only[f53,P4,seval,gc,m73,Ajt,Aaz]
 rw[←hK0]
 refine Aag tM ?_
 rintro _ K ⟨z,rfl,nc⟩
 have oz:=Sl.one nc.c.s
 have g0K:=nc.k.at_ g0
 have g1K:=nc.k.at_ g1
 have gcK:=(k0.trans nc.k).at_ gc
 have nK:=nc.k.n
 have l0K:=Aaa.Bp9 g0K
 have l1K:=Aaa.Bp9 g1K
 have lcK:=Aaa.Bp9 gcK
 have kI:=(k0.trans nc.k).alloc (.cells true false 4 [S64 (Ab1 C.sd).oc,S32 (Ab1 C.sd).nr,S32 (Ab1 C.sd).rv,z] 46)
 have hno:thB C=false→thW L C=.tuple #[.agg (stl Abs).toArray,.agg (frl 0 0 [.int .u64 0,.int .u32 0]).toArray,.int .i64 4]∧thC L C=C:=fun e=>by unfold thW thC;rw[e];exact⟨rfl,rfl⟩
 have no:thB C=false→∀{fr:List Value} {Z:Aaa},Aac H Z→Z.get H.n=some (.cells true false 68 (stl Abs) 43)→Z.get (H.n+1)=some (.cells true false 4 [.int .i64 0,.int .i64 0,.int .u64 0,.int .u32 0] 130)→fr.getD 1 undef=ptr H.n 0→fr.getD 2 undef=ptr (H.n+1) 0→fr.getD 3 undef=.int .i64 4→Q .ret fr Z:=fun e fr Z kZ a b h1 h2 h3=>by
  rw[(hno e).1,(hno e).2]at hq2
  exact hq2 _ _ ⟨_,Amd a (Aaj _) b rfl h1 h2 h3,rfl,kZ.chg _,⟨d,hd.keeps kZ⟩⟩
 have hB:thB C=(Aj9 C.sd&& !C.tk):=rfl
 have nop:thB C=false→∀{fr:List Value} (o:AO),fr.getD 1 undef=ptr H.n 0→fr.getD 2 undef=ptr (H.n+1) 0→fr.getD 3 undef=.int .i64 4→Q .ret fr (((K.set H.n (.cells true false 68 (stl Abs) 43)).set (H.n+1) (.cells true false 4 [.int .i64 0,.int .i64 0,.int .u64 0,.int .u32 0] 130)).alloc o):=fun e fr o h1 h2 h3=>by
  have l1':H.n+1<(K.set H.n (.cells true false 68 (stl Abs) 43)).n:=by rw[Ab7];exact l1K
  have g1':=(Aaa.Bp8 K (show H.n+1≠H.n by omega) l0K (.cells true false 68 (stl Abs) 43)).trans g1K
  have kZ:=((((k0.trans nc.k).set (Nat.le_refl _) l0K (.cells true false 68 (stl Abs) 43)).set (by omega) l1' (.cells true false 4 [.int .i64 0,.int .i64 0,.int .u64 0,.int .u32 0] 130))).alloc o
  have ka:=(Aac.refl ((K.set H.n (.cells true false 68 (stl Abs) 43)).set (H.n+1) (.cells true false 4 [.int .i64 0,.int .i64 0,.int .u64 0,.int .u32 0] 130))).alloc o
  exact no e kZ (ka.at_ ((Aaa.Bp8 _ (by omega) l1' _).trans (Aaa.Bp7 g0K _))) (ka.at_ (Aaa.Bp7 g1' _)) h1 h2 h3
 cases hb:Aj9 C.sd with
 |false=>
  simp(disch:=first|assumption|omega|(simp only[LN]<;>omega)|(simp(disch:=first|assumption|omega|(simp only[LN]<;>omega))only[Aab,Aad];assumption))only[P4,seval,oz,O4,Ajt,Aaz,Aaj,Apw,Asr,g0K,g1K,Abh]
  exact nop (by rw[hB,hb];rfl) _ rfl rfl rfl
 |true=>
 cases ht:C.tk with
 |true=>
  rw[ht]at m75
  simp(disch:=first|assumption|omega|(simp only[LN]<;>omega)|(simp(disch:=first|assumption|omega|(simp only[LN]<;>omega))only[Aab,Aad];assumption))only[P4,seval,oz,O4,Ajt,Aaz,Aaj,Apw,Asr,g0K,g1K,Abh,gcK,m75]
  exact nop (by rw[hB,hb,ht];rfl) _ rfl rfl rfl
 |false=>
 rw[ht]at m75
 have hBt:thB C=true:=by rw[hB,hb,ht];rfl
 have e1:thW L C=.tuple #[.agg (stl (thS L C)).toArray,.agg (frl C.sd.cy C.ep (otl L (Ab1 C.sd) (thS L C))).toArray,.int .i64 0]:=by unfold thW;rw[hBt];rfl
 have e2:thC L C={C with nx:=some (thS L C)}:=by unfold thC;rw[hBt];rfl
 rw[e1,e2]at hq1 hq2
 have mo:=Aol hd.ok
 have tS:=t89 (s:=C.s) (x:=Ab1 C.sd) (cv:=z) (hl.keeps kI) he (nc.c.keeps ((Aac.refl K).alloc _)).s (by omega)
 have hul:u.l=[u.s,u.p,u.g,u.r]:=rfl
 simp only[em,hul]at tS
 simp(disch:=first|assumption|omega|(simp only[LN]<;>omega)|(simp(disch:=first|assumption|omega|(simp only[LN]<;>omega))only[Aab,Aad];assumption))only[P4,seval,oz,O4,gcK,m75,ml,ms,len]
 refine Aag tS ?_
 rintro _ X ⟨rfl,hX⟩
 rw[hX]
 obtain⟨T,hT⟩:∃T,T=thS L C:=⟨_,rfl⟩
 rw[show Ac5 L C.s (Ab1 C.sd) (Aka C.sd)=T from hT.symm]
 rw[←hT]at hq1 hq2
 have ef:∀a b,frl a b (otl L (Ab1 C.sd) T)=[.int .i64 a,.int .i64 b,S64 fun i=>decide (i<L.r.length)&&Aes L (Ab1 C.sd) T i,S32 T.po]:=fun _ _=>rfl
 rw[ef]at hq1 hq2
 have s76:=Aom d C.s n true
 have sN:=A90 {d with th:=true} C.s n T
 have len1:=Adh {d with th:=true} C.s n
 have lsb:sb<H.n:=by obtain⟨_,_,_,_,_,_,g,_⟩:=hd.sd;exact Aaa.Bp9 g
 obtain⟨v',hv'⟩:∃v':Dhv,v'={d with th:=true}:=⟨_,rfl⟩
 rw[←hv']at s76 sN len1
 have p73:(dhl v' C.s T)[73]? =some (ptr sb 0):=by rw[Ak9,hv'];exact congrArg (fun n=>some (ptr n 0)) v2
 have p72:(dhl v' C.s T)[72]? =some (.int .i64 C.ep):=by rw[Azm,hv'];exact congrArg (fun n=>some (Value.int .i64 n)) v3
 have hne:=hd.ne
 have cS:=Chg.set K lcK (.cells true false 145 (dhl v' C.s T) 74)
 have o1:Ot2 K [c]:=fun b hb o r z D T e=>by
  simp only[List.mem_cons,List.not_mem_nil,or_false]at hb
  subst hb;rw[gcK]at e;cases e;decide
 have aK:=(hd.sd.keeps (k0.trans nc.k)).oth cS (by simpa using fun e=>hne e.symm) o1
 obtain⟨_,_,_,_,_,_,gaK,_⟩:=hd.sd.keeps (k0.trans nc.k)
 unfold agl at gaK
 have lsK:=Aaa.Bp9 gaK
 have hsc:sb≠c:=fun e=>hne e.symm
 simp(disch:=first|assumption|omega|(simp only[LN]<;>omega)|(simp(disch:=first|assumption|omega|(simp only[LN]<;>omega))only[Aab,Aad];assumption))only[P4,seval,Ajt,Aaz,Aaj,Abc,Abh,gcK,O4,s76,sN,len,len1,p73,p72,gaK,hsc,lsK,Azh,g0K,g1K,lcK]
 obtain⟨F,hF⟩:∃F:AO,F=.cells true false 4 [.int .i64 C.sd.cy,.int .i64 C.ep,S64 fun i=>decide (i<L.r.length)&&Aes L (Ab1 C.sd) T i,S32 T.po] 130:=⟨_,rfl⟩
 obtain⟨K1,hK1⟩:∃X,X=K.set c (.cells true false 145 (dhl v' C.s T) 74):=⟨_,rfl⟩
 rw[←hF,←hK1]
 rw[←hK1]at cS aK
 have n1:K1.n=K.n:=by rw[hK1];exact Ab7 ..
 have gc1:K1.get c=some (.cells true false 145 (dhl v' C.s T) 74):=by rw[hK1];exact Aaa.Bp7 gcK _
 have g01:K1.get H.n=some (.cells true false 68 (stl Abs) 43):=by rw[hK1];exact(Aaa.Bp8 K (show H.n≠c by omega) lcK _).trans g0K
 have g11:K1.get (H.n+1)=some (.cells true false 4 [.int .i64 0,.int .i64 0,.int .u64 0,.int .u32 0] 130):=by rw[hK1];exact(Aaa.Bp8 K (show H.n+1≠c by omega) lcK _).trans g1K
 have l01:=Aaa.Bp9 g01
 have l11:=Aaa.Bp9 g11
 have c1:=(Chg.set K1 l01 (.cells true false 68 (stl T) 43)).mono (T:=[H.n,H.n+1]) (by simp)
 have l11':H.n+1<(K1.set H.n (.cells true false 68 (stl T) 43)).n:=by rw[Ab7];exact l11
 have c2:=c1.trans ((Chg.set _ l11' F).mono (T:=[H.n,H.n+1]) (by simp)) (by simp)
 have o2:Ot2 K1 [H.n,H.n+1]:=fun b hb o r z D T' e=>by
  simp only[List.mem_cons,List.not_mem_nil,or_false]at hb
  rcases hb with rfl|rfl
  ·rw[g01]at e;cases e;decide
  ·rw[g11]at e;cases e;decide
 obtain⟨K2,hK2⟩:∃X,X=(K1.set H.n (.cells true false 68 (stl T) 43)).set (H.n+1) F:=⟨_,rfl⟩
 rw[←hK2]
 rw[←hK2]at c2
 have gS:K2.get H.n=some (.cells true false 68 (stl T) 43):=by rw[hK2];exact(Aaa.Bp8 _ (show H.n≠H.n+1 by omega) l11' F).trans (Aaa.Bp7 g01 _)
 have gF:K2.get (H.n+1)=some F:=by rw[hK2];exact Aaa.Bp7 ((Aaa.Bp8 K1 (show H.n+1≠H.n by omega) l01 _).trans g11) F
 have gC:=c2.at_ gc1 (by simp;omega)
 have a2:=aK.oth c2 (by simp;omega) o2
 have kF:=(((Aac.refl K2).alloc (.cells true false 4 [S64 (Ab1 C.sd).oc,S32 (Ab1 C.sd).nr,S32 (Ab1 C.sd).rv,z] 46)).alloc (.cells true false 68 (stl T) 43)).alloc (.cells true false 2 [S64 fun i=>decide (i<L.r.length)&&Aes L (Ab1 C.sd) T i,S32 T.po] 54)
 have cF:=((((k0.trans nc.k).chg [c,sb]).trans (cS.mono (T:=[c,sb]) (by simp)) (by simp)).trans c2 (fun x hx=>by simp only[List.mem_cons,List.not_mem_nil,or_false]at hx;right;omega)).trans (kF.chg []) (by simp)
 exact⟨by simp,hq2 _ _ ⟨_,Amd (kF.at_ gS) (Aaj _) (kF.at_ (gF.trans (by rw[hF]))) rfl rfl rfl rfl,rfl,cF,⟨v',⟨by rw[hv'];exact v1,by rw[hv'];exact v2,by rw[hv'];exact v3,by rw[hv'];exact v4,by rw[hv'];exact v5,by rw[hv'];rfl⟩,⟨T,kF.at_ gC,fun t e=>by cases e;rfl⟩,a2.keeps kF,hd.ok⟩⟩⟩
end Go.AM.Fd

set_option maxRecDepth 20000
namespace Go.AM.Fd
open Go.Proofs Go.AM.F
theorem A0y{P:Program}{H:Aaa}{v:Value}{t e esz:Nat}(hu:P.underlying t=some (.slice e))(hz:P.cellsOf e=esz)(h:AR P H.get t [v]):∃rows,(SlC H esz v rows∧rows.length≤9223372036854775807)∧∀r∈rows,AR P H.get e r:=by
 obtain⟨rows,⟨hs,hl⟩,hr⟩:=Ah0 hu hz h
 refine⟨rows,⟨⟨hs,?_⟩,hl⟩,hr⟩
 rcases h.slice_inv hu with h2|⟨x,hx,h2⟩|⟨b,n,k,c,u,h2,h3,h4,_,h6,_⟩
 ·cases h2;exact .inl rfl
 ·cases h2
  obtain⟨b,o,q⟩:=x
  cases q with
  |none=>cases hx
  |some q=>exact .inr (.inl ⟨b,o,q,rfl⟩)
 ·cases h2
  rw[hz]at h6
  exact .inr (.inr ⟨b,n,k,_,_,c,u,rfl,h4,h6⟩)
theorem A6u(K:Aaa)(neg:Bool)(f g:Nat→Bool):Aam (.eqs [1,1] neg (.agg #[S64 f,S32 g]) (.agg #[S64 f,S32 g])) K=some (.bool (if neg then false else true),K):=by
 simp[Aam,Afv,eqC,S64,S32]
theorem Amo(s:Sta):Avs s s=true:=by unfold Avs;simp
end Go.AM.Fd

set_option maxRecDepth 100000
set_option maxHeartbeats 0
namespace Go.AM.F
def Bpg:List Value:=[(.string ByteArray.empty),(.int .i64 0),(.slice none 0 0),(.slice none 0 0),(.slice none 0 0),(.slice none 0 0),(.string ByteArray.empty),(.int .i64 0),(.slice none 0 0),(.slice none 0 0),(.slice none 0 0),(.slice none 0 0),(.string ByteArray.empty),(.int .i64 0),(.slice none 0 0),(.slice none 0 0),(.slice none 0 0),(.slice none 0 0),(.string ByteArray.empty),(.int .i64 0),(.slice none 0 0),(.slice none 0 0),(.slice none 0 0),(.slice none 0 0),(.string ByteArray.empty),(.int .i64 0),(.slice none 0 0),(.slice none 0 0),(.slice none 0 0),(.slice none 0 0)]
def Avo:TypeId→List Value
 |27=>[(.slice none 0 0),(.slice none 0 0),(.slice none 0 0),(.slice none 0 0)]
 |89=>[(.string ByteArray.empty),(.int .i64 0)]
 |90=>[(.string ByteArray.empty),(.int .i64 0)]
 |120=>[(.int .i64 0),(.bool false)]
 |87=>[(.string ByteArray.empty),(.int .i64 0),(.slice none 0 0),(.slice none 0 0),(.slice none 0 0),(.slice none 0 0)]
 |_=>[]
def Avp:TypeId→Value
 |_=>undef
def Avq:TypeId→List Nat
 |_=>[]
def Avr:Nat→TypeId→List Value
 |1,3=>[(.int .i64 0)]
 |6,9=>[(.string ByteArray.empty),(.string ByteArray.empty),(.string ByteArray.empty),(.string ByteArray.empty),(.string ByteArray.empty),(.string ByteArray.empty)]
 |2,89=>[(.string ByteArray.empty),(.int .i64 0),(.string ByteArray.empty),(.int .i64 0)]
 |3,90=>[(.string ByteArray.empty),(.int .i64 0),(.string ByteArray.empty),(.int .i64 0),(.string ByteArray.empty),(.int .i64 0)]
 |2,3=>[(.int .i64 0),(.int .i64 0)]
 |2,120=>[(.int .i64 0),(.bool false),(.int .i64 0),(.bool false)]
 |1,120=>[(.int .i64 0),(.bool false)]
 |5,87=>Bpg
 |_,_=>[]
noncomputable def f86:Aao:=by
 refine(fun(_:Cz Avo Avp Avq Avr Go.Proofs.Tryz.prog 0 [0,1,4,5,6,10,18] 86 ?a)=>?a) ?h
 case h=>
 intro zc zv zk zr hc hv hk hr
 conv=>lhs;cbv;try simp only[hc,hv,hk,hr,Avo,Avp,Avq,Avr]
theorem Bdh:Aap Go.Proofs.Tryz.prog 0 [0,1,4,5,6,10,18] 86=some f86:=by kernel_rfl
theorem Bkw:Aaf Go.Proofs.Tryz.prog 86 2=true:=by kernel_rfl
noncomputable def f84:Aao:=by
 refine(fun(_:Cz Avo Avp Avq Avr Go.Proofs.Tryz.prog 0 [0,2,3,4,8] 84 ?a)=>?a) ?h
 case h=>
 intro zc zv zk zr hc hv hk hr
 conv=>lhs;cbv;try simp only[hc,hv,hk,hr,Avo,Avp,Avq,Avr]
theorem Bdi:Aap Go.Proofs.Tryz.prog 0 [0,2,3,4,8] 84=some f84:=by kernel_rfl
theorem Bkx:Aaf Go.Proofs.Tryz.prog 84 1=true:=by kernel_rfl
noncomputable def f48:Aao:=by
 refine(fun(_:Cz Avo Avp Avq Avr Go.Proofs.Tryz.prog 0 [0,1,2,3,4,5,6,7,8,9,10,31,35,44,48,57,62,92] 48 ?a)=>?a) ?h
 case h=>
 intro zc zv zk zr hc hv hk hr
 conv=>lhs;cbv;try simp only[hc,hv,hk,hr,Avo,Avp,Avq,Avr]
theorem Bdj:Aap Go.Proofs.Tryz.prog 0 [0,1,2,3,4,5,6,7,8,9,10,31,35,44,48,57,62,92] 48=some f48:=by kernel_rfl
theorem Bky:Aaf Go.Proofs.Tryz.prog 48 2=true:=by kernel_rfl
noncomputable def f20:Aao:=by
 refine(fun(_:Cz Avo Avp Avq Avr Go.Proofs.Tryz.prog 0 [0,1,2,3,4,7,12,22] 20 ?a)=>?a) ?h
 case h=>
 intro zc zv zk zr hc hv hk hr
 conv=>lhs;cbv;try simp only[hc,hv,hk,hr,Avo,Avp,Avq,Avr]
theorem Bdk:Aap Go.Proofs.Tryz.prog 0 [0,1,2,3,4,7,12,22] 20=some f20:=by kernel_rfl
theorem Bkz:Aaf Go.Proofs.Tryz.prog 20 1=true:=by kernel_rfl
noncomputable def f27:Aao:=by
 refine(fun(_:Cz Avo Avp Avq Avr Go.Proofs.Tryz.prog 0 [0] 27 ?a)=>?a) ?h
 case h=>
 intro zc zv zk zr hc hv hk hr
 conv=>lhs;cbv;try simp only[hc,hv,hk,hr,Avo,Avp,Avq,Avr]
theorem Bdl:Aap Go.Proofs.Tryz.prog 0 [0] 27=some f27:=by kernel_rfl
theorem Bk0:Aaf Go.Proofs.Tryz.prog 27 0=true:=by kernel_rfl
end Go.AM.F
