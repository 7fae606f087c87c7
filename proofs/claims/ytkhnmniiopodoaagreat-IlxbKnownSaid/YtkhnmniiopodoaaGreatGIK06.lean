/- Part of the proof. -/
import Derived.Test.YtkhnmniiopodoaaGreatGIK05
set_option linter.unusedSimpArgs false
set_option linter.unusedVariables false
set_option maxRecDepth 8000
namespace Go.AM.Fd
open Nat (reduceAdd reduceEqDiff reduceLT reduceLeDiff reduceMul reduceSub)
open Go.Proofs Go.AM.F
def comA(L:Ly)(x:Inp)(s:Sta)(kd n:Int):Sta:=
 if okC L kd n then(if kd=1 then setA L x s n.toNat else if kd=2 then canA L x s n.toNat else movA L x s n.toNat)else s
theorem comA_eq{L:Ly}{x:Inp}{s:Sta}{kd n:Int}:comA L x s kd n=comD L x s kd n:=by
 unfold comA comD
 by_cases h:okC L kd n=true
 ·rw[if_pos h,if_pos h]
  have h':=h
  unfold okC at h'
  simp only[Bool.and_eq_true,decide_eq_true_eq]at h'
  have hn:((n.toNat:Nat):Int)=n:=by omega
  by_cases h1:kd=1
  ·subst h1
   unfold setA
   cases setD L x s n.toNat<;>simp
  ·by_cases h2:kd=2
   ·subst h2
    unfold canA
    by_cases h3:((s.lo n.toNat&& !s.us n.toNat)&& !s.ca n.toNat)=true<;>simp[h3]
   ·have h3:kd=3:=by omega
    subst h3
    unfold movA
    rw[hn]
    by_cases h4:(!hasB x.oc (L.p.getD n.toNat ([],0)).2 && !needD L s n)=true<;>simp[h4]
 ·rw[if_neg h,if_neg h]
theorem e_nn:eqA 4 .nilFunc .nilFunc=some true:=rfl
theorem e_fn(a:Fn)(b c:Array Value):eqA 4 (.func a b c) .nilFunc=some false:=rfl
theorem fillF(a b c:Fn)(d e f g h i:Array Value):fillA [.nilFunc,.nilFunc,.nilFunc,.nilFunc] [(1,1,.func a d e),(2,1,.func b f g),(3,1,.func c h i)]=some [.nilFunc,.func a d e,.func b f g,.func c h i]:=rfl
theorem one_fn(a:Fn)(b c:Array Value):(Value.func a b c).oneCell'=true:=rfl
theorem o_fn(a:Fn)(b c:Array Value):one1 (Value.func a b c)=True:=by simp[one1,one_fn]
theorem one_nf:(Value.nilFunc).oneCell'=true:=rfl
theorem o_nf:one1 (Value.nilFunc)=True:=by simp[one1,one_nf]
set_option maxHeartbeats 4000000 in
theorem t48{K H:AHeap}{c b:Nat}{s:Sta}{x:Inp}{cv:Value}{us:Nat→Bool}{L:Ly}(h:CyR H c b s x cv us)(hK:MaA K b L)(kK:Keeps K H)(hc:K.n≤c)(he:checkE L=0)(hz:TZ s){kd n:Int}(hkd:0≤kd)(hkd2:kd<256):
 ∃w H',ARun Tryz.prog 0 48 [ptr c 0,.agg #[.int .u8 kd,.int .i64 n]] H w H'∧Chg [c] H H'∧CyR H' c b (comD L x s kd n) x cv us:=by
 rw[←comA_eq]
 refine walk2 f48_ok f48_n ?_
 intro Q hq1 hq2
 have lr:=(may_lim (check_may he)).r
 have lpp:=(may_lim (check_may he)).p
 obtain⟨vl,vi,ls,own,room,T,gbK,slK,okK,siK⟩:=hK.x
 have gb:=kK.at_ gbK
 have isl:=Sl.is slK
 have lenl:lenS vl=L.r.length:=by have:=Sl.len slK;simpa[arows]using this
 have isi:=Sl.is siK
 have leni:lenS vi=L.p.length:=by have:=IL.len siK;simpa using this
 have gc:=h
 unfold CyR at gc
 obtain⟨fs,hfs⟩:∃fs:List Value,fs=[.nilFunc,.func (.func 84) #[ptr c 0] #[],.func (.func 85) #[ptr c 0] #[],.func (.func 86) #[ptr c 0] #[]]:=⟨_,rfl⟩
 obtain⟨K0,hK0⟩:∃X,X=(H.alloc (.cells true false 2 [.int .u8 kd,.int .i64 n] 39)).alloc (.cells true false 4 fs 139):=⟨_,rfl⟩
 have k0:Keeps H K0:=by rw[hK0];exact((Keeps.refl H).alloc _).alloc _
 have gm0:K0.get H.n=some (.cells true false 2 [.int .u8 kd,.int .i64 n] 39):=by rw[hK0];exact((Keeps.refl _).alloc _).at_ (AHeap.get_alloc_new H _)
 have gf0:K0.get (H.n+1)=some (.cells true false 4 fs 139):=by rw[hK0];exact AHeap.get_alloc_new (H.alloc _) _
 have gc0:=k0.at_ gc
 have gb0:=k0.at_ gb
 have h0:CyR K0 c b s x cv us:=gc0
 have l0:=AHeap.get_lt gm0
 have l1:=AHeap.get_lt gf0
 unfold amc at gb0
 subst hfs
 simp(disch:=first|assumption|omega|(simp only[LN]<;>omega)|(simp(disch:=first|assumption|omega|(simp only[LN]<;>omega))only[row_alloc,row_set];assumption))only[f48,W_block,P3,seval,initFr,clsA,fillF,one_fn,o_fn,o_nf,one_nf]
 rw[←hK0]
 simp(disch:=first|assumption|omega)only[W_block,P3,seval,initFr,clsA,gc0,cyl_0,gb0,isl,lenl]
 have off:okC L kd n=false→comA L x s kd n=s:=fun e=>by unfold comA;rw[e];rfl
 have kKK:=kK.trans k0
 by_cases hk1:kd=1
 ·subst hk1
  have t1:Int.toNat 1=1:=rfl
  have w1:IntKind.i64.wrap 1=1:=by rw[wrap_i64 (by omega) (by omega)]
  have q1:((1:Int)==3)=false:=rfl
  have r1:(1:Int)<4:=by omega
  have z1:(0:Int)≤1:=by omega
  by_cases g1:0≤n
  ·by_cases g2:n<((L.r.length:Nat):Int)
   ·obtain⟨m,rfl⟩:∃m:Nat,n=(m:Int):=⟨n.toNat,by omega⟩
    have g3:m<L.r.length:=by omega
    have mt:Int.toNat (m:Int)=m:=by omega
    have hok:okC L 1 (m:Int)=true:=by unfold okC;simp;omega
    have hres:comA L x s 1 (m:Int)=setA L x s m:=by unfold comA;rw[if_pos hok,mt];simp
    simp(disch:=first|assumption|omega)only[W_block,P3,seval,initFr,clsA,gm0,gf0,gc0,cyl_0,gb0,isl,lenl,isi,leni,l0,l1,t1,w1,q1,r1,z1,g1,g2,a_iaddrp,Nat.mul_one,Nat.zero_add,e_nn,e_fn,st_callv,toList_arr,List.nil_append,List.append_nil]
    refine callK (t84 h0 (hK.keeps kKK) he g3) ?_
    rintro _ X ⟨cX,hX⟩
    simp(disch:=first|assumption|omega)only[W_block,P3,seval,initFr,clsA]
    exact hq1 _ _ ⟨_,rfl,(k0.chg [c]).trans cX (by simp),by rw[hres];exact hX⟩
   ·have hok:okC L 1 n=false:=by unfold okC;simp;omega
    simp(disch:=first|assumption|omega)only[W_block,P3,seval,initFr,clsA,gm0,gf0,gc0,cyl_0,gb0,isl,lenl,isi,leni,l0,l1,t1,w1,q1,r1,z1,g1,g2,a_iaddrp,Nat.mul_one,Nat.zero_add,e_nn,e_fn]
    exact hq1 _ _ ⟨_,rfl,k0.chg [c],by rw[off hok];exact h0⟩
  ·have hok:okC L 1 n=false:=by unfold okC;simp;omega
   simp(disch:=first|assumption|omega)only[W_block,P3,seval,initFr,clsA,gm0,gf0,gc0,cyl_0,gb0,isl,lenl,isi,leni,l0,l1,t1,w1,q1,r1,z1,g1,a_iaddrp,Nat.mul_one,Nat.zero_add,e_nn,e_fn]
   exact hq1 _ _ ⟨_,rfl,k0.chg [c],by rw[off hok];exact h0⟩
 by_cases hk2:kd=2
 ·subst hk2
  have t2:Int.toNat 2=2:=rfl
  have w2:IntKind.i64.wrap 2=2:=by rw[wrap_i64 (by omega) (by omega)]
  have q2:((2:Int)==3)=false:=rfl
  have r2:(2:Int)<4:=by omega
  have z2:(0:Int)≤2:=by omega
  by_cases g1:0≤n
  ·by_cases g2:n<((L.r.length:Nat):Int)
   ·obtain⟨m,rfl⟩:∃m:Nat,n=(m:Int):=⟨n.toNat,by omega⟩
    have g3:m<L.r.length:=by omega
    have mt:Int.toNat (m:Int)=m:=by omega
    have hok:okC L 2 (m:Int)=true:=by unfold okC;simp;omega
    have hres:comA L x s 2 (m:Int)=canA L x s m:=by unfold comA;rw[if_pos hok,mt];simp
    simp(disch:=first|assumption|omega)only[W_block,P3,seval,initFr,clsA,gm0,gf0,gc0,cyl_0,gb0,isl,lenl,isi,leni,l0,l1,t2,w2,q2,r2,z2,g1,g2,a_iaddrp,Nat.mul_one,Nat.zero_add,e_nn,e_fn,st_callv,toList_arr,List.nil_append,List.append_nil]
    refine callK (t85 h0 hK kKK hc he hz g3) ?_
    rintro _ X ⟨cX,hX⟩
    simp(disch:=first|assumption|omega)only[W_block,P3,seval,initFr,clsA]
    exact hq1 _ _ ⟨_,rfl,(k0.chg [c]).trans cX (by simp),by rw[hres];exact hX⟩
   ·have hok:okC L 2 n=false:=by unfold okC;simp;omega
    simp(disch:=first|assumption|omega)only[W_block,P3,seval,initFr,clsA,gm0,gf0,gc0,cyl_0,gb0,isl,lenl,isi,leni,l0,l1,t2,w2,q2,r2,z2,g1,g2,a_iaddrp,Nat.mul_one,Nat.zero_add,e_nn,e_fn]
    exact hq1 _ _ ⟨_,rfl,k0.chg [c],by rw[off hok];exact h0⟩
  ·have hok:okC L 2 n=false:=by unfold okC;simp;omega
   simp(disch:=first|assumption|omega)only[W_block,P3,seval,initFr,clsA,gm0,gf0,gc0,cyl_0,gb0,isl,lenl,isi,leni,l0,l1,t2,w2,q2,r2,z2,g1,a_iaddrp,Nat.mul_one,Nat.zero_add,e_nn,e_fn]
   exact hq1 _ _ ⟨_,rfl,k0.chg [c],by rw[off hok];exact h0⟩
 by_cases hk3:kd=3
 ·subst hk3
  have t3:Int.toNat 3=3:=rfl
  have w3:IntKind.i64.wrap 3=3:=by rw[wrap_i64 (by omega) (by omega)]
  have q3:((3:Int)==3)=true:=rfl
  have r3:(3:Int)<4:=by omega
  have z3:(0:Int)≤3:=by omega
  by_cases g1:0≤n
  ·by_cases g2:n<((L.p.length:Nat):Int)
   ·obtain⟨m,rfl⟩:∃m:Nat,n=(m:Int):=⟨n.toNat,by omega⟩
    have g3:m<L.p.length:=by omega
    have mt:Int.toNat (m:Int)=m:=by omega
    have hok:okC L 3 (m:Int)=true:=by unfold okC;simp;omega
    have hres:comA L x s 3 (m:Int)=movA L x s m:=by unfold comA;rw[if_pos hok,mt];simp
    simp(disch:=first|assumption|omega)only[W_block,P3,seval,initFr,clsA,gm0,gf0,gc0,cyl_0,gb0,isl,lenl,isi,leni,l0,l1,t3,w3,q3,r3,z3,g1,g2,a_iaddrp,Nat.mul_one,Nat.zero_add,e_nn,e_fn,st_callv,toList_arr,List.nil_append,List.append_nil]
    refine callK (t86 h0 (hK.keeps kKK) he g3) ?_
    rintro _ X ⟨cX,hX⟩
    simp(disch:=first|assumption|omega)only[W_block,P3,seval,initFr,clsA]
    exact hq1 _ _ ⟨_,rfl,(k0.chg [c]).trans cX (by simp),by rw[hres];exact hX⟩
   ·have hok:okC L 3 n=false:=by unfold okC;simp;omega
    simp(disch:=first|assumption|omega)only[W_block,P3,seval,initFr,clsA,gm0,gf0,gc0,cyl_0,gb0,isl,lenl,isi,leni,l0,l1,t3,w3,q3,r3,z3,g1,g2,a_iaddrp,Nat.mul_one,Nat.zero_add,e_nn,e_fn]
    exact hq1 _ _ ⟨_,rfl,k0.chg [c],by rw[off hok];exact h0⟩
  ·have hok:okC L 3 n=false:=by unfold okC;simp;omega
   simp(disch:=first|assumption|omega)only[W_block,P3,seval,initFr,clsA,gm0,gf0,gc0,cyl_0,gb0,isl,lenl,isi,leni,l0,l1,t3,w3,q3,r3,z3,g1,a_iaddrp,Nat.mul_one,Nat.zero_add,e_nn,e_fn]
   exact hq1 _ _ ⟨_,rfl,k0.chg [c],by rw[off hok];exact h0⟩
 have hok:okC L kd n=false:=by unfold okC;simp;omega
 have q3:(kd==3)=false:=by simp[hk3]
 have wk:IntKind.i64.wrap kd=kd:=by rw[wrap_i64 (by omega) (by omega)]
 by_cases hk0:kd=0
 ·subst hk0
  have t0:Int.toNat 0=0:=rfl
  have r0:(0:Int)<4:=by omega
  simp(disch:=first|assumption|omega)only[W_block,P3,seval,initFr,clsA,gm0,gf0,gc0,cyl_0,gb0,isl,lenl,isi,leni,l0,l1,q3,wk,t0,r0,a_iaddrp,Nat.mul_one,Nat.zero_add,e_nn,e_fn]
  exact hq1 _ _ ⟨_,rfl,k0.chg [c],by rw[off hok];exact h0⟩
 ·have r4:¬kd<4:=by omega
  simp(disch:=first|assumption|omega)only[W_block,P3,seval,initFr,clsA,gm0,gf0,gc0,cyl_0,gb0,isl,lenl,isi,leni,l0,l1,q3,wk,r4]
  exact hq1 _ _ ⟨_,rfl,k0.chg [c],by rw[off hok];exact h0⟩
end Go.AM.Fd

set_option maxRecDepth 8000
namespace Go.AM.Fd
open Go.Proofs Go.AM.F
structure SlC (H:AHeap) (z:Nat) (v:Value) (rows:List (List Value)):Prop where
 s:Sl H z v rows
 c:v=.slice none 0 0∨(∃b o q,v=.slice (some ⟨b,o,some q⟩) 0 0)∨∃b n k o r c u,v=slc b 0 n k∧n≤k∧H.get b=some (.cells o r z c u)
theorem SlC.keeps{H K:AHeap}{z:Nat}{v:Value}{rows:List (List Value)}(h:SlC H z v rows)(k:Keeps H K):SlC K z v rows:=by
 refine⟨h.s.keeps k,?_⟩
 rcases h.c with e|e|⟨b,n,m,o,r,c,u,e1,e2,e3⟩
 ·exact .inl e
 ·exact .inr (.inl e)
 ·exact .inr (.inr ⟨b,n,m,o,r,c,u,e1,e2,k.at_ e3⟩)
theorem SlC.pre{H:AHeap}{z:Nat}{v:Value}{rows:List (List Value)}(h:SlC H z v rows){i:Nat}{kd:IntKind}(hi:i≤rows.length):∃w,(∀K,Keeps H K→asem (.slsl z v none (some (.int kd (i:Nat))) none) K=some (w,K))∧Sl H z w (rows.take i):=by
 have hr:∀r∈rows.take i,r.length=z:=fun r hm=>h.s.row r (List.mem_of_mem_take hm)
 have hl:=h.s.len
 rcases h.c with rfl|⟨b,o,q,rfl⟩|⟨b,n,k,o,r,c,u,rfl,e2,e3⟩
 ·have:rows=[]:=List.eq_nil_of_length_eq_zero hl.symm
  subst this
  have:i=0:=by simpa using hi
  subst this
  exact⟨_,fun _ _=>a_slsl_nil ⟨0,0,0,bnd_none 0 0,bnd_some kd 0 0 0 (Nat.le_refl _),bnd_none 0 0⟩,Sl.nil _ _⟩
 ·have:rows=[]:=List.eq_nil_of_length_eq_zero hl.symm
  subst this
  have:i=0:=by simpa using hi
  subst this
  refine⟨_,fun K _=>?_,h.s⟩
  have h1:=bnd_none 0 0
  have h2:=bnd_some kd 0 0 0 (Nat.le_refl _)
  simp only[asem,h1,h2,and_self,if_true]
 ·have hn:n=rows.length:=hl
  subst hn
  refine⟨_,fun K kk=>a_slsl (kk.at_ e3) (bnd_none _ _) (bnd_some kd i rows.length k (by omega)) (bnd_none 0 i),⟨⟨_,_,by rw[List.length_take,Nat.min_eq_left hi,Nat.sub_zero];rfl⟩,hr,?_⟩⟩
  have hel:=h.s.el
  simp only[elemsA,slc,e3]at hel
  have hf:rows.flatten.length=rows.length*z:=flat_len h.s.row
  have hle:i*z≤rows.length*z:=Nat.mul_le_mul_right _ hi
  split at hel
  ·rename_i hc
   rw[Option.some.injEq,List.drop_zero]at hel
   simp only[elemsA,slc,e3,Nat.zero_mul,Nat.add_zero,Nat.zero_add,Nat.sub_zero]
   rw[if_pos (by omega),List.drop_zero]
   congr 1
   have e:rows.flatten=(rows.take i).flatten++(rows.drop i).flatten:=by rw[←List.flatten_append,List.take_append_drop]
   have hl2:(rows.take i).flatten.length=i*z:=by rw[flat_len hr,List.length_take,Nat.min_eq_left hi]
   have e4:c.take (i*z)=(c.take (rows.length*z)).take (i*z):=by rw[List.take_take,Nat.min_eq_left hle]
   rw[e4,hel,e,←hl2,List.take_left]
  ·cases hel
theorem fillG(z0 u a:Value)(zs zi S I:List Value)(h1:zs.length=68)(h2:zi.length=4)(h3:S.length=68)(h4:I.length=4)(ha:a.cells.toList=[a]):
 fillA (z0::(zs++(zi++[u]))) [(0,1,a),(1,68,.agg S.toArray),(69,4,.agg I.toArray)]=some (a::(S++(I++[u]))):=by
 have c1:(Value.agg S.toArray).cells.toList=S:=rfl
 have c2:(Value.agg I.toArray).cells.toList=I:=rfl
 rw[fill_cons,ha,if_pos ⟨rfl,by simp⟩]
 have e1:(z0::(zs++(zi++[u]))).take 0++[a]++(z0::(zs++(zi++[u]))).drop (0+1)=a::(zs++(zi++[u])):=by simp
 rw[e1,fill_cons,c1,if_pos ⟨h3,by simp[h1]⟩]
 have e2:(a::(zs++(zi++[u]))).take 1++S++(a::(zs++(zi++[u]))).drop (1+68)=(a::S)++(zi++[u]):=by
  have:(a::(zs++(zi++[u]))).drop (1+68)=zi++[u]:=by
   rw[Nat.add_comm,List.drop_succ_cons,←h1,List.drop_left]
  rw[this];simp
 rw[e2,fill_cons,c2,if_pos ⟨h4,by simp[h2,h3]⟩]
 have e3:((a::S)++(zi++[u])).take 69=a::S:=by
  have:(69:Nat)=(a::S).length:=by simp[h3]
  rw[this,List.take_left]
 have e4:((a::S)++(zi++[u])).drop (69+4)=[u]:=by
  have e:(a::S)++(zi++[u])=((a::S)++zi)++[u]:=by simp
  have:(69+4:Nat)=((a::S)++zi).length:=by simp[h3,h2]
  rw[e,this,List.drop_left]
 rw[e3,e4]
 simp[fillA]
theorem Z74K_z:Z74K=Value.pointer none::((([.int .u64 0,.int .u64 0,.int .u64 0]:List Value)++List.replicate 64 (.int .u8 0)++[.int .u32 0])++(([.int .u64 0,.int .u32 0,.int .u32 0,.slice none 0 0]:List Value)++[.int .u64 0])):=rfl
theorem fillC(b:Nat)(s:Sta)(x:Inp)(cv:Value):fillA Z74K [(0,1,ptr b 0),(1,68,.agg (stl s).toArray),(69,4,.agg #[S64 x.oc,S32 x.nr,S32 x.rv,cv])]=some (cyl b s x cv fun _=>false):=by
 have e:(#[S64 x.oc,S32 x.nr,S32 x.rv,cv]:Array Value)=[S64 x.oc,S32 x.nr,S32 x.rv,cv].toArray:=rfl
 rw[Z74K_z,e,fillG _ _ _ _ _ _ _ (by simp) rfl (stl_len s) rfl rfl,s_zero]
 rfl
theorem cyl_one{b:Nat}{s:Sta}{x:Inp}{cv:Value}{us:Nat→Bool}(hc:isS cv=true):(cyl b s x cv us).all Value.oneCell'=true:=by
 show(true&&(stl s++[S64 x.oc,S32 x.nr,S32 x.rv,cv,S64 us]).all Value.oneCell')=true
 rw[List.all_append,stl_one]
 have:cv.oneCell'=true:=by
  cases cv with
  |slice a n k=>rfl
  |_=>cases hc
 simp[this,one_s64,one_s32]
theorem tz_tidy(L:Ly)(s:Sta):TZ (tidyS L s):=by
 intro j h
 show(if _ then _ else _)=0
 rw[if_neg]
 have h':(s.ca j&&(s.lo j&&lowP L.r.length j))=false:=h
 rw[h'];simp
theorem tz_com{L:Ly}{x:Inp}{s:Sta}{kd n:Int}(h:TZ s):TZ (comD L x s kd n):=by
 intro j
 have hj:=h j
 unfold comD
 repeat' split
 all_goals first|exact hj|skip
 all_goals
  intro h2
  simp only[Bool.or_eq_false_iff,decide_eq_false_iff_not]at h2
  show upd _ _ _ j=0
  unfold upd
  rw[if_neg h2.2];exact hj h2.1
theorem tz_cmd{L:Ly}{x:Inp}:∀{cs:List (Int×Int)} {s:Sta},TZ s→TZ (cmdD L x s cs)
 |[],s,h=>h
 |c::cs,s,h=>tz_cmd (cs:=cs) (tz_com h)
end Go.AM.Fd

set_option maxRecDepth 8000
namespace Go.AM.Fd
open Nat (reduceAdd reduceEqDiff reduceLT reduceLeDiff reduceMul reduceSub)
open Go.Proofs Go.AM.F
set_option maxHeartbeats 8000000 in
theorem t18{H:AHeap}{b:Nat}{L:Ly}{s:Sta}{x:Inp}{cv:Value}{cs:List (Int×Int)}(hm:MaA H b L)(he:checkE L=0)(hc:SlC H 2 cv (cs.map cRow))(hcl:cs.length≤1000000)(hk:∀c∈cs,0≤c.1∧c.1<256):
 ∃w H',ARun Tryz.prog 0 18 [ptr b 0,.agg (stl s).toArray,.agg (inl x cv).toArray] H w H'∧w=.tuple #[.agg (stl (stepD L s x cs)).toArray,.agg #[S64 (fun i=>decide (i<L.r.length)&&proD L x (stepD L s x cs) i),S32 (stepD L s x cs).po]]∧H'=H:=by
 suffices h':∃w H',ARun Tryz.prog 0 18 [ptr b 0,.agg (stl s).toArray,.agg (inl x cv).toArray] H w H'∧w=.tuple #[.agg (stl (stepD L s x cs)).toArray,.agg #[S64 (fun i=>decide (i<L.r.length)&&proD L x (stepD L s x cs) i),S32 (stepD L s x cs).po]]∧Keeps H H' by
  obtain⟨_,_,a,rfl,k⟩:=h'
  exact⟨_,_,a.gc0 k (.inr (NV.tuple_of (.cons (nv_stl _ _) (.cons (NV.agg_of (l:=[S64 (fun i=>decide (i<L.r.length)&&proD L x (stepD L s x cs) i),S32 (stepD L s x cs).po]) (NL.plain rfl)) .nil)))),rfl,rfl⟩
 refine walk2 f18_ok f18_n ?_
 intro Q hq1 hq2
 have lr:=(may_lim (check_may he)).r
 obtain⟨vl,vi,ls,own,room,T,gb,sl,ok,si⟩:=hm.x
 have isl:=Sl.is sl
 have lenl:lenS vl=L.r.length:=by have:=Sl.len sl;simpa[arows]using this
 have isc:=Sl.is hc.s
 have onec:=Sl.one hc.s
 have clen:lenS cv=cs.length:=by have:=Sl.len hc.s;simpa using this
 have hinl:inl x cv=[S64 x.oc,S32 x.nr,S32 x.rv,cv]:=rfl
 obtain⟨K0,hK0⟩:∃X,X=(((H.alloc (.cells true false 68 (stl s) 37)).alloc (.cells true false 4 (inl x cv) 42)).alloc (.cells true false 68 (stl Sta0) 37)).alloc (.cells true false 2 [.int .u64 0,.int .u32 0] 68):=⟨_,rfl⟩
 have k0:Keeps H K0:=by rw[hK0];exact((((Keeps.refl H).alloc _).alloc _).alloc _).alloc _
 have n0:K0.n=H.n+4:=by rw[hK0];rfl
 have gs0:K0.get H.n=some (.cells true false 68 (stl s) 37):=by rw[hK0];exact((((Keeps.refl _).alloc _).alloc _).alloc _).at_ (AHeap.get_alloc_new H _)
 have gi0:K0.get (H.n+1)=some (.cells true false 4 (inl x cv) 42):=by rw[hK0];exact(((Keeps.refl _).alloc _).alloc _).at_ (AHeap.get_alloc_new (H.alloc _) _)
 have gw0:K0.get (H.n+2)=some (.cells true false 68 (stl Sta0) 37):=by rw[hK0];exact((Keeps.refl _).alloc _).at_ (AHeap.get_alloc_new ((H.alloc _).alloc _) _)
 have go0:K0.get (H.n+3)=some (.cells true false 2 [.int .u64 0,.int .u32 0] 68):=by rw[hK0];exact AHeap.get_alloc_new (((H.alloc _).alloc _).alloc _) _
 have gb0:=k0.at_ gb
 have l0:=AHeap.get_lt gs0
 have l1:=AHeap.get_lt gi0
 have tT:=t19 (hm.keeps k0) lr s
 unfold amc at gb gb0
 have cl1:=cyl_one (b:=b) (s:=tidyS L s) (x:=x) (us:=fun _=>false) isc
 rw[hinl]at hK0 gi0
 rw[hinl]
 simp(disch:=first|assumption|omega|(simp only[LN]<;>omega)|(simp(disch:=first|assumption|omega|(simp only[LN]<;>omega))only[row_alloc,row_set];assumption))only[f18,W_block,P3,seval,initFr,clsA,stl_one,stl_len,rng68,onec,o_s64,o_s32,one_s64,one_s32,Z68K_z]
 simp only[←hK0]
 refine callK tT ?_
 rintro _ X ⟨rfl,hX⟩
 rw[hX]
 obtain⟨s0,hs0e⟩:∃t,t=tidyS L s:=⟨_,rfl⟩
 rw[←hs0e]at cl1 ⊢
 obtain⟨K1,hK1⟩:∃X,X=K0.alloc (.cells true false 74 (cyl b s0 x cv s0.us) 111):=⟨_,rfl⟩
 have k1:Keeps K0 K1:=by rw[hK1];exact(Keeps.refl K0).alloc _
 have gc1:CyR K1 (H.n+4) b s0 x cv s0.us:=by rw[hK1,←n0];exact AHeap.get_alloc_new K0 _
 simp(disch:=first|assumption|omega|(simp only[LN]<;>omega)|(simp(disch:=first|assumption|omega|(simp only[LN]<;>omega))only[row_alloc,row_set];assumption))only[P3,seval,initFr,clsA,gs0,gi0,l0,l1,rng68,fillC,cl1,cyl_len,cyl_2,cys_73,o_s64,one_s64]
 rw[←hK1]
 have hmn:min ((lenS cv:Nat):Int) 8=((min cs.length 8:Nat):Int):=by rw[clen];omega
 obtain⟨cw,hcw0,slw0⟩:=hc.pre (i:=min cs.length 8) (kd:=.i64) (by rw[List.length_map];omega)
 have hcw:=hcw0 _ (k0.trans k1)
 obtain⟨ds,hds⟩:∃ds,ds=cs.take 8:=⟨_,rfl⟩
 have slw:CL H cw ds:=by
  have e:(cs.map cRow).take (min cs.length 8)=ds.map cRow:=by
   rw[hds,List.map_take,List.take_eq_take_iff];simp;omega
  rw[e]at slw0;exact slw0
 have lends:ds.length=min cs.length 8:=by rw[hds,List.length_take,Nat.min_comm]
 have isw:=Sl.is slw
 have lenw:=slw.len
 rw[←lends]at hmn hcw
 have ld8:ds.length≤8:=by omega
 simp(disch:=first|assumption|omega)only[P3,seval,initFr,clsA,hmn,hcw,isw,lenw]
 obtain⟨A2,hA2⟩:∃v:Value,v=.agg (stl s).toArray:=⟨_,rfl⟩
 obtain⟨A4,hA4⟩:∃v:Value,v=.agg #[S64 x.oc,S32 x.nr,S32 x.rv,cv]:=⟨_,rfl⟩
 rw[W_block,←hA2,←hA4,n0]
 refine W_loop2 (fun q fr X=>∃i x8 x16,fr=[ptr b 0,A2,A4,ptr H.n 0,ptr (H.n+1) 0,ptr (H.n+2) 0,ptr (H.n+3) 0,ptr (H.n+4) 0,x8,undef,undef,undef,.bool false,cw,.int .i64 ((ds.length:Nat):Int),.int .i64 ((i:Nat):Int),x16,undef,undef,undef,undef,undef,undef,undef,undef]∧
  Chg [H.n+4] K1 X∧CyR X (H.n+4) b (cmdD L x s0 (ds.take i)) x cv s0.us∧i≤ds.length∧q=ds.length-i) ds.length
  ⟨0,_,_,rfl,Chg.refl _ _,gc1,by omega,rfl⟩ ?_
 rintro Q' q fr X ⟨i,x8,x16,rfl,cX,gX,hi,rfl⟩ hn' hx' hret
 have kX:Keeps H X:=(k0.trans k1).chg_trans cX (by simp)
 by_cases h1:i<ds.length
 ·obtain⟨nc,rc⟩:=CL.at_ (slw.keeps kX) h1
  have e0:(0:Int)≤(i:Int):=by omega
  have e1:(i:Int)<((ds.length:Nat):Int):=by omega
  have hw:IntKind.i64.wrap ((i:Int)+1)=((i+1:Nat):Int):=by rw[wrap_i64 (by omega) (by omega)];simp
  have hgd:ds.getD i (0,0)=ds[i]:=by rw[List.getD_eq_getElem?_getD,List.getElem?_eq_getElem h1];rfl
  have htk:ds.take (i+1)=ds.take i++[ds[i]]:=by rw[List.take_add_one,List.getElem?_eq_getElem h1];rfl
  have hkd:=hk ds[i] (List.mem_of_mem_take (by rw[←hds];exact List.getElem_mem h1))
  have tz:TZ (cmdD L x s0 (ds.take i)):=tz_cmd (by rw[hs0e];exact tz_tidy L s)
  rw[hgd]at rc
  generalize ds[i]=c at*
  obtain⟨kd,n⟩:=c
  obtain⟨XA,hXA⟩:∃Z,Z=X.alloc (.cells true false 2 [.int .u8 kd,.int .i64 n] 39):=⟨_,rfl⟩
  have kA:Keeps X XA:=by rw[hXA];exact(Keeps.refl X).alloc _
  have gmA:XA.get X.n=some (.cells true false 2 [.int .u8 kd,.int .i64 n] 39):=by rw[hXA];exact AHeap.get_alloc_new X _
  have gA:CyR XA (H.n+4) b (cmdD L x s0 (ds.take i)) x cv s0.us:=kA.at_ gX
  have lA:=AHeap.get_lt gmA
  simp(disch:=first|assumption|omega|(simp only[LN]<;>omega)|(simp(disch:=first|assumption|omega|(simp only[LN]<;>omega))only[row_alloc,row_set];assumption))only[W_block,P3,seval,initFr,clsA,e1,nc,rc,a_loadnvf,lenw]
  rw[←hXA]
  refine callK (t48 gA hm (kX.trans kA) (by omega) he tz hkd.1 hkd.2) ?_
  rintro _ Y ⟨cY,gY⟩
  simp(disch:=first|assumption|omega)only[W_block,P3,seval,initFr,clsA,hw]
  exact hn' _ _ _ ⟨i+1,_,_,rfl,(cX.trans (kA.chg [H.n+4]) (by simp)).trans cY (by simp),by rw[htk,cmdD_snoc];exact gY,by omega,rfl⟩ (by omega)
 ·have e1:¬(i:Int)<((ds.length:Nat):Int):=by omega
  have hil:i=ds.length:=by omega
  subst hil
  rw[List.take_length]at gX
  obtain⟨s1,hs1⟩:∃t,t=cmdD L x s0 ds:=⟨_,rfl⟩
  rw[←hs1]at gX
  have ti1:∀i,s1.ti i≤20:=by rw[hs1,hs0e];exact cmdD_ti (tidy_ti L s)
  have hst:stepD L s x cs=rosD L x s0.us s1 L.r.length:=by unfold stepD;rw[hs1,hs0e,hds]
  rw[hst]at hq1 hq2
  simp(disch:=first|assumption|omega)only[W_block,P3,seval,initFr,clsA,e1]
  refine hx' _ _ _ ?_
  have gbX:=kX.at_ gb
  simp(disch:=first|assumption|omega)only[P3,seval,initFr,clsA,gbX,isl,lenl]
  rw[W_block]
  refine W_loop2 (fun q fr Y=>∃k x9 x19 x20,fr=[ptr b 0,A2,A4,ptr H.n 0,ptr (H.n+1) 0,ptr (H.n+2) 0,ptr (H.n+3) 0,ptr (H.n+4) 0,x8,x9,undef,undef,.bool false,cw,.int .i64 ((ds.length:Nat):Int),.int .i64 ((ds.length:Nat):Int),.bool false,.int .i64 ((L.r.length:Nat):Int),.int .i64 ((k:Nat):Int),x19,x20,undef,undef,undef,undef]∧
   Chg [H.n+4] K1 Y∧CyR Y (H.n+4) b (rosD L x s0.us s1 k) x cv s0.us∧k≤L.r.length∧q=L.r.length-k) L.r.length
   ⟨0,_,_,_,rfl,cX,gX,by omega,rfl⟩ ?_
  rintro Q2 q fr Y ⟨k,x9,x19,x20,rfl,cY,gY,hk',rfl⟩ hn2 hx2 hret2
  have kY:Keeps H Y:=(k0.trans k1).chg_trans cY (by simp)
  by_cases hlk:k<L.r.length
  ·have kN:k<64:=by omega
   have c0:(0:Int)≤(k:Int):=by omega
   have c1:((k:Nat):Int)<((L.r.length:Nat):Int):=by omega
   have hw2:IntKind.i64.wrap ((k:Int)+1)=((k+1:Nat):Int):=by rw[wrap_i64 (by omega) (by omega)];simp
   have hrs:=rosD_s L x s0.us s1 k
   have tik:=rosD_ti (L:=L) (x:=x) (us:=s0.us) ti1 k
   generalize rosD L x s0.us s1 k=t at*
   simp(disch:=first|assumption|omega)only[W_block,P3,seval,initFr,clsA,c1]
   refine callK (t49 gY c0) ?_
   rintro _ Z ⟨rfl,hZ⟩
   rw[hZ,has_nat _ kN]
   cases hlo:t.lo k with
   |false=>
    rw[hlo]at hrs
    simp(disch:=first|assumption|omega)only[W_block,P3,seval,initFr,clsA,hw2]
    exact hn2 _ _ _ ⟨k+1,_,_,_,rfl,cY,by rw[hrs];exact gY,by omega,rfl⟩ (by omega)
   |true=>
    rw[hlo]at hrs
    simp(disch:=first|assumption|omega)only[W_block,P3,seval,initFr,clsA]
    refine callK (t50 gY (hm.keeps kY) he (fun i=>by have:=tik i;omega) hlk) ?_
    rintro _ Z ⟨cZ,gZ⟩
    simp(disch:=first|assumption|omega)only[W_block,P3,seval,initFr,clsA,hw2]
    exact hn2 _ _ _ ⟨k+1,_,_,_,rfl,cY.trans cZ (by simp),by rw[hrs];exact gZ,by omega,rfl⟩ (by omega)
  ·have c1:¬((k:Nat):Int)<((L.r.length:Nat):Int):=by omega
   have hke:k=L.r.length:=by omega
   subst hke
   obtain⟨t,ht⟩:∃t,t=rosD L x s0.us s1 L.r.length:=⟨_,rfl⟩
   rw[←ht]at hq1 hq2 gY
   have gcY:=gY
   unfold CyR at gcY
   have lcY:=AHeap.get_lt gcY
   have gbY:=kY.at_ gb
   have gwY:=cY.at_ (k1.at_ gw0) (by simp)
   have goY:=cY.at_ (k1.at_ go0) (by simp)
   simp(disch:=first|assumption|omega)only[W_block,P3,seval,initFr,clsA,c1]
   refine hx2 _ _ _ ?_
   obtain⟨Z0,hZ0⟩:∃Z,Z=Y.alloc (.cells true false 2 [S64 fun j=>decide (j<0)&&proD L x t j,S32 t.po] 68):=⟨_,rfl⟩
   have kZ0:Keeps Y Z0:=by rw[hZ0];exact(Keeps.refl Y).alloc _
   have gz0:Z0.get Y.n=some (.cells true false 2 [S64 fun j=>decide (j<0)&&proD L x t j,S32 t.po] 68):=by rw[hZ0];exact AHeap.get_alloc_new Y _
   have e00:Value.int .u64 0=S64 fun j=>decide (j<0)&&proD L x t j:=by rw[s_zero];exact s64_ext fun i _=>by simp
   simp(disch:=first|assumption|omega|(simp only[LN]<;>omega)|(simp(disch:=first|assumption|omega|(simp only[LN]<;>omega))only[row_alloc,row_set];assumption))only[P3,seval,initFr,clsA,gcY,cyl_68,gbY,isl,lenl,fillO1,o_s32,one_s32]
   have gbZ0:=kZ0.at_ gbY
   rw[e00,←hZ0]
   simp(disch:=first|assumption|omega)only[P3,seval,initFr,clsA,gbZ0,isl,lenl]
   rw[W_block]
   refine W_loop2 (fun q fr Z=>∃k x11 x23 x24,fr=[ptr b 0,A2,A4,ptr H.n 0,ptr (H.n+1) 0,ptr (H.n+2) 0,ptr (H.n+3) 0,ptr (H.n+4) 0,x8,x9,ptr Y.n 0,x11,.bool false,cw,.int .i64 ((ds.length:Nat):Int),.int .i64 ((ds.length:Nat):Int),.bool false,.int .i64 ((L.r.length:Nat):Int),.int .i64 ((L.r.length:Nat):Int),.bool false,x20,.int .i64 ((L.r.length:Nat):Int),.int .i64 ((k:Nat):Int),x23,x24]∧
    Chg [Y.n] Z0 Z∧Z.get Y.n=some (.cells true false 2 [S64 fun j=>decide (j<k)&&proD L x t j,S32 t.po] 68)∧k≤L.r.length∧q=L.r.length-k) L.r.length
    ⟨0,_,_,_,rfl,Chg.refl _ _,gz0,by omega,rfl⟩ ?_
   rintro Q3 q fr Z ⟨k,x11,x23,x24,rfl,cZ,gz,hk',rfl⟩ hn3 hx3 hret3
   have kYZ:Keeps Y Z:=kZ0.chg_trans cZ (by simp)
   have kZ:Keeps H Z:=kY.trans kYZ
   have gZ:CyR Z (H.n+4) b t x cv s0.us:=kYZ.at_ gcY
   have gcZ:=kYZ.at_ gcY
   have gwZ:=kYZ.at_ gwY
   have goZ:=kYZ.at_ goY
   have lZ:=AHeap.get_lt gz
   by_cases hlk:k<L.r.length
   ·have kN:k<64:=by omega
    have c0:(0:Int)≤(k:Int):=by omega
    have c1:((k:Nat):Int)<((L.r.length:Nat):Int):=by omega
    have hw2:IntKind.i64.wrap ((k:Int)+1)=((k+1:Nat):Int):=by rw[wrap_i64 (by omega) (by omega)];simp
    have sh:=s_shl1 kN
    simp(disch:=first|assumption|omega)only[W_block,P3,seval,initFr,clsA,c1]
    refine callQ (t51 gZ (hm.keeps kZ) he isc hlk) ?_
    cases hp:proD L x t k with
    |false=>
     simp(disch:=first|assumption|omega)only[W_block,P3,seval,initFr,clsA,hw2]
     exact hn3 _ _ _ ⟨k+1,_,_,_,rfl,cZ,by rw[gz,with_n (proD L x t) k hp],by omega,rfl⟩ (by omega)
    |true=>
     simp(disch:=first|assumption|omega)only[W_block,P3,seval,initFr,clsA,gz,sh,s_or,o_s64,one_s64,hw2]
     refine hn3 _ _ _ ⟨k+1,_,_,_,rfl,cZ.trans (Chg.set Z lZ _) (by simp),?_,by omega,rfl⟩ (by omega)
     rw[AHeap.get_set_same gz,←with_p (proD L x t) k hp]
     congr 4
     congr 1
     funext j
     simp only[oneP,Int.ofNat_inj]
   ·have c1:¬((k:Nat):Int)<((L.r.length:Nat):Int):=by omega
    have hke:k=L.r.length:=by omega
    subst hke
    have hwl:=AHeap.get_lt gwZ
    have hol:=AHeap.get_lt goZ
    have oa:∀o,(Z.set (H.n+2) o).get (H.n+3)=Z.get (H.n+3):=fun o=>AHeap.get_set_other Z (by omega) hwl o
    simp(disch:=first|assumption|omega)only[W_block,P3,seval,initFr,clsA,c1]
    refine hx3 _ _ _ ?_
    simp(disch:=first|assumption|omega|(simp only[LN]<;>omega)|(simp(disch:=first|assumption|omega|(simp only[LN]<;>omega))only[row_alloc,row_set];assumption))only[W_block,P3,seval,initFr,clsA,gcZ,rng_cys,gz,gwZ,goZ,oa,rng68,stn68s,o_s64,o_s32,one_s64,one_s32]
    obtain⟨pr,hpr⟩:∃pr:Nat→Bool,pr=fun j=>decide (j<L.r.length)&&proD L x t j:=⟨_,rfl⟩
    rw[←hpr]at hq2 ⊢
    refine⟨by simp,hq2 _ _ ⟨.tuple #[.agg (stl t).toArray,.agg #[S64 pr,S32 t.po]],?_,rfl,(kZ.set (by omega) hwl _).set (by omega) (by rw[set_n];exact hol) _⟩⟩
    have ga3:((Z.set (H.n+2) (.cells true false 68 (stl t) 37)).set (H.n+3) (.cells true false 2 [S64 pr,S32 t.po] 68)).get (H.n+2)=some (.cells true false 68 (stl t) 37):=by
     rw[AHeap.get_set_other _ (by omega) (by rw[set_n];exact hol)];exact AHeap.get_set_same gwZ _
    have go3:((Z.set (H.n+2) (.cells true false 68 (stl t) 37)).set (H.n+3) (.cells true false 2 [S64 pr,S32 t.po] 68)).get (H.n+3)=some (.cells true false 2 [S64 pr,S32 t.po] 68):=
     AHeap.get_set_same ((oa _).trans goZ) _
    show resO [.cn 68 5,.cn 2 6] _ _=_
    have r1':celln 68 (ptr (H.n+2) 0) ((Z.set (H.n+2) (.cells true false 68 (stl t) 37)).set (H.n+3) (.cells true false 2 [S64 pr,S32 t.po] 68))=some (.agg (stl t).toArray):=by
     rw[cellnp,rangeA_e,ga3,rng68];rfl
    have r2':celln 2 (ptr (H.n+3) 0) ((Z.set (H.n+2) (.cells true false 68 (stl t) 37)).set (H.n+3) (.cells true false 2 [S64 pr,S32 t.po] 68))=some (.agg #[S64 pr,S32 t.po]):=by
     rw[cellnp,rangeA_e,go3];rfl
    have e5:∀l:List Value,l.getD 5 undef=ptr (H.n+2) 0→l.getD 6 undef=ptr (H.n+3) 0→∀K,celln 68 (ptr (H.n+2) 0) K=some (.agg (stl t).toArray)→celln 2 (ptr (H.n+3) 0) K=some (.agg #[S64 pr,S32 t.po])→
     resO [.cn 68 5,.cn 2 6] l K=some (.tuple #[.agg (stl t).toArray,.agg #[S64 pr,S32 t.po]]):=fun l a b K c d=>by
     simp only[resO,resVs,RX.get,a,b,c,d];rfl
    exact e5 _ rfl rfl _ r1' r2'
end Go.AM.Fd

set_option maxRecDepth 20000
namespace Go.AM.Fd
open Nat (reduceAdd reduceEqDiff reduceLT reduceLeDiff reduceMul reduceSub)
open Go.Proofs Go.AM.F
theorem rgt_eq{L:Ly}(he:checkE L=0)(s:Sta):rgtB L s=rgtD L s:=by
 have hL:=may_lim (check_may he)
 have lr:=hL.r
 have lp:=hL.p
 unfold rgtB rgtD
 congr 1
 rw[Bool.eq_iff_iff]
 simp only[Bool.and_eq_true,none64,none32,List.all_eq_true,List.mem_range,Bool.not_eq_true',Bool.and_eq_false_iff,iOK,kOK,nOK,Bool.or_eq_true,Bool.not_eq_false']
 constructor
 ·rintro⟨⟨h1,h2⟩,h3⟩ i hi
  refine⟨?_,?_⟩
  ·cases hlo:s.lo i with
   |false=>exact .inl rfl
   |true=>
    right
    intro k hk
    by_cases hik:i=k
    ·left;left;simp[hik]
    ·by_cases hlk:s.lo k=true
     ·right
      rcases h1 k (by omega)with h|h
      ·have:(s.lo i&&tabP L i k)=false:=by
        have:=h
        unfold anyR at this
        rw[List.any_eq_false]at this
        simpa using this i (List.mem_range.2 hi)
       rw[hlo]at this
       have hki:¬k=i:=fun e=>hik e.symm
       simp[tabP,hk,hki]at this
       exact this
      ·rw[hlk]at h;cases h
     ·left;right;simpa using hlk
  ·intro x hx
   cases hlo:s.lo i with
   |false=>exact .inl rfl
   |true=>
    right
    have hg:=(check_good he (List.getElem_mem hi)).nd x (by rw[←ro_eq hi];exact hx)
    obtain⟨xp,xb⟩:=x
    obtain⟨m,rfl⟩:∃m:Nat,xp=(m:Int):=⟨xp.toNat,by have:=hg.1;simp only at this;omega⟩
    have hm:m<32:=by have:=hg.2;simp only at this;omega
    show(s.po m != xb)=false
    cases xb with
    |false=>
     rcases h2 m hm with h|h
     ·have:(s.lo i&&nor L i m)=false:=by
       unfold anyR at h
       rw[List.any_eq_false]at h
       simpa using h i (List.mem_range.2 hi)
      rw[hlo]at this
      have hc:nor L i m=true:=List.contains_iff_mem.2 hx
      rw[hc]at this;cases this
     ·rw[h];rfl
    |true=>
     rcases h3 m hm with h|h
     ·have:(s.lo i&&rev L i m)=false:=by
       unfold anyR at h
       rw[List.any_eq_false]at h
       simpa using h i (List.mem_range.2 hi)
      rw[hlo]at this
      have hc:rev L i m=true:=List.contains_iff_mem.2 hx
      rw[hc]at this;cases this
     ·rw[h];rfl
 ·intro h
  refine⟨⟨?_,?_⟩,?_⟩
  ·intro k hk
   by_cases hlk:s.lo k=true
   ·left
    unfold anyR
    rw[List.any_eq_false]
    intro i hi
    have hi':=List.mem_range.1 hi
    cases hlo:s.lo i with
    |false=>simp
    |true=>
     rcases(h i hi').1 with h1|h1
     ·rw[hlo]at h1;cases h1
     ·by_cases hkn:k<L.r.length
      ·rcases h1 k hkn with(h2|h2)|h2
       ·have e:i=k:=by simpa using h2
        subst e
        simp[tabP]
       ·rw[hlk]at h2;cases h2
       ·simp[tabP,h2]
      ·simp[tabP,hkn]
   ·right;simpa using hlk
  ·intro p hp
   by_cases hpo:s.po p=true
   ·left
    unfold anyR
    rw[List.any_eq_false]
    intro i hi
    have hi':=List.mem_range.1 hi
    cases hlo:s.lo i with
    |false=>simp
    |true=>
     simp only[Bool.true_and]
     intro hc
     have hx:=List.contains_iff_mem.1 (show(nds (ro L i)).contains ((p:Int),false)=true from hc)
     rcases(h i hi').2 _ hx with h2|h2
     ·rw[hlo]at h2;cases h2
     ·have h2':(s.po p != false)=false:=h2
      rw[hpo]at h2';cases h2'
   ·right;simpa using hpo
  ·intro p hp
   by_cases hpo:s.po p=false
   ·left
    unfold anyR
    rw[List.any_eq_false]
    intro i hi
    have hi':=List.mem_range.1 hi
    cases hlo:s.lo i with
    |false=>simp
    |true=>
     simp only[Bool.true_and]
     intro hc
     have hx:=List.contains_iff_mem.1 (show(nds (ro L i)).contains ((p:Int),true)=true from hc)
     rcases(h i hi').2 _ hx with h2|h2
     ·rw[hlo]at h2;cases h2
     ·have h2':(s.po p != true)=false:=h2
      rw[hpo]at h2';cases h2'
   ·right;simpa using hpo
theorem ly_ones{H:AHeap}{u:V4}{xs:List RV}{L:Ly}(h:LyR H u xs L):u.l.all Value.oneCell'=true:=by
 have os:=Sl.one h.s
 have op:=Sl.one h.p
 have og:=Sl.one h.g
 have or:=Sl.one h.r
 simp only[V4.l,List.all_cons,List.all_nil,os,op,og,or];rfl
theorem t14{H:AHeap}{u:V4}{xs:List RV}{L:Ly}(h:LyR H u xs L)(hi:LyIn 9223372036854775807 L):
 ∃w H',ARun Tryz.prog 0 14 [.agg u.l.toArray] H w H'∧Keeps H H'∧(w=.tuple #[.pointer none,.bool false]∨∃b,checkE L=0∧w=.tuple #[ptr b 0,.bool true]∧MaF H.n H' b L):=by
 refine walk2 f14_ok f14_n ?_
 intro Q hq1 hq2
 have ho:=ly_ones h
 have hul:u.l=[u.s,u.p,u.g,u.r]:=rfl
 have kA:=(Keeps.refl H).alloc (.cells true false 4 u.l 27)
 have gl:=AHeap.get_alloc_new H (.cells true false 4 u.l 27)
 have hA:=h.keeps kA
 have ll:u.l.length=4:=rfl
 obtain⟨K0,hK0⟩:∃X,X=H.alloc (.cells true false 4 u.l 27):=⟨_,rfl⟩
 rw[←hK0]at kA gl hA
 simp(disch:=first|assumption|omega)only[f14,W_block,P3,seval,initFr,clsA,ho,ll]
 rw[←hK0]
 refine callK (t25 (top:=400) (by omega) hA hi) ?_
 rintro _ X ⟨⟨n,rfl⟩,hX⟩
 rw[hX]
 by_cases hn:(400:Int)<n
 ·simp(disch:=first|assumption|omega)only[W_block,P3,seval,initFr,clsA,hn]
  exact hq2 _ _ ⟨_,rfl,kA,.inl rfl⟩
 simp(disch:=first|assumption|omega)only[W_block,P3,seval,initFr,clsA,hn,gl,ll]
 refine callK (t5 hA hi) ?_
 rintro _ K1 ⟨k1,e1,e2⟩
 by_cases he:checkE L=0
 ·obtain⟨b,rfl,hM⟩:=e2 he
  simp(disch:=first|assumption|omega)only[W_block,P3,seval,initFr,clsA]
  exact hq2 _ _ ⟨_,rfl,kA.trans k1,.inr ⟨b,he,rfl,hM.base kA.n⟩⟩
 ·rw[e1 he]
  have ne:(checkE L==0)=false:=by simp[he]
  simp(disch:=first|assumption|omega)only[W_block,P3,seval,initFr,clsA,ne]
  exact hq2 _ _ ⟨_,rfl,kA.trans k1,.inl rfl⟩
set_option maxHeartbeats 2000000 in
theorem t9{H:AHeap}{u:V4}{xs:List RV}{L:Ly}(hl:LyR H u xs L)(hi:LyIn 9223372036854775807 L)(s:Sta):
 ∃w H',ARun Tryz.prog 0 9 [.agg u.l.toArray,.agg (stl s).toArray] H w H'∧w=.bool true∧Keeps H H':=by
 refine walk2 f9_ok f9_n ?_
 intro Q hq1 hq2
 have ho:=ly_ones hl
 have ll:u.l.length=4:=rfl
 obtain⟨K0,hK0⟩:∃X,X=(H.alloc (.cells true false 4 u.l 27)).alloc (.cells true false 68 (stl s) 37):=⟨_,rfl⟩
 have k0:Keeps H K0:=by rw[hK0];exact((Keeps.refl H).alloc _).alloc _
 have n0:K0.n=H.n+2:=by rw[hK0];rfl
 have gl0:K0.get H.n=some (.cells true false 4 u.l 27):=by rw[hK0];exact((Keeps.refl _).alloc _).at_ (AHeap.get_alloc_new H _)
 have gs0:K0.get (H.n+1)=some (.cells true false 68 (stl s) 37):=by rw[hK0];exact AHeap.get_alloc_new (H.alloc _) _
 have hl0:=hl.keeps k0
 simp(disch:=first|assumption|omega|(simp only[LN]<;>omega)|(simp(disch:=first|assumption|omega|(simp only[LN]<;>omega))only[row_alloc,row_set];assumption))only[f9,W_block,P3,seval,initFr,clsA,ho,ll,stl_one,stl_len]
 simp only[←hK0]
 refine callK (t14 hl0 hi) ?_
 rintro _ K1 ⟨k1,hm⟩
 rcases hm with rfl|⟨b,he,rfl,hMF⟩
 ·simp(disch:=first|assumption|omega)only[W_block,P3,seval,initFr,clsA]
  refine callQ (t11 _) ?_
  simp(disch:=first|assumption|omega)only[W_block,P3,seval,initFr,clsA]
  exact hq2 _ _ ⟨_,rfl,rfl,k0.trans k1⟩
 have hM:=hMF.r
 have hL:=may_lim (check_may he)
 have gl1:=k1.at_ gl0
 have gs1:=k1.at_ gs0
 have hl1:=hl0.keeps k1
 simp(disch:=first|assumption|omega)only[W_block,P3,seval,initFr,clsA,gs1,rng68]
 refine callQ (t8 hM s) ?_
 obtain⟨K2,hK2⟩:∃X,X=K1.alloc (.cells true false 68 (stl (tidyS L s)) 37):=⟨_,rfl⟩
 have k2:Keeps K1 K2:=by rw[hK2];exact(Keeps.refl K1).alloc _
 have gt2:K2.get K1.n=some (.cells true false 68 (stl (tidyS L s)) 37):=by rw[hK2];exact AHeap.get_alloc_new K1 _
 have gl2:=k2.at_ gl1
 have gs2:=k2.at_ gs1
 have hl2:=hl1.keeps k2
 have hM2:=hM.keeps k2
 have a1:=AHeap.get_lt gt2
 have a2:=AHeap.get_lt gl2
 have a3:=AHeap.get_lt gs2
 have eqs0:=fun K a b=>eq_stl K false a b
 have hrf:∀t:Sta,staB t t=true:=fun t=>by unfold staB;simp
 have lr:=hL.r
 simp(disch:=first|assumption|omega)only[W_block,P3,seval,initFr,clsA,gs1,gl1,rng68,stn68s,stl_one,stl_len,Z68I_z,ll]
 simp only[←hK2]
 simp(disch:=first|assumption|omega)only[W_block,P3,seval,initFr,clsA,gl2,gs2,rng68,ll]
 refine callQ (t23 hl2 hL s) ?_
 simp(disch:=first|assumption|omega|(simp only[LN]<;>omega)|(simp(disch:=first|assumption|omega|(simp only[LN]<;>omega))only[row_alloc,row_set];assumption))only[W_block,P3,↓reduceIte,reduceAdd,reduceEqDiff,reduceCtorEq,initFr,reduceLT,clsA,reduceLeDiff,reduceMul,reduceSub,reduceIte,gl2,gs2,gt2,a1,a2,a3,rng68,ll,O68I_r,eqs0,hrf]
 refine⟨by simp,callK (t20 hM2 lr s) ?_⟩
 rintro _ X ⟨rfl,hX⟩
 rw[hX,rgt_eq he]
 simp(disch:=first|assumption|omega)only[W_block,P3,seval,initFr,clsA,gl2,gs2,gt2,a1,a2,a3,rng68,ll]
 refine callQ (t24 hl2 he s) ?_
 have bb:∀x:Bool,(x==x)=true:=fun x=>by cases x<;>rfl
 simp(disch:=first|assumption|omega)only[W_block,P3,seval,initFr,clsA,gl2,gs2,gt2,a1,a2,a3,rng68,ll,bb]
 refine callK (t20 hM2 lr _) ?_
 rintro _ X ⟨rfl,hX⟩
 rw[hX,rgt_eq he]
 simp(disch:=first|assumption|omega)only[W_block,P3,seval,initFr,clsA,gl2,gs2,gt2,a1,a2,a3,rng68,ll,bb]
 refine callQ (t24 hl2 he _) ?_
 simp(disch:=first|assumption|omega)only[W_block,P3,seval,initFr,clsA,bb]
 refine callQ (t11 _) ?_
 simp(disch:=first|assumption|omega)only[W_block,P3,seval,initFr,clsA]
 exact hq2 _ _ ⟨_,rfl,rfl,(k0.trans k1).trans k2⟩
end Go.AM.Fd

namespace Go.AM.Fd
open Go.Proofs Go.AM.F
theorem n64_iff{f:Nat→Bool}:none64 f=true↔∀i,i<64→f i=false:=by
 unfold none64;simp
theorem n32_iff{f:Nat→Bool}:none32 f=true↔∀i,i<32→f i=false:=by
 unfold none32;simp
theorem n64_and(f g:Nat→Bool):none64 (fun i=>f i||g i)=(none64 f&&none64 g):=by
 rw[Bool.eq_iff_iff,Bool.and_eq_true,n64_iff,n64_iff,n64_iff]
 constructor
 ·intro h
  exact⟨fun i hi=>by have:=h i hi;simp at this;exact this.1,fun i hi=>by have:=h i hi;simp at this;exact this.2⟩
 ·rintro⟨h,k⟩ i hi
  rw[h i hi,k i hi];rfl
theorem none_one(f:Nat→Bool)(n:Int):none64 (fun j=>oneP n j&&f j)= !hasB f n:=by
 rw[Bool.eq_iff_iff,n64_iff]
 unfold hasB oneP
 constructor
 ·intro h
  by_cases h0:0≤n
  ·by_cases h1:n<64
   ·have:=h n.toNat (by omega)
    have e:decide (((n.toNat:Nat):Int)=n)=true:=by simp;omega
    rw[e]at this
    simp at this
    simp[this]
   ·simp[h1]
  ·simp[h0]
 ·intro h i hi
  by_cases e:(i:Int)=n
  ·subst e
   have e1:decide ((0:Int)≤(i:Int))=true:=by simp
   have e2:decide ((i:Int)<64)=true:=by simp;omega
   rw[e1,e2]at h
   simp at h
   simp[h]
  ·simp[e]
theorem none_comm(f g:Nat→Bool):none64 (fun j=>f j&&g j)=none64 (fun j=>g j&&f j):=by
 congr 1;funext j;rw[Bool.and_comm]
theorem ent_eq{L:Ly}{x:Inp}{i:Nat}(hi:i<L.r.length):entB L x i=hasB x.oc ((ro L i).path.getD 0 0):=by
 unfold entB fiP
 rw[none_one];simp[hi]
theorem free_eq{L:Ly}{x:Inp}{i:Nat}(he:checkE L=0)(hi:i<L.r.length):(none64 fun j=>trP (ro L i) j&&x.oc j)=frD x (ro L i):=by
 have hg:=check_good he (List.getElem_mem hi)
 rw[←ro_eq hi]at hg
 have hL:=(may_lim (check_may he)).s
 rw[Bool.eq_iff_iff,n64_iff]
 unfold frD trP
 rw[List.all_eq_true]
 constructor
 ·intro h t ht
  obtain⟨h0,h1⟩:=hg.tr t ht
  obtain⟨m,rfl⟩:∃m:Nat,t=(m:Int):=⟨t.toNat,by omega⟩
  have hm:m<64:=by omega
  have:=h m hm
  rw[List.contains_iff_mem.2 ht]at this
  rw[has_nat _ hm]
  simpa using this
 ·intro h j hj
  by_cases hc:(trk (ro L i)).contains (j:Int)=true
  ·have:=h _ (List.contains_iff_mem.1 hc)
   rw[has_nat _ hj]at this
   rw[hc];simpa using this
  ·simp only[Bool.not_eq_true]at hc
   rw[hc];rfl
theorem nds_nodup{L:Ly}{i:Nat}(he:checkE L=0)(hi:i<L.r.length):((nds (ro L i)).map (·.1)).Nodup:=by
 have hf:=check_form he (List.getElem_mem hi)
 rw[←ro_eq hi]at hf
 simp only[formedB,badB,Bool.and_eq_true,Bool.not_eq_true',Bool.or_eq_false_iff,Bool.not_eq_false',decide_eq_true_eq]at hf
 exact hf.1.2
theorem side_mem{l:List (Int×Bool)}(hn:(l.map (·.1)).Nodup){p:Int}{b:Bool}:(p,b)∈l↔sideO p l=some b:=by
 induction l with
 |nil=>simp[sideO]
 |cons z l ih=>
  obtain⟨zp,zb⟩:=z
  simp only[List.map_cons,List.nodup_cons]at hn
  have ih:=ih hn.2
  by_cases e:zp=p
  ·subst e
   have hs:sideO zp ((zp,zb)::l)=some zb:=by simp[sideO]
   rw[hs]
   constructor
   ·intro h
    rcases List.mem_cons.1 h with h|h
    ·cases h;rfl
    ·exact absurd (List.mem_map.2 ⟨_,h,rfl⟩) hn.1
   ·intro h;cases h;exact List.mem_cons_self
  ·have hs:sideO p ((zp,zb)::l)=sideO p l:=by
    have:(zp==p)=false:=by simp[e]
    simp[sideO,this]
   rw[hs,←ih]
   constructor
   ·intro h
    rcases List.mem_cons.1 h with h|h
    ·cases h;exact absurd rfl e
    ·exact h
   ·intro h;exact List.mem_cons_of_mem _ h
theorem poD_side{l:List (Int×Bool)}(hn:(l.map (·.1)).Nodup)(h0:∀z∈l,0≤z.1)(f:Nat→Bool)(p:Nat):poD l f p=match sideO (p:Int) l with|some b=>b|none=>f p:=by
 induction l generalizing f with
 |nil=>rfl
 |cons z l ih=>
  obtain⟨zp,zb⟩:=z
  simp only[List.map_cons,List.nodup_cons]at hn
  have hz:=h0 (zp,zb) List.mem_cons_self
  obtain⟨m,rfl⟩:∃m:Nat,zp=(m:Int):=⟨zp.toNat,by simp only at hz;omega⟩
  have e1:poD (((m:Int),zb)::l) f=poD l (fun p=>if p=m then zb else f p):=by
   unfold poD;simp
  rw[e1,ih hn.2 (fun z hz=>h0 z (List.mem_cons_of_mem _ hz))]
  by_cases e:p=m
  ·subst e
   have hs:sideO (p:Int) (((p:Int),zb)::l)=some zb:=by simp[sideO]
   have hno:sideO (p:Int) l=none:=by
    unfold sideO
    have:l.find? (fun x=>x.1==(p:Int))=none:=List.find?_eq_none.2 (fun y hy he=>hn.1 (List.mem_map.2 ⟨y,hy,by simpa using he⟩))
    rw[this];rfl
   rw[hs,hno];simp
  ·have hs:sideO (p:Int) (((m:Int),zb)::l)=sideO (p:Int) l:=by
    have:((m:Int)==(p:Int))=false:=by simp;omega
    simp[sideO,this]
   rw[hs]
   cases sideO (p:Int) l<;>simp[e]
theorem turn_side{L:Ly}{i:Nat}(he:checkE L=0)(hi:i<L.r.length)(s:Sta)(p:Nat):turnP L s i p=match sideO (p:Int) (nds (ro L i))with|some b=>(s.po p != b)|none=>false:=by
 have hn:=nds_nodup he hi
 have e1:nor L i p=decide (sideO (p:Int) (nds (ro L i))=some false):=by
  unfold nor ndP
  rw[Bool.eq_iff_iff,List.contains_iff_mem,decide_eq_true_eq]
  exact side_mem hn
 have e2:rev L i p=decide (sideO (p:Int) (nds (ro L i))=some true):=by
  unfold rev ndP
  rw[Bool.eq_iff_iff,List.contains_iff_mem,decide_eq_true_eq]
  exact side_mem hn
 unfold turnP
 rw[e1,e2]
 cases sideO (p:Int) (nds (ro L i))with
 |none=>simp
 |some b=>cases b<;>cases s.po p<;>rfl
theorem po_turn{L:Ly}{i:Nat}(he:checkE L=0)(hi:i<L.r.length)(s:Sta)(p:Nat):(s.po p ^^ turnP L s i p)=poD (nds (ro L i)) s.po p:=by
 have hg:=check_good he (List.getElem_mem hi)
 rw[←ro_eq hi]at hg
 rw[turn_side he hi,poD_side (nds_nodup he hi) (fun z hz=>(hg.nd z hz).1)]
 cases sideO (p:Int) (nds (ro L i))with
 |none=>simp
 |some b=>cases b<;>cases s.po p<;>rfl
theorem lie_none{L:Ly}(hp:L.p.length≤32)(oc f:Nat→Bool):(none64 fun j=>oc j&&lieU L f j)=(List.range L.p.length).all fun p=> !(f p&&hasB oc (L.p.getD p ([],0)).2):=by
 rw[Bool.eq_iff_iff,n64_iff,List.all_eq_true]
 unfold lieU anyN
 constructor
 ·intro h p hpm
  have hpl:=List.mem_range.1 hpm
  have h1:=none_one oc (L.p.getD p ([],0)).2
  cases hf:f p with
  |false=>rfl
  |true=>
   have:none64 (fun j=>oneP (L.p.getD p ([],0)).2 j&&oc j)=true:=n64_iff.2 (fun j hj=>by
    have hj2:=h j hj
    cases ho:oc j with
    |false=>simp
    |true=>
     rw[ho]at hj2
     simp only[Bool.true_and]at hj2
     rw[List.any_eq_false]at hj2
     have:=hj2 p hpm
     have h32:p<32:=by omega
     simp[hf,h32,lieP]at this
     simp[this])
   rw[this]at h1
   simp only[Bool.true_and]
   exact h1.symm
 ·intro h j hj
  cases ho:oc j with
  |false=>rfl
  |true=>
   simp only[Bool.true_and]
   rw[List.any_eq_false]
   intro p hpm
   have hpl:=List.mem_range.1 hpm
   have:=h p hpm
   cases hf:f p with
   |false=>simp
   |true=>
    rw[hf]at this
    simp only[Bool.true_and,Bool.not_eq_true']at this
    have h1:=none_one oc (L.p.getD p ([],0)).2
    rw[this]at h1
    have:=n64_iff.1 h1 j hj
    rw[ho]at this
    simp only[Bool.and_true]at this
    have h2:lieP L p j=false:=this
    simp[h2]
theorem set_eq{L:Ly}{x:Inp}{i:Nat}(he:checkE L=0)(hi:i<L.r.length)(s:Sta):setC L x.oc s i=setD L x s i:=by
 have hg:=check_good he (List.getElem_mem hi)
 rw[←ro_eq hi]at hg
 have hL:=may_lim (check_may he)
 have lr:=hL.r
 have lp:=hL.p
 have hn:=nds_nodup he hi
 unfold setC setD
 have e1:(none64 fun j=>s.lo j&&(oneP (i:Nat) j||tabP L i j))=(!s.lo i&&(List.range L.r.length).all (fun k=> !(s.lo k&&cf L i k))):=by
  rw[Bool.eq_iff_iff,n64_iff,Bool.and_eq_true,List.all_eq_true]
  constructor
  ·intro h
   have h0:s.lo i=false:=by
    have:=h i (by omega)
    simpa[oneP]using this
   refine⟨by simp[h0],fun k hk=>?_⟩
   have hkl:=List.mem_range.1 hk
   by_cases e:k=i
   ·subst e;simp[h0]
   ·have:=h k (by omega)
    have e2:¬((k:Int)=(i:Int)):=by omega
    cases hlo:s.lo k with
    |false=>rfl
    |true=>
     simp[oneP,e2,tabP,hkl,e,hlo]at this
     simp[this]
  ·rintro⟨h0,h⟩ j hj
   cases hlo:s.lo j with
   |false=>rfl
   |true=>
    have hji:¬j=i:=fun e=>by subst e;rw[hlo]at h0;cases h0
    have e2:¬((j:Int)=(i:Int)):=by omega
    by_cases hjl:j<L.r.length
    ·have:=h j (List.mem_range.2 hjl)
     rw[hlo]at this
     simp at this
     simp[oneP,e2,tabP,this]
    ·simp[oneP,e2,tabP,hjl]
 have e2:(none64 fun j=>x.oc j&&(trP (ro L i) j||lieU L (turnP L s i) j))=(frD x (ro L i)&&(nds (ro L i)).all fun z=> !((s.po z.1.toNat != z.2)&&hasB x.oc (L.p.getD z.1.toNat ([],0)).2)):=by
  have:(fun j=>x.oc j&&(trP (ro L i) j||lieU L (turnP L s i) j))=fun j=>(trP (ro L i) j&&x.oc j)||(x.oc j&&lieU L (turnP L s i) j):=by
   funext j;cases x.oc j<;>simp
  rw[this,n64_and,free_eq he hi,lie_none lp]
  congr 1
  rw[Bool.eq_iff_iff,List.all_eq_true,List.all_eq_true]
  constructor
  ·intro h z hz
   obtain⟨zp,zb⟩:=z
   obtain⟨h0,h1⟩:=hg.nd _ hz
   obtain⟨m,rfl⟩:∃m:Nat,zp=(m:Int):=⟨zp.toNat,by simp only at h0;omega⟩
   have hml:m<L.p.length:=by simp only at h1;omega
   have:=h m (List.mem_range.2 hml)
   rw[turn_side he hi,(side_mem hn).1 hz]at this
   exact this
  ·intro h p hp
   rw[turn_side he hi]
   cases hs:sideO (p:Int) (nds (ro L i))with
   |none=>rfl
   |some b=>exact h _ ((side_mem hn).2 hs)
 rw[e1,e2]
 cases s.lo i<;>cases frD x (ro L i)<;>cases(List.range L.r.length).all (fun k=> !(s.lo k&&cf L i k))<;>rfl
theorem oneP_nat(i j:Nat):oneP (i:Nat) j=decide (j=i):=by unfold oneP;simp only[Int.ofNat_inj]
theorem canc_eq{L:Ly}{i:Nat}(hi:i<64)(s:Sta):cancC s i=((s.lo i&& !s.us i)&& !s.ca i):=by
 unfold cancC
 have:(fun j=>((oneP (i:Nat) j&&s.lo j)&& !s.us j)&& !s.ca j)=fun j=>oneP (i:Nat) j&&((s.lo j&& !s.us j)&& !s.ca j):=by
  funext j;cases oneP (i:Nat) j<;>simp
 rw[this,none_one (fun j=>(s.lo j&& !s.us j)&& !s.ca j),has_nat _ hi,Bool.not_not]
theorem any_need(L:Ly)(s:Sta)(p:Nat):(anyR L s.lo (nor L) p||anyR L s.lo (rev L) p)=needD L s (p:Int):=by
 unfold anyR needD nor rev ndP
 rw[Bool.eq_iff_iff]
 simp only[Bool.or_eq_true,List.any_eq_true,Bool.and_eq_true,List.contains_iff_mem,beq_iff_eq]
 constructor
 ·rintro(⟨i,hi,h1,h2⟩|⟨i,hi,h1,h2⟩)
  ·exact⟨i,hi,_,h2,h1,rfl⟩
  ·exact⟨i,hi,_,h2,h1,rfl⟩
 ·rintro⟨i,hi,⟨zp,zb⟩,h2,h1,h3⟩
  simp only at h3
  subst h3
  cases zb
  ·exact .inl ⟨i,hi,h1,h2⟩
  ·exact .inr ⟨i,hi,h1,h2⟩
theorem move_eq{L:Ly}{x:Inp}{n:Int}(he:checkE L=0)(s:Sta):moveC L x.oc s n=((decide (0≤n)&&decide (n<(L.p.length:Nat)))&&(!hasB x.oc (L.p.getD n.toNat ([],0)).2 && !needD L s n)):=by
 have hL:=may_lim (check_may he)
 have lp:=hL.p
 unfold moveC
 by_cases h:0≤n∧n<(L.p.length:Nat)
 ·obtain⟨i,rfl⟩:∃i:Nat,n=(i:Int):=⟨n.toNat,by omega⟩
  have hi:i<L.p.length:=by omega
  have e0:none64 (fun j=>decide (j+32<64)&&oneP (i:Int) (j+32))=true:=n64_iff.2 (fun j hj=>by
   have:¬j+32=i:=by omega
   rw[oneP_nat];simp[this])
  have e1:none32 (fun j=>ptP L (i:Int) j&& !(anyR L s.lo (nor L) j||anyR L s.lo (rev L) j))=needD L s (i:Int):=by
   rw[Bool.eq_iff_iff,n32_iff]
   constructor
   ·intro h
    have:=h i (by omega)
    rw[any_need]at this
    have hp:ptP L (i:Int) i=true:=by unfold ptP;rw[oneP_nat];simp[lowP,hi]
    rw[hp]at this
    simpa using this
   ·intro h j hj
    by_cases e:j=i
    ·subst e;rw[any_need,h];simp
    ·have hp:ptP L (i:Int) j=false:=by unfold ptP;rw[oneP_nat];simp[e]
     rw[hp];rfl
  have e2:none64 (fun j=>lieU L (ptP L (i:Int)) j&&x.oc j)= !hasB x.oc (L.p.getD i ([],0)).2 :=by
   rw[none_comm,lie_none lp,Bool.eq_iff_iff,List.all_eq_true]
   constructor
   ·intro h
    have:=h i (List.mem_range.2 hi)
    have hp:ptP L (i:Int) i=true:=by unfold ptP;rw[oneP_nat];simp[lowP,hi]
    rw[hp]at this
    simpa using this
   ·intro h p hp
    by_cases e:p=i
    ·subst e;cases ptP L (p:Int) p<;>simp at h ⊢;exact h
    ·have hp:ptP L (i:Int) p=false:=by unfold ptP;rw[oneP_nat];simp[e]
     rw[hp];rfl
  have e3:Int.toNat (i:Int)=i:=by omega
  rw[e0,e1,e2,e3]
  have d1:decide ((0:Int)≤(i:Int))=true:=by simp
  have d2:decide ((i:Int)<((L.p.length:Nat):Int))=true:=by simp;omega
  rw[d1,d2]
  cases needD L s (i:Int)<;>cases hasB x.oc (L.p.getD i ([],0)).2 <;>rfl
 ·have e1:none32 (fun j=>ptP L n j&& !(anyR L s.lo (nor L) j||anyR L s.lo (rev L) j))=true:=n32_iff.2 (fun j hj=>by
   have hp:ptP L n j=false:=by
    unfold ptP oneP lowP
    by_cases e:(j:Int)=n
    ·have:¬(j:Int)<(L.p.length:Nat):=by omega
     simp[this]
    ·simp[e]
   rw[hp];rfl)
  have d:(decide (0≤n)&&decide (n<((L.p.length:Nat):Int)))=false:=by
   rw[Bool.eq_false_iff];intro hh;simp at hh;exact h hh
  rw[e1,d];simp
theorem com_eq{L:Ly}{x:Inp}(he:checkE L=0)(s:Sta)(kd n:Int):comB L x.oc s kd n=comD L x s kd n:=by
 have hL:=may_lim (check_may he)
 have lr:=hL.r
 have lp:=hL.p
 unfold comB comD okC
 by_cases k1:kd=1
 ·subst k1
  rw[if_pos rfl]
  by_cases h:0≤n∧n<L.r.length
  ·rw[if_pos h]
   have d:((decide ((1:Int)≤1)&&decide ((1:Int)≤3))&&(decide (0≤n)&&decide (n<if(1:Int)=3 then((L.p.length:Nat):Int)else((L.r.length:Nat):Int))))=true:=by simp[h]
   rw[if_pos d]
   have hi:n.toNat<L.r.length:=by omega
   rw[set_eq he hi]
   cases hs:setD L x s n.toNat with
   |false=>simp
   |true=>
    rw[if_pos rfl,if_pos ⟨rfl,rfl⟩]
    unfold setS
    congr 1
    ·funext j;rw[oneP_nat]
    ·funext p;exact po_turn he hi s p
  ·rw[if_neg h,if_neg]
   intro hd
   simp at hd
   exact h ⟨hd.1,hd.2⟩
 ·rw[if_neg k1]
  by_cases k2:kd=2
  ·subst k2
   rw[if_pos rfl]
   by_cases h:0≤n∧n<L.r.length
   ·rw[if_pos h]
    have d:((decide ((1:Int)≤2)&&decide ((2:Int)≤3))&&(decide (0≤n)&&decide (n<if(2:Int)=3 then((L.p.length:Nat):Int)else((L.r.length:Nat):Int))))=true:=by simp[h]
    have z1:¬((2:Int)=1∧setD L x s n.toNat=true):=fun h=>by cases h.1
    rw[if_pos d,if_neg z1]
    have hi:n.toNat<L.r.length:=by omega
    rw[canc_eq (L:=L) (by omega)]
    cases hs:((s.lo n.toNat&& !s.us n.toNat)&& !s.ca n.toNat)with
    |false=>simp
    |true=>
     rw[if_pos rfl,if_pos ⟨rfl,rfl⟩]
     unfold cancS ahP
     rw[none_one]
     congr 1
     ·funext j;rw[oneP_nat]
     ·rw[Bool.not_not]
   ·rw[if_neg h,if_neg]
    intro hd
    simp at hd
    exact h ⟨hd.1,hd.2⟩
  ·rw[if_neg k2]
   by_cases k3:kd=3
   ·subst k3
    rw[if_pos rfl,move_eq he]
    by_cases h:0≤n∧n<(L.p.length:Nat)
    ·have d:((decide ((1:Int)≤3)&&decide ((3:Int)≤3))&&(decide (0≤n)&&decide (n<if(3:Int)=3 then((L.p.length:Nat):Int)else((L.r.length:Nat):Int))))=true:=by simp[h]
     have d2:(decide (0≤n)&&decide (n<((L.p.length:Nat):Int)))=true:=by simp[h]
     have z1:¬((3:Int)=1∧setD L x s n.toNat=true):=fun h=>by cases h.1
     have z2:¬((3:Int)=2∧((s.lo n.toNat&& !s.us n.toNat)&& !s.ca n.toNat)=true):=fun h=>by cases h.1
     rw[if_pos d,if_neg z1,if_neg z2,d2,Bool.true_and]
     cases hs:(!hasB x.oc (L.p.getD n.toNat ([],0)).2 && !needD L s n)with
     |false=>simp
     |true=>
      rw[if_pos rfl,if_pos ⟨rfl,rfl⟩]
      unfold moveS
      congr 1
      funext j
      congr 1
      obtain⟨i,rfl⟩:∃i:Nat,n=(i:Int):=⟨n.toNat,by omega⟩
      have e3:Int.toNat (i:Int)=i:=by omega
      unfold ptP
      rw[oneP_nat,e3]
      by_cases e:j=i
      ·subst e;simp[lowP];omega
      ·simp[e]
    ·have d:(decide (0≤n)&&decide (n<((L.p.length:Nat):Int)))=false:=by
      rw[Bool.eq_false_iff];intro hh;simp at hh;exact h hh
     rw[d,if_neg (by simp),if_neg]
     intro hd
     simp at hd
     exact h ⟨hd.1,hd.2⟩
   ·rw[if_neg k3,if_neg]
    intro hd
    simp at hd
    omega
theorem cmd_eq{L:Ly}{x:Inp}(he:checkE L=0):∀(cs:List (Int×Int)) (s:Sta),cmdB L x.oc s cs=cmdD L x s cs
 |[],s=>rfl
 |c::cs,s=>by
  show cmdB L x.oc (comB L x.oc s c.1 c.2) cs=cmdD L x (comD L x s c.1 c.2) cs
  rw[com_eq he,cmd_eq he cs]
end Go.AM.Fd

namespace Go.AM.Fd
open Go.Proofs Go.AM.F
structure SI (L:Ly) (us:Nat→Bool) (s:Sta):Prop where
 u:s.us=us
 ul:∀i,us i=true→s.lo i=true
 cl:∀i,s.ca i=true→s.lo i=true
 ln:∀i,s.lo i=true→i<L.r.length
theorem si_tidy(L:Ly)(s:Sta):SI L (tidyS L s).us (tidyS L s):=by
 refine⟨rfl,fun i h=>?_,fun i h=>?_,fun i h=>?_⟩
 ·have h':(s.us i&&(s.lo i&&lowP L.r.length i))=true:=h
  show(s.lo i&&lowP L.r.length i)=true
  simp only[Bool.and_eq_true]at h' ⊢;exact h'.2
 ·have h':(s.ca i&&(s.lo i&&lowP L.r.length i))=true:=h
  show(s.lo i&&lowP L.r.length i)=true
  simp only[Bool.and_eq_true]at h' ⊢;exact h'.2
 ·have h':(s.lo i&&lowP L.r.length i)=true:=h
  simp only[Bool.and_eq_true,lowP,decide_eq_true_eq]at h'
  omega
theorem si_com{L:Ly}{x:Inp}{us:Nat→Bool}{s:Sta}(h:SI L us s)(kd n:Int):SI L us (comD L x s kd n):=by
 unfold comD
 split
 ·rename_i hok
  simp only[okC,Bool.and_eq_true,decide_eq_true_eq]at hok
  split
  ·rename_i hk
   have hn:n.toNat<L.r.length:=by
    have:=hok.2.2
    rw[hk.1,if_neg (by omega)]at this
    omega
   refine⟨h.u,fun i hi=>?_,fun i hi=>?_,fun i hi=>?_⟩
   ·show(s.lo i||decide (i=n.toNat))=true
    rw[h.ul i hi];rfl
   ·show(s.lo i||decide (i=n.toNat))=true
    rw[h.cl i hi];rfl
   ·have hi':(s.lo i||decide (i=n.toNat))=true:=hi
    simp only[Bool.or_eq_true,decide_eq_true_eq]at hi'
    rcases hi' with h1|h1
    ·exact h.ln i h1
    ·omega
  ·split
   ·rename_i hk
    simp only[Bool.and_eq_true]at hk
    refine⟨h.u,h.ul,fun i hi=>?_,h.ln⟩
    have hi':(s.ca i||decide (i=n.toNat))=true:=hi
    simp only[Bool.or_eq_true,decide_eq_true_eq]at hi'
    rcases hi' with h1|h1
    ·exact h.cl i h1
    ·rw[h1];exact hk.2.1.1
   ·split
    ·exact⟨h.u,h.ul,h.cl,h.ln⟩
    ·exact h
 ·exact h
theorem si_cmd{L:Ly}{x:Inp}{us:Nat→Bool}:∀{cs:List (Int×Int)} {s:Sta},SI L us s→SI L us (cmdD L x s cs)
 |[],s,h=>h
 |c::cs,s,h=>si_cmd (cs:=cs) (si_com h c.1 c.2)
def at_eq(s t:Sta)(j:Nat):Prop:=s.lo j=t.lo j∧s.us j=t.us j∧s.ca j=t.ca j∧s.ti j=t.ti j
theorem at_refl(s:Sta)(j:Nat):at_eq s s j:=⟨rfl,rfl,rfl,rfl⟩
theorem at_trans{s t u:Sta}{j:Nat}(h:at_eq s t j)(k:at_eq t u j):at_eq s u j:=⟨h.1.trans k.1,h.2.1.trans k.2.1,h.2.2.1.trans k.2.2.1,h.2.2.2.trans k.2.2.2⟩
theorem ro_po(L:Ly)(x:Inp)(us:Nat→Bool)(s:Sta)(i:Nat):(roD L x us s i).po=s.po:=by
 unfold roD relS;repeat' split
 all_goals rfl
theorem ro_other(L:Ly)(x:Inp)(us:Nat→Bool)(s:Sta){i j:Nat}(h:j≠i):at_eq (roD L x us s i) s j:=by
 unfold roD relS at_eq upd
 repeat' split
 all_goals simp[h]
theorem ro_here(L:Ly)(x:Inp)(us:Nat→Bool){s t:Sta}{i:Nat}(h:at_eq s t i):at_eq (roD L x us s i) (roD L x us t i) i:=by
 obtain⟨h1,h2,h3,h4⟩:=h
 unfold roD relS at_eq upd
 rw[h3,h4]
 repeat' split
 all_goals simp[h1,h2,h3,h4]
theorem ros_at(L:Ly)(x:Inp)(us:Nat→Bool)(s:Sta)(j:Nat):∀k,at_eq (rosD L x us s k) (if j<k∧s.lo j=true then roD L x us s j else s) j∧(rosD L x us s k).po=s.po
 |0=>⟨by rw[if_neg (by omega)];exact at_refl _ _,rfl⟩
 |k+1=>by
  obtain⟨ih,ihp⟩:=ros_at L x us s j k
  rw[rosD_s]
  by_cases e:j=k
  ·subst e
   rw[if_neg (by omega)]at ih
   have hl:=ih.1
   cases hlo:s.lo j with
   |false=>
    rw[hlo]at hl
    rw[if_neg (by rw[hl];simp),if_neg (by simp)]
    exact⟨ih,ihp⟩
   |true=>
    rw[hlo]at hl
    rw[if_pos hl,if_pos ⟨by omega,rfl⟩]
    exact⟨ro_here L x us ih,by rw[ro_po];exact ihp⟩
  ·have ec:(j<k+1∧s.lo j=true)=(j<k∧s.lo j=true):=by
    apply propext
    exact⟨fun h=>⟨by omega,h.2⟩,fun h=>⟨by omega,h.2⟩⟩
   simp only[ec]
   split
   ·exact⟨at_trans (ro_other L x us _ e) ih,by rw[ro_po];exact ihp⟩
   ·exact⟨ih,ihp⟩
theorem sta_ext{s t:Sta}(h:∀j,at_eq s t j)(hp:s.po=t.po):s=t:=by
 obtain⟨a,b,c,d,e⟩:=s
 obtain⟨a',b',c',d',e'⟩:=t
 simp only at hp
 subst hp
 have h1:a=a':=funext fun j=>(h j).1
 have h2:b=b':=funext fun j=>(h j).2.1
 have h3:c=c':=funext fun j=>(h j).2.2.1
 have h4:d=d':=funext fun j=>(h j).2.2.2
 subst h1 h2 h3 h4;rfl
theorem end_eq{L:Ly}{x:Inp}(he:checkE L=0){us:Nat→Bool}{s:Sta}(h:SI L us s):endS L x us s=rosD L x us s L.r.length:=by
 refine sta_ext (fun j=>?_) (by rw[(ros_at L x us s 0 L.r.length).2];rfl)
 have hr:=(ros_at L x us s j L.r.length).1
 obtain⟨r1,r2,r3,r4⟩:=hr
 unfold at_eq
 rw[r1,r2,r3,r4]
 clear r1 r2 r3 r4
 have hu:s.us j=us j:=by rw[h.u]
 show(s.lo j&& !relB L x us s j)=_∧((s.lo j&& !relB L x us s j)&&(us j||entB L x j))=_∧(s.ca j&& !relB L x us s j)=_∧(if relB L x us s j then 0 else if waitB L x us s j&& !decide (s.ti j=0)then s.ti j-1 else s.ti j)=_
 cases hlo:s.lo j with
 |false=>
  have hus:us j=false:=by
   cases hx:us j with
   |false=>rfl
   |true=>have:=h.ul j hx;rw[hlo]at this;cases this
  have hca:s.ca j=false:=by
   cases hx:s.ca j with
   |false=>rfl
   |true=>have:=h.cl j hx;rw[hlo]at this;cases this
  rw[if_neg (by simp)]
  have hw:waitB L x us s j=false:=by unfold waitB;rw[hca];rfl
  have hrel:relB L x us s j=false:=by unfold relB;rw[hus,hw];simp
  rw[hrel,hw,hca,hlo,hu,hus];simp
 |true=>
  have hj:=h.ln j hlo
  rw[if_pos ⟨hj,rfl⟩]
  have hfree:freeB L x j=frD x (ro L j):=by unfold freeB;rw[free_eq he hj];simp[hj]
  have hent:=ent_eq (x:=x) hj
  unfold relB waitB roD relS upd
  rw[hfree,hent]
  cases hus:us j<;>cases hen:hasB x.oc ((ro L j).path.getD 0 0)<;>cases hfr:frD x (ro L j)<;>cases hca:s.ca j<;>by_cases ht:s.ti j=0<;>
   (have ht':(0<s.ti j)=(¬s.ti j=0):=by apply propext;omega
    rw[hus]at hu
    simp[hlo,hu,hca,ht,ht'])
theorem step_eq{L:Ly}(he:checkE L=0)(s:Sta)(x:Inp)(cs:List (Int×Int)):stepB L s x cs=stepD L s x cs:=by
 unfold stepB stepD
 rw[cmd_eq he]
 exact end_eq he (si_cmd (si_tidy L s))
theorem pr_eq{L:Ly}{x:Inp}(he:checkE L=0)(s:Sta)(i:Nat):prB L x s i=(decide (i<L.r.length)&&proD L x s i):=by
 unfold prB proD freeB detB
 by_cases hi:i<L.r.length
 ·rw[free_eq he hi]
  have hg:=check_good he (List.getElem_mem hi)
  rw[←ro_eq hi]at hg
  have lp:=(may_lim (check_may he)).p
  have e:((none32 fun p=>nor L i p&& !sideN x p)&&(none32 fun p=>rev L i p&& !sideR x p))=(nds (ro L i)).all fun z=>if z.2 then sideR x z.1.toNat else sideN x z.1.toNat:=by
   rw[Bool.eq_iff_iff,Bool.and_eq_true,n32_iff,n32_iff,List.all_eq_true]
   constructor
   ·rintro⟨h1,h2⟩ ⟨zp,zb⟩ hz
    obtain⟨g0,g1⟩:=hg.nd _ hz
    obtain⟨m,rfl⟩:∃m:Nat,zp=(m:Int):=⟨zp.toNat,by simp only at g0;omega⟩
    have hm:m<32:=by simp only at g1;omega
    have hmt:(Int.toNat (m:Int))=m:=by omega
    simp only[hmt]
    cases zb with
    |false=>
     have hc:nor L i m=true:=List.contains_iff_mem.2 hz
     have:=h1 m hm
     rw[hc]at this
     simpa using this
    |true=>
     have hc:rev L i m=true:=List.contains_iff_mem.2 hz
     have:=h2 m hm
     rw[hc]at this
     simpa using this
   ·intro h
    refine⟨fun p hp=>?_,fun p hp=>?_⟩
    ·cases hc:nor L i p with
     |false=>rfl
     |true=>
      have:=h _ (List.contains_iff_mem.1 (show(nds (ro L i)).contains ((p:Int),false)=true from hc))
      have hmt:(Int.toNat (p:Int))=p:=by omega
      simp only[hmt,Bool.false_eq_true,if_false]at this
      rw[this];rfl
    ·cases hc:rev L i p with
     |false=>rfl
     |true=>
      have:=h _ (List.contains_iff_mem.1 (show(nds (ro L i)).contains ((p:Int),true)=true from hc))
      have hmt:(Int.toNat (p:Int))=p:=by omega
      simp only[hmt,if_true]at this
      rw[this];rfl
  rw[e]
  simp only[hi,decide_true,Bool.true_and]
  cases s.lo i<;>cases s.us i<;>cases s.ca i<;>cases frD x (ro L i)<;>simp
 ·simp[hi]
end Go.AM.Fd

set_option maxRecDepth 20000
namespace Go.AM.Fd
open Nat (reduceAdd reduceEqDiff reduceLT reduceLeDiff reduceMul reduceSub)
open Go.Proofs Go.AM.F
theorem eq_out2(K:AHeap)(neg:Bool)(f g:Nat→Bool):asem (.eqs [1,1] neg (.agg #[S64 f,S32 g]) (.agg #[S64 f,S32 g])) K=some (.bool (if neg then false else true),K):=by
 simp[asem,eqCs,eqC,S64,S32]
theorem staB_rfl(s:Sta):staB s s=true:=by unfold staB;simp
set_option maxHeartbeats 8000000 in
theorem t7{H:AHeap}{u:V4}{xs:List RV}{L:Ly}(hl:LyR H u xs L)(hi:LyIn 9223372036854775807 L)(s:Sta){x:Inp}{cv:Value}{cs:List (Int×Int)}(hc:SlC H 2 cv (cs.map cRow))(hkd:∀c∈cs,0≤c.1∧c.1<256):
 ∃w H',ARun Tryz.prog 0 7 [.agg u.l.toArray,.agg (stl s).toArray,.agg (inl x cv).toArray] H w H'∧w=.bool true∧Keeps H H':=by
 refine walk2 f7_ok f7_n ?_
 intro Q hq1 hq2
 have ho:=ly_ones hl
 have ll:u.l.length=4:=rfl
 have hinl:inl x cv=[S64 x.oc,S32 x.nr,S32 x.rv,cv]:=rfl
 have isc:=Sl.is hc.s
 have onec:=Sl.one hc.s
 have clen:lenS cv=cs.length:=by have:=Sl.len hc.s;simpa using this
 obtain⟨K0,hK0⟩:∃X,X=((H.alloc (.cells true false 4 u.l 27)).alloc (.cells true false 68 (stl s) 37)).alloc (.cells true false 4 (inl x cv) 42):=⟨_,rfl⟩
 have k0:Keeps H K0:=by rw[hK0];exact(((Keeps.refl H).alloc _).alloc _).alloc _
 have n0:K0.n=H.n+3:=by rw[hK0];rfl
 have gl0:K0.get H.n=some (.cells true false 4 u.l 27):=by rw[hK0];exact(((Keeps.refl _).alloc _).alloc _).at_ (AHeap.get_alloc_new H _)
 have gs0:K0.get (H.n+1)=some (.cells true false 68 (stl s) 37):=by rw[hK0];exact((Keeps.refl _).alloc _).at_ (AHeap.get_alloc_new (H.alloc _) _)
 have gi0:K0.get (H.n+2)=some (.cells true false 4 (inl x cv) 42):=by rw[hK0];exact AHeap.get_alloc_new ((H.alloc _).alloc _) _
 have hl0:=hl.keeps k0
 have hc0:=hc.keeps k0
 rw[hinl]at hK0 gi0 ⊢
 simp(disch:=first|assumption|omega|(simp only[LN]<;>omega)|(simp(disch:=first|assumption|omega|(simp only[LN]<;>omega))only[row_alloc,row_set];assumption))only[f7,W_block,P3,seval,initFr,clsA,ho,ll,stl_one,stl_len,onec,o_s64,o_s32,one_s64,one_s32]
 simp only[←hK0]
 refine callK (t14 hl0 hi) ?_
 rintro _ K1 ⟨k1,hm⟩
 rcases hm with rfl|⟨b,he,rfl,hMF⟩
 ·simp(disch:=first|assumption|omega)only[W_block,P3,seval,initFr,clsA]
  refine callQ (t11 _) ?_
  simp(disch:=first|assumption|omega)only[W_block,P3,seval,initFr,clsA]
  exact hq2 _ _ ⟨_,rfl,rfl,k0.trans k1⟩
 have gi1:=k1.at_ gi0
 have gs1:=k1.at_ gs0
 have gl1:=k1.at_ gl0
 by_cases hbig:(100:Int)<((cs.length:Nat):Int)
 ·simp(disch:=first|assumption|omega)only[W_block,P3,seval,initFr,clsA,gi1,isc,clen,hbig]
  refine callQ (t11 _) ?_
  simp(disch:=first|assumption|omega)only[W_block,P3,seval,initFr,clsA]
  exact hq2 _ _ ⟨_,rfl,rfl,k0.trans k1⟩
 have hL:=may_lim (check_may he)
 have lrr:=hL.r
 simp(disch:=first|assumption|omega)only[W_block,P3,seval,initFr,clsA,gi1,gl1,isc,clen,hbig,ll]
 refine callK (t17 (hl0.keeps k1) hi he) ?_
 rintro _ K2 ⟨k2,a,rfl,hA⟩
 have hM:=hMF.r.keeps k2
 have gi2:=k2.at_ gi1
 have gs2:=k2.at_ gs1
 have hc2:=(hc0.keeps k1).keeps k2
 have l1:=AHeap.get_lt gs2
 have l2:=AHeap.get_lt gi2
 have hcs:cs.length≤1000000:=by omega
 have hcl2:CL K2 cv cs:=hc2.s
 have t1:=fun Z (k:Keeps K2 Z)=>t15 (s:=s) (x:=x) (hM.keeps k) hL (hcl2.keeps k) hcs
 have t2:=fun Z (k:Keeps K2 Z)=>t18 (s:=s) (x:=x) (hA.keeps k) he (hc2.keeps k) hcs hkd
 have hst:=step_eq he s x cs
 have hpr:prB L x (stepD L s x cs)=fun i=>decide (i<L.r.length)&&proD L x (stepD L s x cs) i:=funext fun i=>pr_eq he _ i
 rw[hst,hpr]at t1
 obtain⟨t,ht⟩:∃t,t=stepD L s x cs:=⟨_,rfl⟩
 obtain⟨pr,hprr⟩:∃pr:Nat→Bool,pr=fun i=>decide (i<L.r.length)&&proD L x t i:=⟨_,rfl⟩
 simp only[hinl]at t1 t2
 rw[←ht,←hprr]at t1 t2
 simp(disch:=first|assumption|omega|(simp only[LN]<;>omega)|(simp(disch:=first|assumption|omega|(simp only[LN]<;>omega))only[row_alloc,row_set];assumption))only[W_block,P3,seval,initFr,clsA,gs2,gi2,rng68,l1,l2]
 refine callQ (t1 _ (Keeps.refl _)) ?_
 obtain⟨Y1,hY1⟩:∃Z,Z=(K2.alloc (.cells true false 68 (stl t) 37)).alloc (.cells true false 2 [S64 pr,S32 t.po] 68):=⟨_,rfl⟩
 have kk1:Keeps K2 Y1:=by rw[hY1];exact((Keeps.refl K2).alloc _).alloc _
 have ga1:Y1.get K2.n=some (.cells true false 68 (stl t) 37):=by rw[hY1];exact((Keeps.refl _).alloc _).at_ (AHeap.get_alloc_new K2 _)
 have gb1:Y1.get (K2.n+1)=some (.cells true false 2 [S64 pr,S32 t.po] 68):=by rw[hY1];exact AHeap.get_alloc_new (K2.alloc _) _
 have gs3:=kk1.at_ gs2
 have gi3:=kk1.at_ gi2
 simp(disch:=first|assumption|omega|(simp only[LN]<;>omega)|(simp(disch:=first|assumption|omega|(simp only[LN]<;>omega))only[row_alloc,row_set];assumption))only[W_block,P3,seval,initFr,clsA,gs2,gi2,rng68,stn68s,stl_one,stl_len,Z68I_z,o_s64,o_s32,one_s64,one_s32,l1,l2]
 simp only[←hY1]
 have m1:=AHeap.get_lt gs3
 have m2:=AHeap.get_lt gi3
 refine callQ (t2 _ kk1) ?_
 obtain⟨Y2,hY2⟩:∃Z,Z=(Y1.alloc (.cells true false 68 (stl t) 37)).alloc (.cells true false 2 [S64 pr,S32 t.po] 68):=⟨_,rfl⟩
 have kk2:Keeps Y1 Y2:=by rw[hY2];exact((Keeps.refl Y1).alloc _).alloc _
 have ga2:Y2.get Y1.n=some (.cells true false 68 (stl t) 37):=by rw[hY2];exact((Keeps.refl _).alloc _).at_ (AHeap.get_alloc_new Y1 _)
 have gb2:Y2.get (Y1.n+1)=some (.cells true false 2 [S64 pr,S32 t.po] 68):=by rw[hY2];exact AHeap.get_alloc_new (Y1.alloc _) _
 have gs4:=kk2.at_ gs3
 have e1a:=kk2.at_ ga1
 have e1b:=kk2.at_ gb1
 have m3:=AHeap.get_lt gs4
 have m4:=AHeap.get_lt e1a
 have m5:=AHeap.get_lt e1b
 have m6:=AHeap.get_lt ga2
 have m7:=AHeap.get_lt gb2
 have eqs0:=fun K a c=>eq_stl K false a c
 have eqo:=fun K=>eq_out2 K false pr t.po
 have rg2:∀(o r:Bool) (T:Nat),rangeO (some (.cells o r 2 [S64 pr,S32 t.po] T)) 0 2=some [S64 pr,S32 t.po]:=fun o r T=>rng_full rfl
 have bb:∀x:Bool,(x==x)=true:=fun x=>by cases x<;>rfl
 have hM4:=(hM.keeps kk1).keeps kk2
 have hA4:=(hA.keeps kk1).keeps kk2
 simp(disch:=first|assumption|omega|(simp only[LN]<;>omega)|(simp(disch:=first|assumption|omega|(simp only[LN]<;>omega))only[row_alloc,row_set];assumption))only[W_block,P3,seval,initFr,clsA,gs3,gi3,rng68,stn68s,stl_one,stl_len,Z68I_z,o_s64,o_s32,one_s64,one_s32,m1,m2]
 simp only[←hY2]
 simp(disch:=first|assumption|omega|(simp only[LN]<;>omega)|(simp(disch:=first|assumption|omega|(simp only[LN]<;>omega))only[row_alloc,row_set];assumption))only[W_block,P3,↓reduceIte,reduceAdd,reduceEqDiff,reduceCtorEq,initFr,reduceLT,clsA,reduceLeDiff,reduceMul,reduceSub,reduceIte,gs4,e1a,e1b,ga2,gb2,m3,m4,m5,m6,m7,rng68,rg2,eqs0,eqo,staB_rfl,O68I_r]
 refine callQ (t8 hM4 s) ?_
 simp(disch:=first|assumption|omega|(simp only[LN]<;>omega)|(simp(disch:=first|assumption|omega|(simp only[LN]<;>omega))only[row_alloc,row_set];assumption))only[W_block,P3,↓reduceIte,reduceAdd,reduceEqDiff,reduceCtorEq,initFr,reduceLT,clsA,reduceLeDiff,reduceMul,reduceSub,reduceIte,gs4,e1a,e1b,ga2,gb2,m3,m4,m5,m6,m7,rng68,rg2,eqs0,eqo,staB_rfl,O68I_r]
 refine callQ (t19 hA4 lrr s) ?_
 simp(disch:=first|assumption|omega|(simp only[LN]<;>omega)|(simp(disch:=first|assumption|omega|(simp only[LN]<;>omega))only[row_alloc,row_set];assumption))only[W_block,P3,↓reduceIte,reduceAdd,reduceEqDiff,reduceCtorEq,initFr,reduceLT,clsA,reduceLeDiff,reduceMul,reduceSub,reduceIte,gs4,e1a,e1b,ga2,gb2,m3,m4,m5,m6,m7,rng68,rg2,eqs0,eqo,staB_rfl,O68I_r]
 refine callK (t20 hM4 lrr s) ?_
 rintro _ X ⟨rfl,hX⟩
 rw[hX,rgt_eq he]
 simp(disch:=first|assumption|omega)only[W_block,P3,seval,initFr,clsA,gs4,e1a,e1b,ga2,gb2,m3,m4,m5,m6,m7,rng68,rg2,eqs0,eqo,staB_rfl,O68I_r]
 refine callQ (t21 hA4 he s) ?_
 simp(disch:=first|assumption|omega)only[W_block,P3,seval,initFr,clsA,bb]
 refine callQ (t11 _) ?_
 simp(disch:=first|assumption|omega)only[W_block,P3,seval,initFr,clsA]
 exact hq2 _ _ ⟨_,rfl,rfl,(((k0.trans k1).trans k2).trans kk1).trans kk2⟩
end Go.AM.Fd

set_option maxRecDepth 100000
set_option maxHeartbeats 0
namespace Go.AM.F
def Z68L:List Value:=[(.int .u64 0),(.int .u64 0),(.int .u64 0)]++List.replicate 64 (.int .u8 0)++[(.int .u32 0)]
def O68L:List Nat:=List.replicate 68 1
def Z30L:List Value:=[(.string ByteArray.empty),(.int .i64 0),(.slice none 0 0),(.slice none 0 0),(.slice none 0 0),(.slice none 0 0),(.string ByteArray.empty),(.int .i64 0),(.slice none 0 0),(.slice none 0 0),(.slice none 0 0),(.slice none 0 0),(.string ByteArray.empty),(.int .i64 0),(.slice none 0 0),(.slice none 0 0),(.slice none 0 0),(.slice none 0 0),(.string ByteArray.empty),(.int .i64 0),(.slice none 0 0),(.slice none 0 0),(.slice none 0 0),(.slice none 0 0),(.string ByteArray.empty),(.int .i64 0),(.slice none 0 0),(.slice none 0 0),(.slice none 0 0),(.slice none 0 0)]
def zclL:TypeId→List Value
 |42=>[(.int .u64 0),(.int .u32 0),(.int .u32 0),(.slice none 0 0)]
 |37=>Z68L
 |68=>[(.int .u64 0),(.int .u32 0)]
 |27=>[(.slice none 0 0),(.slice none 0 0),(.slice none 0 0),(.slice none 0 0)]
 |39=>[(.int .u8 0),(.int .i64 0)]
 |52=>[(.string ByteArray.empty),(.int .i64 0)]
 |53=>[(.string ByteArray.empty),(.int .i64 0)]
 |55=>[(.int .i64 0),(.bool false)]
 |49=>[(.string ByteArray.empty),(.int .i64 0),(.slice none 0 0),(.slice none 0 0),(.slice none 0 0),(.slice none 0 0)]
 |_=>[]
def zvlL:TypeId→Value
 |_=>undef
def zklL:TypeId→List Nat
 |37=>O68L
 |68=>[1,1]
 |_=>[]
def zrlL:Nat→TypeId→List Value
 |1,3=>[(.int .i64 0)]
 |2,39=>[(.int .u8 0),(.int .i64 0),(.int .u8 0),(.int .i64 0)]
 |1,39=>[(.int .u8 0),(.int .i64 0)]
 |8,3=>[(.int .i64 0),(.int .i64 0),(.int .i64 0),(.int .i64 0),(.int .i64 0),(.int .i64 0),(.int .i64 0),(.int .i64 0)]
 |6,9=>[(.string ByteArray.empty),(.string ByteArray.empty),(.string ByteArray.empty),(.string ByteArray.empty),(.string ByteArray.empty),(.string ByteArray.empty)]
 |2,52=>[(.string ByteArray.empty),(.int .i64 0),(.string ByteArray.empty),(.int .i64 0)]
 |3,53=>[(.string ByteArray.empty),(.int .i64 0),(.string ByteArray.empty),(.int .i64 0),(.string ByteArray.empty),(.int .i64 0)]
 |2,3=>[(.int .i64 0),(.int .i64 0)]
 |2,55=>[(.int .i64 0),(.bool false),(.int .i64 0),(.bool false)]
 |1,55=>[(.int .i64 0),(.bool false)]
 |5,49=>Z30L
 |_,_=>[]
noncomputable def f108:AFunc:=by
 refine(fun(_:Cz zclL zvlL zklL zrlL Go.Proofs.Tryz.prog 0 [0,1,4,5,6,10,18] 108 ?a)=>?a) ?h
 case h=>
 intro zc zv zk zr hc hv hk hr
 conv=>lhs;cbv;try simp only[hc,hv,hk,hr,zclL,zvlL,zklL,zrlL]
theorem f108_ok:compF Go.Proofs.Tryz.prog 0 [0,1,4,5,6,10,18] 108=some f108:=by kernel_rfl
theorem f108_n:argsOK Go.Proofs.Tryz.prog 108 2=true:=by kernel_rfl
noncomputable def f107:AFunc:=by
 refine(fun(_:Cz zclL zvlL zklL zrlL Go.Proofs.Tryz.prog 0 [0,2,3,4,8] 107 ?a)=>?a) ?h
 case h=>
 intro zc zv zk zr hc hv hk hr
 conv=>lhs;cbv;try simp only[hc,hv,hk,hr,zclL,zvlL,zklL,zrlL]
theorem f107_ok:compF Go.Proofs.Tryz.prog 0 [0,2,3,4,8] 107=some f107:=by kernel_rfl
theorem f107_n:argsOK Go.Proofs.Tryz.prog 107 1=true:=by kernel_rfl
noncomputable def f64:AFunc:=by
 refine(fun(_:Cz zclL zvlL zklL zrlL Go.Proofs.Tryz.prog 0 [0,1,2,3,4,5,6,7,8,9,10,31,35,44,48,57,62,92] 64 ?a)=>?a) ?h
 case h=>
 intro zc zv zk zr hc hv hk hr
 conv=>lhs;cbv;try simp only[hc,hv,hk,hr,zclL,zvlL,zklL,zrlL]
theorem f64_ok:compF Go.Proofs.Tryz.prog 0 [0,1,2,3,4,5,6,7,8,9,10,31,35,44,48,57,62,92] 64=some f64:=by kernel_rfl
theorem f64_n:argsOK Go.Proofs.Tryz.prog 64 2=true:=by kernel_rfl
noncomputable def f26:AFunc:=by
 refine(fun(_:Cz zclL zvlL zklL zrlL Go.Proofs.Tryz.prog 0 [0,1,2,3,4,7,12,22] 26 ?a)=>?a) ?h
 case h=>
 intro zc zv zk zr hc hv hk hr
 conv=>lhs;cbv;try simp only[hc,hv,hk,hr,zclL,zvlL,zklL,zrlL]
theorem f26_ok:compF Go.Proofs.Tryz.prog 0 [0,1,2,3,4,7,12,22] 26=some f26:=by kernel_rfl
theorem f26_n:argsOK Go.Proofs.Tryz.prog 26 1=true:=by kernel_rfl
noncomputable def f10:AFunc:=by
 refine(fun(_:Cz zclL zvlL zklL zrlL Go.Proofs.Tryz.prog 0 [0,1,2,3,4,5,6,7,9,10,11,14] 10 ?a)=>?a) ?h
 case h=>
 intro zc zv zk zr hc hv hk hr
 conv=>lhs;cbv;try simp only[hc,hv,hk,hr,zclL,zvlL,zklL,zrlL]
theorem f10_ok:compF Go.Proofs.Tryz.prog 0 [0,1,2,3,4,5,6,7,9,10,11,14] 10=some f10:=by kernel_rfl
theorem f10_n:argsOK Go.Proofs.Tryz.prog 10 2=true:=by kernel_rfl
noncomputable def f3:AFunc:=by
 refine(fun(_:Cz zclL zvlL zklL zrlL Go.Proofs.Tryz.prog 0 [0,1,2,3,4,5,6,7,8,9,10,11,12,14,15,23,25,47,59,63,112,134,136,148,149,150,151,155,166] 3 ?a)=>?a) ?h
 case h=>
 intro zc zv zk zr hc hv hk hr
 conv=>lhs;cbv;try simp only[hc,hv,hk,hr,zclL,zvlL,zklL,zrlL]
theorem f3_ok:compF Go.Proofs.Tryz.prog 0 [0,1,2,3,4,5,6,7,8,9,10,11,12,14,15,23,25,47,59,63,112,134,136,148,149,150,151,155,166] 3=some f3:=by kernel_rfl
theorem f3_n:argsOK Go.Proofs.Tryz.prog 3 0=true:=by kernel_rfl
noncomputable def f4:AFunc:=by
 refine(fun(_:Cz zclL zvlL zklL zrlL Go.Proofs.Tryz.prog 0 [0] 4 ?a)=>?a) ?h
 case h=>
 intro zc zv zk zr hc hv hk hr
 conv=>lhs;cbv;try simp only[hc,hv,hk,hr,zclL,zvlL,zklL,zrlL]
theorem f4_ok:compF Go.Proofs.Tryz.prog 0 [0] 4=some f4:=by kernel_rfl
theorem f4_n:argsOK Go.Proofs.Tryz.prog 4 0=true:=by kernel_rfl
end Go.AM.F

set_option maxRecDepth 8000
namespace Go.AM.Fd
open Nat (reduceAdd reduceEqDiff reduceLT reduceLeDiff reduceMul reduceSub)
open Go.Proofs Go.AM.F
theorem rMayA{H:AHeap}{u:V4}{xs:List RV}{L:Ly}(h:LyR H u xs L)(hf:LyIn 9223372036854775807 L):∃w H',ARun Tryz.prog 0 63 [.agg u.l.toArray] H w H'∧w=.bool (mayB L)∧H'=H:=by
 cases hfl:fullB L with
 |false=>exact t63 h (hf.fit2 (full_not hfl))
 |true=>
 refine gcb ?_
 refine walk2 f63_ok f63_n ?_
 intro Q hq1 hq2
 rw[full_may hfl]at hq1 hq2
 have os:=Sl.one h.s
 have op:=Sl.one h.p
 have og:=Sl.one h.g
 have or:=Sl.one h.r
 have hfu:=t101 (h.keeps ((Keeps.refl H).alloc (.cells true false 4 u.l 27)))
 obtain⟨us,up,ug,ur⟩:=u
 simp only[V4.l]at*
 simp(disch:=first|assumption|omega|(simp only[LN]<;>omega)|(simp(disch:=first|assumption|omega|(simp only[LN]<;>omega))only[row_alloc,row_set];assumption))only[f63,W_block,P3,seval,initFr,clsA,os,op,og,or]
 refine callK hfu ?_
 rintro _ X ⟨rfl,hX⟩
 rw[hX,hfl]
 simp(disch:=first|assumption|omega)only[W_block,P3,seval,initFr,clsA]
 exact hq2 _ _ ⟨_,rfl,rfl,(Keeps.refl H).alloc _⟩
theorem t108{H:AHeap}{v:Value}{l:List Int}(h:IL H v l)(hl:l.length≤1000000)(n:Int):
 ∃w H',ARun Tryz.prog 0 108 [v,.int .i64 n] H w H'∧w=.int .i64 ((l.count n:Nat):Int)∧H'=H:=by
 refine walk2 f108_ok f108_n ?_
 intro Q hq1 hq2
 have is:=Sl.is h
 have len:=h.len
 simp(disch:=first|assumption|omega)only[f108,P3,seval,initFr,clsA]
 rw[W_block]
 refine W_loop2 (fun q fr X=>∃i x5 x6,fr=[v,.int .i64 n,.int .i64 0,.int .i64 (((l.take i).count n:Nat):Int),.int .i64 ((i:Nat):Int),x5,x6]∧H=X∧i≤l.length∧q=l.length-i) l.length
  ⟨0,_,_,by simp;exact⟨rfl,rfl⟩,rfl,by omega,rfl⟩ ?_
 rintro Q' q fr X ⟨i,x5,x6,rfl,rfl,hi,rfl⟩ hn' hx' hret
 by_cases hlt:i<l.length
 ·obtain⟨na,ra⟩:=h.at_ hlt
  have e0:(0:Int)≤(i:Int):=by omega
  have e1:(i:Int)<((l.length:Nat):Int):=by omega
  have hw:IntKind.i64.wrap ((i:Int)+1)=((i+1:Nat):Int):=by rw[wrap_i64 (by omega) (by omega)];simp
  have hgd:l.getD i 0=l[i]:=by rw[List.getD_eq_getElem?_getD,List.getElem?_eq_getElem hlt];rfl
  have hc:(l.take (i+1)).count n=(l.take i).count n+if(l[i]==n)=true then 1 else 0:=by
   rw[List.take_add_one,List.getElem?_eq_getElem hlt,List.count_append];simp[List.count_cons]
  have hcl:(l.take i).count n≤i:=Nat.le_trans List.count_le_length (by rw[List.length_take];omega)
  have hw2:IntKind.i64.wrap ((((l.take i).count n:Nat):Int)+1)=(((l.take i).count n+1:Nat):Int):=by rw[wrap_i64 (by omega) (by omega)];simp
  rw[hgd]at ra
  generalize l[i]=z at*
  cases hz:(z==n)with
  |true=>
   rw[hz]at hc
   simp(disch:=first|assumption|omega)only[W_block,P3,seval,initFr,clsA,is,len,e0,e1,na,ra,a_load1v,hz,hw,hw2]
   exact hn' _ _ _ ⟨i+1,_,_,by rw[hc];exact rfl,rfl,by omega,rfl⟩ (by omega)
  |false=>
   rw[hz]at hc
   simp(disch:=first|assumption|omega)only[W_block,P3,seval,initFr,clsA,is,len,e0,e1,na,ra,a_load1v,hz,hw]
   exact hn' _ _ _ ⟨i+1,_,_,by rw[hc];exact rfl,rfl,by omega,rfl⟩ (by omega)
 ·have e1:¬(i:Int)<((l.length:Nat):Int):=by omega
  have hie:i=l.length:=by omega
  subst hie
  simp(disch:=first|assumption|omega)only[W_block,P3,seval,initFr,clsA,is,len,e1]
  refine hx' _ _ _ ?_
  simp(disch:=first|assumption|omega)only[W_block,P3,seval,initFr,clsA]
  exact hq2 _ _ ⟨.int .i64 _,rfl,by rw[List.take_length],rfl⟩
theorem t107{H:AHeap}{v:Value}{l:List (Int×Bool)}(h:NL H v l)(hl:l.length≤1000000):
 ∃w H',ARun Tryz.prog 0 107 [v] H w H'∧OW 3 1 H H' w ((l.map (·.1)).map iRow):=by
 refine walk2 f107_ok f107_n ?_
 intro Q hq1 hq2
 have is:=Sl.is h
 have len:=h.len
 simp(disch:=first|assumption|omega)only[f107,P3,seval,initFr,clsA]
 rw[W_block]
 refine W_loop2 (fun q fr X=>∃i w x4,fr=[v,.slice none 0 0,w,.int .i64 ((i:Nat):Int),x4]∧OW 3 1 H X w (((l.take i).map (·.1)).map iRow)∧i≤l.length∧q=l.length-i) l.length
  ⟨0,_,_,rfl,OW.nil _ _ (Keeps.refl H),by omega,rfl⟩ ?_
 rintro Q' q fr X ⟨i,w,x4,rfl,ow,hi,rfl⟩ hn' hx' hret
 by_cases hlt:i<l.length
 ·have hX:NL X v l:=Sl.keeps h ow.k
  obtain⟨na,ra⟩:=hX.at_ hlt
  have e0:(0:Int)≤(i:Int):=by omega
  have e1:(i:Int)<((l.length:Nat):Int):=by omega
  have hw:IntKind.i64.wrap ((i:Int)+1)=((i+1:Nat):Int):=by rw[wrap_i64 (by omega) (by omega)];simp
  have hgd:l.getD i (0,false)=l[i]:=by rw[List.getD_eq_getElem?_getD,List.getElem?_eq_getElem hlt];rfl
  have htk:l.take (i+1)=l.take i++[l[i]]:=by rw[List.take_add_one,List.getElem?_eq_getElem hlt];rfl
  have isw:=ow.is
  rw[hgd]at ra
  generalize l[i]=z at*
  simp(disch:=first|assumption|omega)only[W_block,P3,seval,initFr,clsA,is,len,e0,e1,na,ra,a_load1v,isw]
  refine OW.appR (ow.keeps ((Keeps.refl X).alloc _)) (Sl.one1 (row:=[.int .i64 z.1]) rfl rfl) (by simp;omega) ?_
  intro v' K' ow' c'
  simp(disch:=first|assumption|omega)only[W_block,P3,seval,initFr,clsA,hw]
  exact hn' _ _ _ ⟨i+1,v',_,rfl,by rw[htk,List.map_append,List.map_append];exact ow',by omega,rfl⟩ (by omega)
 ·have e1:¬(i:Int)<((l.length:Nat):Int):=by omega
  have hie:i=l.length:=by omega
  subst hie
  rw[List.take_length]at ow
  simp(disch:=first|assumption|omega)only[W_block,P3,seval,initFr,clsA,is,len,e1]
  refine hx' _ _ _ ?_
  simp(disch:=first|assumption|omega)only[W_block,P3,seval,initFr,clsA]
  exact hq2 _ _ ⟨_,rfl,ow⟩
theorem cnt_pos{l:List Int}{n:Int}:decide ((0:Int)<((l.count n:Nat):Int))=l.contains n:=by
 rw[Bool.eq_iff_iff,decide_eq_true_eq,List.contains_iff_mem]
 constructor
 ·intro h;exact List.count_pos_iff.1 (by omega)
 ·intro h;have:=List.count_pos_iff.2 h;omega
theorem dup_of{l:List Int}{i:Nat}(hi:i<l.length)(h:(1:Int)<((l.count l[i]:Nat):Int)):decide l.Nodup=false:=by
 rw[decide_eq_false_iff_not]
 intro hn
 have:=List.nodup_iff_count.1 hn l[i]
 omega
theorem nodup_of{l:List Int}(h:∀i (hi:i<l.length),¬(1:Int)<((l.count l[i]:Nat):Int)):decide l.Nodup=true:=by
 rw[decide_eq_true_eq,List.nodup_iff_count]
 intro a
 by_cases ha:a∈l
 ·obtain⟨i,hi,rfl⟩:=List.mem_iff_getElem.1 ha
  have:=h i hi;omega
 ·have:=List.count_eq_zero_of_not_mem ha;omega
theorem pts_any(l:List (Int×Bool))(n:Int):(l.map (·.1)).contains n=l.any (fun x=>x.1==n):=by
 rw[Bool.eq_iff_iff,List.contains_iff_mem,List.mem_map,List.any_eq_true]
 constructor
 ·rintro⟨z,hz,rfl⟩;exact⟨z,hz,by simp⟩
 ·rintro⟨z,hz,h⟩;exact⟨z,hz,by simpa using h⟩
set_option maxHeartbeats 4000000 in
theorem t64{H:AHeap}{u:V4}{xs:List RV}{L:Ly}{y:RV}(h:LyR H u xs L)(hy:y.ok H)(hr:RoLim L y.r)(hL:LyLim L):
 ∃w H',ARun Tryz.prog 0 64 [.agg u.l.toArray,.agg y.row.toArray] H w H'∧w=.bool (formedB L y.r)∧H'=H:=by
 refine gcb ?_
 refine walk2 f64_ok f64_n ?_
 intro Q hq1 hq2
 have os:=Sl.one h.s
 have op:=Sl.one h.p
 have og:=Sl.one h.g
 have or:=Sl.one h.r
 have ig:=Sl.is h.g
 have ip:=Sl.is h.p
 have lg:=h.g.len
 have lp:=h.p.len
 have hLp:=hL.p
 obtain⟨a3,a4,a5,a6⟩:=RV.ones hy
 have a1:one1 (Value.int .i64 y.r.g)=True:=by simp[one1,one_int]
 have a2:one1 (Value.string ⟨y.r.n.toArray⟩)=True:=by simp[one1,one_str]
 have hul:u.l=[u.s,u.p,u.g,u.r]:=rfl
 have rowy:y.row=[.string ⟨y.r.n.toArray⟩,.int .i64 y.r.g,y.vp,y.vq,y.vo,y.vf]:=rfl
 have lP:=hr.p
 have lO:=hr.o
 have lQ:=hr.q
 have lF:=hr.f
 obtain⟨K0,hK0⟩:∃X,X=(H.alloc (.cells true false 4 [u.s,u.p,u.g,u.r] 27)).alloc (.cells true false 6 y.row 49):=⟨_,rfl⟩
 have k0:Keeps H K0:=by rw[hK0];exact((Keeps.refl H).alloc _).alloc _
 have gl0:K0.get H.n=some (.cells true false 4 [u.s,u.p,u.g,u.r] 27):=by rw[hK0];exact((Keeps.refl _).alloc _).at_ (AHeap.get_alloc_new H _)
 have gy0:K0.get (H.n+1)=some (.cells true false 6 y.row 49):=by rw[hK0];exact AHeap.get_alloc_new (H.alloc _) _
 have hy0:=hy.keeps k0
 have tT:=t98 hy0 (by omega)
 simp only[rowy]at tT hK0 gy0
 rw[hul,rowy]
 simp(disch:=first|assumption|omega|(simp only[LN]<;>omega)|(simp(disch:=first|assumption|omega|(simp only[LN]<;>omega))only[row_alloc,row_set];assumption))only[f64,W_block,P3,seval,initFr,clsA,os,op,og,or,a1,a2,a3,a4,a5,a6]
 simp only[←hK0]
 refine callK tT ?_
 rintro tv K1 ⟨ht,k1,ft⟩
 have gl1:=k1.at_ gl0
 have gy1:=k1.at_ gy0
 have tN:=t61 (hy0.keeps k1) (by omega)
 simp only[rowy]at tN
 simp(disch:=first|assumption|omega|(simp only[LN]<;>omega)|(simp(disch:=first|assumption|omega|(simp only[LN]<;>omega))only[row_alloc,row_set];assumption))only[W_block,P3,seval,initFr,clsA,gy1]
 refine callK tN ?_
 rintro nv K2 ⟨hn,k2,fn⟩
 have ndl:(nds y.r).length≤32:=by simp[nds];omega
 have trl:(trk y.r).length≤1000000:=by simp[trk];omega
 simp(disch:=first|assumption|omega)only[W_block,P3,seval,initFr,clsA]
 refine callK (t107 hn (by omega)) ?_
 rintro pv K3 op3
 have k3:=op3.k
 have k03:=((k0.trans k1).trans k2).trans k3
 have gl3:=(k2.trans k3).at_ gl1
 have gy3:=(k2.trans k3).at_ gy1
 have ht3:IL K3 tv (trk y.r):=Sl.keeps ht (k2.trans k3)
 have hp3:IL K3 pv ((nds y.r).map (·.1)):=op3.sl
 have hy3:=hy.keeps k03
 have iy:=Sl.is hy.p
 have ly:=hy.p.len
 have hfd:formedB L y.r=(!badB L y.r&&(List.range L.p.length).all (ptB L y.r)):=rfl
 have hbd:badB L y.r=(y.r.path.isEmpty|| !decide (trk y.r).Nodup||(trk y.r).contains (L.g.getD y.r.g.toNat ([],0)).2 || !decide ((nds y.r).map (·.1)).Nodup):=rfl
 have no:∀{fr:List Value} {K:AHeap},Keeps H K→badB L y.r=true→resO f64.res fr K=some (.bool false)→Q .ret fr K:=fun k e hr'=>
  hq2 _ _ ⟨_,hr',by rw[hfd,e];rfl,k⟩
 by_cases hpe:y.r.path.length=0
 ·have hp0:((y.r.path.length:Nat):Int)=0:=by omega
  have hemp:y.r.path.isEmpty=true:=by rw[List.isEmpty_iff_length_eq_zero];exact hpe
  simp(disch:=first|assumption|omega)only[W_block,P3,seval,initFr,clsA,gy3,iy,ly,hp0]
  exact no k03 (by rw[hbd,hemp];rfl) rfl
 have hp0:(((y.r.path.length:Nat):Int)==0)=false:=by simp[hpe]
 have hemp:y.r.path.isEmpty=false:=by
  cases e:y.r.path with
  |nil=>rw[e]at hpe;simp at hpe
  |cons a l=>rfl
 rw[hemp,Bool.false_or]at hbd
 obtain⟨n,hn'⟩:∃n:Nat,y.r.g=(n:Int):=⟨y.r.g.toNat,by have:=hr.g.1;omega⟩
 have hnl:n<L.g.length:=by have:=hr.g.2;omega
 obtain⟨nag,rag⟩:=(h.g.keeps k03).at_ hnl
 have g0:(0:Int)≤(n:Int):=by omega
 have g1:(n:Int)<((L.g.length:Nat):Int):=by omega
 have hnt:Int.toNat (n:Int)=n:=by omega
 rw[hn',hnt]at hbd
 simp(disch:=first|assumption|omega)only[W_block,P3,seval,initFr,clsA,gy3,gl3,iy,ly,hp0,hn',g0,g1,ig,lg,nag,rag,a_load1v]
 refine callQ (t108 ht3 trl _) ?_
 have hcn:=cnt_pos (l:=trk y.r) (n:=(L.g.getD n ([],0)).2)
 by_cases hc:(0:Int)<(((trk y.r).count (L.g.getD n ([],0)).2 :Nat):Int)
 ·rw[decide_eq_true hc]at hcn
  simp(disch:=first|assumption|omega)only[W_block,P3,seval,initFr,clsA,hc]
  exact no k03 (by rw[hbd,←hcn];simp) rfl
 rw[decide_eq_false hc]at hcn
 rw[←hcn,Bool.or_false]at hbd
 have it:=Sl.is ht3
 have lt:=ht3.len
 have isp:=Sl.is hp3
 have lpn:=hp3.len
 obtain⟨A1,hA1⟩:∃v:Value,v=.agg #[u.s,u.p,u.g,u.r]:=⟨_,rfl⟩
 obtain⟨A2,hA2⟩:∃v:Value,v=.agg #[.string ⟨y.r.n.toArray⟩,.int .i64 (n:Int),y.vp,y.vq,y.vo,y.vf]:=⟨_,rfl⟩
 have trk':trk y.r=y.r.path++y.r.ov:=rfl
 simp(disch:=first|assumption|omega)only[P3,seval,initFr,clsA,hc]
 rw[W_block,←hA1,←hA2]
 refine W_loop2 (fun q fr X=>∃i x12 x13,fr=[A1,A2,ptr H.n 0,ptr (H.n+1) 0,.bool false,tv,pv,.int .i64 ((i:Nat):Int),undef,undef,undef,.bool false,x12,x13,undef,undef,undef,undef]∧K3=X∧
  (∀j (hj:j<(trk y.r).length),j<i→¬(1:Int)<(((trk y.r).count (trk y.r)[j]:Nat):Int))∧i≤(trk y.r).length∧q=(trk y.r).length - i) (trk y.r).length
  ⟨0,_,_,rfl,rfl,fun j _ hj=>by omega,by omega,rfl⟩ ?_
 rintro Q1 q fr X ⟨i,x12,x13,rfl,rfl,hall,hi,rfl⟩ hn1 hx1 hret1
 by_cases hlt:i<(trk y.r).length
 ·obtain⟨na,ra⟩:=ht3.at_ hlt
  have e0:(0:Int)≤(i:Int):=by omega
  have e1:(i:Int)<(((trk y.r).length:Nat):Int):=by omega
  have hw:IntKind.i64.wrap ((i:Int)+1)=((i+1:Nat):Int):=by rw[wrap_i64 (by omega) (by omega)];simp
  have hgd:(trk y.r).getD i 0=(trk y.r)[i]:=by rw[List.getD_eq_getElem?_getD,List.getElem?_eq_getElem hlt];rfl
  rw[hgd]at ra
  simp(disch:=first|assumption|omega)only[W_block,P3,seval,initFr,clsA,it,lt,e0,e1,na,ra,a_load1v]
  refine callQ (t108 ht3 trl _) ?_
  by_cases hc1:(1:Int)<(((trk y.r).count (trk y.r)[i]:Nat):Int)
  ·simp(disch:=first|assumption|omega)only[W_block,P3,seval,initFr,clsA,hc1]
   refine hret1 _ _ ?_
   exact no k03 (by rw[hbd,dup_of hlt hc1];rfl) rfl
  ·simp(disch:=first|assumption|omega)only[W_block,P3,seval,initFr,clsA,hc1,hw]
   exact hn1 _ _ _ ⟨i+1,_,_,rfl,rfl,fun j hj hji=>by
    rcases Nat.lt_or_ge j i with h5|h5
    ·exact hall j hj h5
    ·have:j=i:=by omega
     subst this;exact hc1,by omega,rfl⟩ (by omega)
 have e1:¬(i:Int)<(((trk y.r).length:Nat):Int):=by omega
 have hnd:decide (trk y.r).Nodup=true:=nodup_of fun j hj=>hall j hj (by omega)
 rw[hnd,Bool.not_true,Bool.false_or]at hbd
 simp(disch:=first|assumption|omega)only[W_block,P3,seval,initFr,clsA,it,lt,e1]
 refine hx1 _ _ _ ?_
 simp(disch:=first|assumption|omega)only[P3,seval,initFr,clsA]
 rw[W_block]
 obtain⟨pl,hpl⟩:∃pl,pl=(nds y.r).map (·.1):=⟨_,rfl⟩
 rw[←hpl]at hp3 hbd lpn
 have pll:pl.length≤1000000:=by rw[hpl,List.length_map];omega
 refine W_loop2 (fun q fr X=>∃j x14 x15,fr=[A1,A2,ptr H.n 0,ptr (H.n+1) 0,.bool false,tv,pv,.int .i64 ((i:Nat):Int),.int .i64 ((j:Nat):Int),undef,undef,.bool false,.bool false,x13,x14,x15,undef,undef]∧K3=X∧
  (∀k (hk:k<pl.length),k<j→¬(1:Int)<((pl.count pl[k]:Nat):Int))∧j≤pl.length∧q=pl.length-j) pl.length
  ⟨0,_,_,rfl,rfl,fun j _ hj=>by omega,by omega,rfl⟩ ?_
 rintro Q2 q fr X ⟨j,x14,x15,rfl,rfl,hall2,hj,rfl⟩ hn2 hx2 hret2
 by_cases hlt2:j<pl.length
 ·obtain⟨na,ra⟩:=hp3.at_ hlt2
  have e0:(0:Int)≤(j:Int):=by omega
  have e2:(j:Int)<((pl.length:Nat):Int):=by omega
  have hw:IntKind.i64.wrap ((j:Int)+1)=((j+1:Nat):Int):=by rw[wrap_i64 (by omega) (by omega)];simp
  have hgd:pl.getD j 0=pl[j]:=by rw[List.getD_eq_getElem?_getD,List.getElem?_eq_getElem hlt2];rfl
  rw[hgd]at ra
  simp(disch:=first|assumption|omega)only[W_block,P3,seval,initFr,clsA,isp,lpn,e0,e2,na,ra,a_load1v]
  refine callQ (t108 hp3 pll _) ?_
  by_cases hc1:(1:Int)<((pl.count pl[j]:Nat):Int)
  ·simp(disch:=first|assumption|omega)only[W_block,P3,seval,initFr,clsA,hc1]
   refine hret2 _ _ ?_
   exact no k03 (by rw[hbd,dup_of hlt2 hc1];rfl) rfl
  ·simp(disch:=first|assumption|omega)only[W_block,P3,seval,initFr,clsA,hc1,hw]
   exact hn2 _ _ _ ⟨j+1,_,_,rfl,rfl,fun k hk hkj=>by
    rcases Nat.lt_or_ge k j with h5|h5
    ·exact hall2 k hk h5
    ·have:k=j:=by omega
     subst this;exact hc1,by omega,rfl⟩ (by omega)
 have e2:¬(j:Int)<((pl.length:Nat):Int):=by omega
 have hnd2:decide pl.Nodup=true:=nodup_of fun k hk=>hall2 k hk (by omega)
 rw[hnd2]at hbd
 have hfd2:formedB L y.r=(List.range L.p.length).all (ptB L y.r):=by rw[hfd,hbd];rfl
 simp(disch:=first|assumption|omega)only[W_block,P3,seval,initFr,clsA,isp,lpn,e2]
 refine hx2 _ _ _ ?_
 simp(disch:=first|assumption|omega)only[P3,seval,initFr,clsA]
 rw[W_block]
 refine W_loop2 (fun q fr X=>∃k x10 x16 x17,fr=[A1,A2,ptr H.n 0,ptr (H.n+1) 0,.bool false,tv,pv,.int .i64 ((i:Nat):Int),.int .i64 ((j:Nat):Int),.int .i64 ((k:Nat):Int),x10,.bool false,.bool false,x13,.bool false,x15,x16,x17]∧Keeps K3 X∧
  (List.range k).all (ptB L y.r)=true∧k≤L.p.length∧q=L.p.length-k) L.p.length
  ⟨0,_,_,_,rfl,Keeps.refl _,rfl,by omega,rfl⟩ ?_
 rintro Q3 q fr X ⟨k,x10,x16,x17,rfl,kX,hall3,hk,rfl⟩ hn3 hx3 hret3
 have glX:=kX.at_ gl3
 have gyX:=kX.at_ gy3
 by_cases hlt3:k<L.p.length
 ·obtain⟨np,rp⟩:=(h.p.keeps (k03.trans kX)).at_ hlt3
  have e0:(0:Int)≤(k:Int):=by omega
  have e3:(k:Int)<((L.p.length:Nat):Int):=by omega
  have hw:IntKind.i64.wrap ((k:Int)+1)=((k+1:Nat):Int):=by rw[wrap_i64 (by omega) (by omega)];simp
  have hpt:ptB L y.r k=(((trk y.r).contains (L.p.getD k ([],0)).2 ==y.r.pts.any (fun x=>x.1==(k:Int)))&& !((trk y.r).contains (L.p.getD k ([],0)).2 &&y.r.fl.any (fun x=>x.1==(k:Int)))):=rfl
  have snoc:=fun e=>all_snoc (p:=ptB L y.r) hall3 e
  have bad:=fun e=>all_at (p:=ptB L y.r) hlt3 e
  generalize L.p.getD k ([],0)=z at*
  simp(disch:=first|assumption|omega)only[W_block,P3,seval,initFr,clsA,glX,ip,lp,e0,e3,np,rp,a_load1v]
  refine callQ (t108 (ht3.keeps kX) trl _) ?_
  have hq3:NL X y.vq y.r.pts:=(hy.keeps (k03.trans kX)).q
  have hf3:NL X y.vf y.r.fl:=(hy.keeps (k03.trans kX)).f
  have c1:=cnt_pos (l:=trk y.r) (n:=z.2)
  have go:∀(b1:Bool),decide ((0:Int)<(((trk y.r).count z.2:Nat):Int))=b1→(trk y.r).contains z.2=b1:=fun b1 e=>by rw[←c1,e]
  by_cases hin:(0:Int)<(((trk y.r).count z.2:Nat):Int)
  ·have hin':=go true (decide_eq_true hin)
   rw[hin']at hpt
   simp(disch:=first|assumption|omega)only[W_block,P3,seval,initFr,clsA,hin,gyX]
   refine callK (t107 hq3 (by omega)) ?_
   rintro qv X1 oq
   have c2:=cnt_pos (l:=y.r.pts.map (·.1)) (n:=(k:Int))
   rw[pts_any]at c2
   simp(disch:=first|assumption|omega)only[W_block,P3,seval,initFr,clsA]
   refine callQ (t108 oq.sl (by rw[List.length_map];omega) _) ?_
   by_cases hp2:(0:Int)<(((y.r.pts.map (·.1)).count (k:Int):Nat):Int)
   ·rw[decide_eq_true hp2]at c2
    rw[←c2]at hpt
    have gyX1:=oq.k.at_ gyX
    have hf4:NL X1 y.vf y.r.fl:=Sl.keeps hf3 oq.k
    simp(disch:=first|assumption|omega)only[W_block,P3,seval,initFr,clsA,hp2,gyX1]
    refine callK (t107 hf4 (by omega)) ?_
    rintro fv X2 of
    have c3:=cnt_pos (l:=y.r.fl.map (·.1)) (n:=(k:Int))
    rw[pts_any]at c3
    simp(disch:=first|assumption|omega)only[W_block,P3,seval,initFr,clsA]
    refine callQ (t108 of.sl (by rw[List.length_map];omega) _) ?_
    by_cases hp3:(0:Int)<(((y.r.fl.map (·.1)).count (k:Int):Nat):Int)
    ·rw[decide_eq_true hp3]at c3
     rw[←c3]at hpt
     simp(disch:=first|assumption|omega)only[W_block,P3,seval,initFr,clsA,hp3]
     refine hret3 _ _ ?_
     exact hq2 _ _ ⟨.bool false,rfl,by rw[hfd2,bad hpt],((k03.trans kX).trans oq.k).trans of.k⟩
    ·rw[decide_eq_false hp3]at c3
     rw[←c3]at hpt
     simp(disch:=first|assumption|omega)only[W_block,P3,seval,initFr,clsA,hp3,hw]
     exact hn3 _ _ _ ⟨k+1,_,_,_,rfl,(kX.trans oq.k).trans of.k,snoc hpt,by omega,rfl⟩ (by omega)
   ·rw[decide_eq_false hp2]at c2
    rw[←c2]at hpt
    simp(disch:=first|assumption|omega)only[W_block,P3,seval,initFr,clsA,hp2]
    refine hret3 _ _ ?_
    exact hq2 _ _ ⟨.bool false,rfl,by rw[hfd2,bad hpt],(k03.trans kX).trans oq.k⟩
  ·have hin':=go false (decide_eq_false hin)
   rw[hin']at hpt
   simp(disch:=first|assumption|omega)only[W_block,P3,seval,initFr,clsA,hin,gyX]
   refine callK (t107 hq3 (by omega)) ?_
   rintro qv X1 oq
   have c2:=cnt_pos (l:=y.r.pts.map (·.1)) (n:=(k:Int))
   rw[pts_any]at c2
   simp(disch:=first|assumption|omega)only[W_block,P3,seval,initFr,clsA]
   refine callQ (t108 oq.sl (by rw[List.length_map];omega) _) ?_
   by_cases hp2:(0:Int)<(((y.r.pts.map (·.1)).count (k:Int):Nat):Int)
   ·rw[decide_eq_true hp2]at c2
    rw[←c2]at hpt
    simp(disch:=first|assumption|omega)only[W_block,P3,seval,initFr,clsA,hp2]
    refine hret3 _ _ ?_
    exact hq2 _ _ ⟨.bool false,rfl,by rw[hfd2,bad hpt],(k03.trans kX).trans oq.k⟩
   ·rw[decide_eq_false hp2]at c2
    rw[←c2]at hpt
    simp(disch:=first|assumption|omega)only[W_block,P3,seval,initFr,clsA,hp2,hw]
    exact hn3 _ _ _ ⟨k+1,_,_,_,rfl,kX.trans oq.k,snoc hpt,by omega,rfl⟩ (by omega)
 ·have e3:¬(k:Int)<((L.p.length:Nat):Int):=by omega
  have hke:k=L.p.length:=by omega
  subst hke
  simp(disch:=first|assumption|omega)only[W_block,P3,seval,initFr,clsA,glX,ip,lp,e3]
  refine hx3 _ _ _ ?_
  simp(disch:=first|assumption|omega)only[W_block,P3,seval,initFr,clsA]
  exact hq2 _ _ ⟨.bool true,rfl,by rw[hfd2,hall3],k03.trans kX⟩
set_option maxHeartbeats 2000000 in
theorem t26{H:AHeap}{u:V4}{xs:List RV}{L:Ly}(h:LyR H u xs L)(hf:LyIn 9223372036854775807 L):
 ∃w H',ARun Tryz.prog 0 26 [.agg u.l.toArray] H w H'∧H'=H∧∃i,w=.tuple #[.int .i64 (checkE L),.int .i64 i]:=by
 suffices h':∃w H',ARun Tryz.prog 0 26 [.agg u.l.toArray] H w H'∧Keeps H H'∧∃i,w=.tuple #[.int .i64 (checkE L),.int .i64 i] by
  obtain⟨_,_,a,k,i,rfl⟩:=h'
  exact⟨_,_,a.gc0 k (.inr (.tuple _ _ rfl (fun i a b=>by
   match i,a with
   |0,_=>exact .int _ _
   |1,_=>exact .int _ _))),rfl,_,rfl⟩
 refine walk2 f26_ok f26_n ?_
 intro Q hq1 hq2
 have os:=Sl.one h.s
 have op:=Sl.one h.p
 have og:=Sl.one h.g
 have or:=Sl.one h.r
 have ir:=Sl.is h.r
 have lr:=h.r.len
 rw[h.rlen]at lr
 have hul:u.l=[u.s,u.p,u.g,u.r]:=rfl
 have hce:checkE L=if mayB L then(if L.r.all (formedB L)then 0 else 50)else 2:=rfl
 obtain⟨K0,hK0⟩:∃X,X=H.alloc (.cells true false 4 [u.s,u.p,u.g,u.r] 27):=⟨_,rfl⟩
 have k0:Keeps H K0:=by rw[hK0];exact(Keeps.refl H).alloc _
 have gl0:K0.get H.n=some (.cells true false 4 [u.s,u.p,u.g,u.r] 27):=by rw[hK0];exact AHeap.get_alloc_new H _
 have tM:=rMayA (h.keeps k0) hf
 simp only[hul]at tM ⊢
 simp(disch:=first|assumption|omega|(simp only[LN]<;>omega)|(simp(disch:=first|assumption|omega|(simp only[LN]<;>omega))only[row_alloc,row_set];assumption))only[f26,W_block,P3,seval,initFr,clsA,os,op,og,or]
 simp only[←hK0]
 refine callK tM ?_
 rintro _ X ⟨rfl,hX⟩
 rw[hX]
 cases hmay:mayB L with
 |false=>
  rw[hmay]at hce
  simp(disch:=first|assumption|omega)only[W_block,P3,seval,initFr,clsA]
  exact hq2 _ _ ⟨.tuple #[.int .i64 2,.int .i64 0],rfl,k0,0,by rw[hce];rfl⟩
 |true=>
 rw[hmay]at hce
 have hL:=may_lim hmay
 have lrr:=hL.r
 simp(disch:=first|assumption|omega)only[P3,seval,initFr,clsA]
 obtain⟨A1,hA1⟩:∃v:Value,v=.agg #[u.s,u.p,u.g,u.r]:=⟨_,rfl⟩
 rw[W_block,←hA1]
 refine W_loop2 (fun q fr X=>∃i x6 x7,fr=[A1,ptr H.n 0,.int .i64 0,.int .i64 0,.int .i64 ((i:Nat):Int),.bool false,x6,x7]∧K0=X∧(L.r.take i).all (formedB L)=true∧i≤L.r.length∧q=L.r.length-i) L.r.length
  ⟨0,_,_,rfl,rfl,by simp,by omega,rfl⟩ ?_
 rintro Q' q fr X ⟨i,x6,x7,rfl,rfl,hall,hi,rfl⟩ hn' hx' hret
 by_cases hlt:i<L.r.length
 ·have e0:(0:Int)≤(i:Int):=by omega
  have e1:(i:Int)<((L.r.length:Nat):Int):=by omega
  have hw:IntKind.i64.wrap ((i:Int)+1)=((i+1:Nat):Int):=by rw[wrap_i64 (by omega) (by omega)];simp
  obtain⟨hyr,hyo⟩:=rv_ro h hlt
  obtain⟨na,ra⟩:=(h.r.keeps k0).at_ (i:=i) (by rw[h.rlen];exact hlt)
  have hlim:=may_ro hmay (List.getElem_mem hlt)
  have snoc:=fun e=>take_all (p:=formedB L) hlt hall e
  have bad:formedB L L.r[i]=false→L.r.all (formedB L)=false:=fun e=>List.all_eq_false.2 ⟨_,List.getElem_mem hlt,by rw[e];simp⟩
  rw[←ro_eq hlt,←hyr]at hlim snoc bad
  generalize xs.getD i rv0=y at*
  have rowy:y.row=[.string ⟨y.r.n.toArray⟩,.int .i64 y.r.g,y.vp,y.vq,y.vo,y.vf]:=rfl
  have tF:=t64 (h.keeps k0) (hyo.keeps k0) hlim hL
  simp only[rowy]at ra
  simp only[hul,rowy]at tF
  simp(disch:=first|assumption|omega|(simp only[LN]<;>omega)|(simp(disch:=first|assumption|omega|(simp only[LN]<;>omega))only[row_alloc,row_set];assumption))only[W_block,P3,seval,initFr,clsA,gl0,ir,lr,e0,e1,na,ra,a_loadnvf]
  refine callK tF ?_
  rintro _ X ⟨rfl,hX⟩
  rw[hX]
  cases hfo:formedB L y.r with
  |false=>
   rw[bad hfo]at hce
   simp(disch:=first|assumption|omega)only[W_block,P3,seval,initFr,clsA]
   refine hret _ _ ?_
   exact hq2 _ _ ⟨.tuple #[.int .i64 50,.int .i64 (i:Int)],rfl,k0,i,by rw[hce];rfl⟩
  |true=>
   simp(disch:=first|assumption|omega)only[W_block,P3,seval,initFr,clsA,hw]
   exact hn' _ _ _ ⟨i+1,_,_,rfl,rfl,snoc hfo,by omega,rfl⟩ (by omega)
 ·have e1:¬(i:Int)<((L.r.length:Nat):Int):=by omega
  rw[List.take_of_length_le (by omega)]at hall
  rw[hall]at hce
  simp(disch:=first|assumption|omega)only[W_block,P3,seval,initFr,clsA,gl0,ir,lr,e1]
  refine hx' _ _ _ ?_
  simp(disch:=first|assumption|omega)only[W_block,P3,seval,initFr,clsA]
  exact hq2 _ _ ⟨.tuple #[.int .i64 0,.int .i64 0],rfl,k0,0,by rw[hce];rfl⟩
end Go.AM.Fd

namespace Go.AM.Fd
open Go.Proofs Go.AM.F
def RB:Nat:=140737488351232
structure RVB (x:RV):Prop where
 p:x.r.path.length*8≤RB
 q:x.r.pts.length*16≤RB
 o:x.r.ov.length*8≤RB
 f:x.r.fl.length*16≤RB
structure LyB (xs:List RV) (L:Ly):Prop where
 s:L.s.length*16≤RB
 p:L.p.length*24≤RB
 g:L.g.length*24≤RB
 r:L.r.length*120≤RB
 x:∀y∈xs,RVB y
end Go.AM.Fd

set_option maxRecDepth 8000
namespace Go.AM.Fd
open Nat (reduceAdd reduceEqDiff reduceLT reduceLeDiff reduceMul reduceSub)
open Go.Proofs Go.AM.F
def NoZ(K:AHeap)(S:List Nat)(z:Nat):Prop:=∀b∈S,∀o r esz c t,K.get b=some (.cells o r esz c t)→esz≠z
theorem ap_z{K K':AHeap}{e z m:Nat}{v:Value}{c:List Value}{S:List Nat}(h:AP K e z v m c)(cc:Chg S K K')(hS:NoZ K S z):AP K' e z v m c:=by
 rcases h with h|⟨b,room,rfl,h1,h2⟩
 ·exact .inl h
 ·refine .inr ⟨b,room,rfl,h1,cc.at_ h2 (fun hb=>hS b hb _ _ _ _ _ h2 rfl)⟩
theorem noz_blk{e z z':Nat}{H K:AHeap}{v:Value}{rows:List (List Value)}(h:OW e z H K v rows)(hz:z≠z'):NoZ K (blkL v) z':=by
 intro b hb o r esz c t g
 rw[mem_blkL]at hb
 rcases h.ap with⟨rfl,_,_⟩|⟨b',room,rfl,_,h2⟩
 ·cases hb
 ·cases hb
  rw[h2]at g
  injection(Option.some.inj g)with _ _ e3 _ _
  omega
theorem noz_one{K:AHeap}{b z z':Nat}{o r:Bool}{c:List Value}{t:Nat}(g:K.get b=some (.cells o r z c t))(hz:z≠z'):NoZ K [b] z':=by
 intro b' hb o' r' esz c' t' g'
 rw[List.mem_singleton]at hb
 subst hb
 rw[g]at g'
 injection(Option.some.inj g')with _ _ e3 _ _
 omega
theorem ow_z{e z:Nat}{H K K':AHeap}{v:Value}{rows:List (List Value)}{S:List Nat}(h:OW e z H K v rows)(cc:Chg S K K')(hS:NoZ K S z)(k:Keeps H K'):OW e z H K' v rows:=⟨ap_z h.ap cc hS,h.r,k,h.f⟩
structure RVo (H K:AHeap) (y:RV):Prop where
 p:OW 3 1 H K y.vp (y.r.path.map iRow)
 q:OW 55 2 H K y.vq (y.r.pts.map nRow)
 o:OW 3 1 H K y.vo (y.r.ov.map iRow)
 f:OW 55 2 H K y.vf (y.r.fl.map nRow)
theorem RVo.ok{H K:AHeap}{y:RV}(h:RVo H K y):y.ok K:=⟨h.p.sl,h.q.sl,h.o.sl,h.f.sl⟩
theorem RVo.keeps{H K K':AHeap}{y:RV}(h:RVo H K y)(k:Keeps K K'):RVo H K' y:=⟨h.p.keeps k,h.q.keeps k,h.o.keeps k,h.f.keeps k⟩
theorem RVo.z{H K K':AHeap}{y:RV}{S:List Nat}(h:RVo H K y)(cc:Chg S K K')(h1:NoZ K S 1)(h2:NoZ K S 2)(k:Keeps H K'):RVo H K' y:=⟨ow_z h.p cc h1 k,ow_z h.q cc h2 k,ow_z h.o cc h1 k,ow_z h.f cc h2 k⟩
structure CpI (H K:AHeap) (u:V4) (L:Ly) (ys:List RV):Prop where
 s:OW 9 1 H K u.s (L.s.map tRow)
 p:OW 52 2 H K u.p (L.p.map pRow)
 g:OW 53 2 H K u.g (L.g.map pRow)
 r:OW 49 6 H K u.r (ys.map RV.row)
 y:∀y∈ys,RVo H K y
theorem CpI.keeps{H K K':AHeap}{u:V4}{L:Ly}{ys:List RV}(h:CpI H K u L ys)(k:Keeps K K'):CpI H K' u L ys:=⟨h.s.keeps k,h.p.keeps k,h.g.keeps k,h.r.keeps k,fun y hy=>(h.y y hy).keeps k⟩
theorem CpI.z{H K K':AHeap}{u:V4}{L:Ly}{ys:List RV}{b z t:Nat}{o r:Bool}{c:List Value}(h:CpI H K u L ys)(cc:Chg [b] K K')(g:K.get b=some (.cells o r z c t))(h1:z≠1)(h2:z≠2)(h6:z≠6)(k:Keeps H K'):CpI H K' u L ys:=
 ⟨ow_z h.s cc (noz_one g h1) k,ow_z h.p cc (noz_one g h2) k,ow_z h.g cc (noz_one g h2) k,ow_z h.r cc (noz_one g h6) k,fun y hy=>(h.y y hy).z cc (noz_one g h1) (noz_one g h2) k⟩
theorem CpI.ly{H K:AHeap}{u:V4}{L:Ly}{ys:List RV}(h:CpI H K u L ys)(e:ys.map (·.r)=L.r):LyR K u ys L:=⟨h.s.sl,h.p.sl,h.g.sl,h.r.sl,e,fun y hy=>(h.y y hy).ok⟩
theorem nilK{K K':AHeap}(c:Chg (blkL (.slice none 0 0)) K K'):Keeps K K':=by
 rw[show blkL (Value.slice none 0 0)=[]from rfl]at c;exact c.keeps (by simp)
theorem fillR6(a:ByteArray)(k:Int):fillA [.string ByteArray.empty,.int .i64 0,.slice none 0 0,.slice none 0 0,.slice none 0 0,.slice none 0 0] [(0,1,.string a),(1,1,.int .i64 k)]=some [.string a,.int .i64 k,.slice none 0 0,.slice none 0 0,.slice none 0 0,.slice none 0 0]:=rfl
theorem fillR7(x:ByteArray)(y:Int)(a b c d e f g h i j:Value):fillA [.string x,.int .i64 y,g,h,i,j] [(0,6,.agg #[a,b,c,d,e,f])]=some [a,b,c,d,e,f]:=rfl
set_option maxHeartbeats 8000000 in
theorem t13{H:AHeap}{u:V4}{xs:List RV}{L:Ly}(h:LyR H u xs L)(hb:LyB xs L):
 ∃w H',ARun Tryz.prog 0 13 [.agg u.l.toArray] H w H'∧Keeps H H'∧∃u' ys,w=.agg (V4.l u').toArray∧CpI H H' u' L ys∧ys.map (·.r)=L.r:=by
 refine walk2 f13_ok f13_n ?_
 intro Q hq1 hq2
 have B1:=hb.s
 have B2:=hb.p
 have B3:=hb.g
 have B4:=hb.r
 unfold RB at B1 B2 B3 B4
 have os:=Sl.one h.s
 have op:=Sl.one h.p
 have og:=Sl.one h.g
 have or:=Sl.one h.r
 have ir:=Sl.is h.r
 have lenr:=h.r.len
 rw[h.rlen]at lenr
 have hul:u.l=[u.s,u.p,u.g,u.r]:=rfl
 obtain⟨K0,hK0⟩:∃X,X=((H.alloc (.cells true false 4 [u.s,u.p,u.g,u.r] 27)).alloc (.cells true false 4 [.slice none 0 0,.slice none 0 0,.slice none 0 0,.slice none 0 0] 27)).alloc (.cells true false 4 [.slice none 0 0,.slice none 0 0,.slice none 0 0,.slice none 0 0] 27):=⟨_,rfl⟩
 have k0:Keeps H K0:=by rw[hK0];exact(((Keeps.refl H).alloc _).alloc _).alloc _
 have n0:K0.n=H.n+3:=by rw[hK0];rfl
 have gl0:K0.get H.n=some (.cells true false 4 [u.s,u.p,u.g,u.r] 27):=by rw[hK0];exact(((Keeps.refl _).alloc _).alloc _).at_ (AHeap.get_alloc_new H _)
 have gw0:K0.get (H.n+1)=some (.cells true false 4 [.slice none 0 0,.slice none 0 0,.slice none 0 0,.slice none 0 0] 27):=by rw[hK0];exact((Keeps.refl _).alloc _).at_ (AHeap.get_alloc_new (H.alloc _) _)
 have go0:K0.get (H.n+2)=some (.cells true false 4 [.slice none 0 0,.slice none 0 0,.slice none 0 0,.slice none 0 0] 27):=by rw[hK0];exact AHeap.get_alloc_new ((H.alloc _).alloc _) _
 rw[hul]
 simp(disch:=first|assumption|omega|(simp only[LN]<;>omega)|(simp(disch:=first|assumption|omega|(simp only[LN]<;>omega))only[row_alloc,row_set];assumption))only[f13,W_block,P3,seval,initFr,clsA,os,op,og,or]
 simp only[←hK0]
 -- sections
 refine OW.appR (OW.nil 9 1 k0) (Sl.keeps h.s k0) (by simp;omega) ?_
 intro v1 K1 w1 c1
 have k1:=nilK c1
 have gl1:=k1.at_ gl0
 have gw1:=k1.at_ gw0
 have go1:=k1.at_ go0
 have lo1:=AHeap.get_lt go1
 have o1:=w1.one
 obtain⟨K2,hK2⟩:∃X,X=K1.set (H.n+2) (.cells true false 4 [v1,.slice none 0 0,.slice none 0 0,.slice none 0 0] 27):=⟨_,rfl⟩
 have c2:Chg [H.n+2] K1 K2:=by rw[hK2];exact Chg.set K1 lo1 _
 have k2:Keeps H K2:=(k0.trans k1).chg_trans c2 (by simp)
 have gl2:=c2.at_ gl1 (by simp)
 have gw2:=c2.at_ gw1 (by simp)
 have go2:K2.get (H.n+2)=some (.cells true false 4 [v1,.slice none 0 0,.slice none 0 0,.slice none 0 0] 27):=by rw[hK2];exact AHeap.get_set_same go1 _
 have w2:=ow_z w1 c2 (noz_one go1 (by omega)) k2
 simp(disch:=first|assumption|omega)only[W_block,P3,seval,initFr,clsA,go1,gl1,o1]
 simp only[←hK2]
 -- points
 refine OW.appR (OW.nil 52 2 k2) (Sl.keeps h.p k2) (by simp;omega) ?_
 intro v2 K3 w3 c3
 have k3:=nilK c3
 have kH3:=k2.trans k3
 have go3:=k3.at_ go2
 have gl3:=k3.at_ gl2
 have lo3:=AHeap.get_lt go3
 have o2:=w3.one
 obtain⟨K4,hK4⟩:∃X,X=K3.set (H.n+2) (.cells true false 4 [v1,v2,.slice none 0 0,.slice none 0 0] 27):=⟨_,rfl⟩
 have c4:Chg [H.n+2] K3 K4:=by rw[hK4];exact Chg.set K3 lo3 _
 have k4:Keeps H K4:=kH3.chg_trans c4 (by simp)
 have gl4:=c4.at_ gl3 (by simp)
 have go4:K4.get (H.n+2)=some (.cells true false 4 [v1,v2,.slice none 0 0,.slice none 0 0] 27):=by rw[hK4];exact AHeap.get_set_same go3 _
 have w1_4:=ow_z (w2.keeps k3) c4 (noz_one go3 (by omega)) k4
 have w2_4:=ow_z w3 c4 (noz_one go3 (by omega)) k4
 simp(disch:=first|assumption|omega)only[W_block,P3,seval,initFr,clsA,go3,gl3,o2]
 simp only[←hK4]
 -- signals
 refine OW.appR (OW.nil 53 2 k4) (Sl.keeps h.g k4) (by simp;omega) ?_
 intro v3 K5 w5 c5
 have k5:=nilK c5
 have kH5:=k4.trans k5
 have go5:=k5.at_ go4
 have gl5:=k5.at_ gl4
 have gw5:=(k5.at_ (c4.at_ (k3.at_ gw2) (by simp)))
 have lo5:=AHeap.get_lt go5
 have o3:=w5.one
 obtain⟨K6,hK6⟩:∃X,X=K5.set (H.n+2) (.cells true false 4 [v1,v2,v3,.slice none 0 0] 27):=⟨_,rfl⟩
 have c6:Chg [H.n+2] K5 K6:=by rw[hK6];exact Chg.set K5 lo5 _
 have k6:Keeps H K6:=kH5.chg_trans c6 (by simp)
 have gl6:=c6.at_ gl5 (by simp)
 have gw6:=c6.at_ gw5 (by simp)
 have go6:K6.get (H.n+2)=some (.cells true false 4 [v1,v2,v3,.slice none 0 0] 27):=by rw[hK6];exact AHeap.get_set_same go5 _
 have cp0:CpI H K6 ⟨v1,v2,v3,.slice none 0 0⟩ L []:=⟨ow_z (w1_4.keeps k5) c6 (noz_one go5 (by omega)) k6,ow_z (w2_4.keeps k5) c6 (noz_one go5 (by omega)) k6,ow_z w5 c6 (noz_one go5 (by omega)) k6,OW.nil _ _ k6,by simp⟩
 simp(disch:=first|assumption|omega)only[P3,seval,initFr,clsA,go5,gl5,o3]
 simp only[←hK6]
 obtain⟨A1,hA1⟩:∃v:Value,v=.agg #[u.s,u.p,u.g,u.r]:=⟨_,rfl⟩
 rw[W_block,←hA1]
 refine W_loop2 (fun q fr M=>∃i vr ys x5 x6 x7,fr=[A1,ptr H.n 0,ptr (H.n+1) 0,ptr (H.n+2) 0,.int .i64 ((i:Nat):Int),x5,x6,x7]∧CpI H M ⟨v1,v2,v3,vr⟩ L ys∧ys.map (·.r)=L.r.take i∧
  M.get (H.n+2)=some (.cells true false 4 [v1,v2,v3,vr] 27)∧M.get H.n=some (.cells true false 4 [u.s,u.p,u.g,u.r] 27)∧M.get (H.n+1)=some (.cells true false 4 [.slice none 0 0,.slice none 0 0,.slice none 0 0,.slice none 0 0] 27)∧i≤L.r.length∧q=L.r.length-i) L.r.length
  ⟨0,.slice none 0 0,[],_,_,_,rfl,cp0,rfl,go6,gl6,gw6,by omega,rfl⟩ ?_
 rintro Q' q fr M ⟨i,vr,ys,x5,x6,x7,rfl,cp,hys,go,gl,gw,hi,rfl⟩ hn' hx' hret
 have kM:=cp.s.k
 have lo:=AHeap.get_lt go
 by_cases hlt:i<L.r.length
 ·obtain⟨hyr,hyo⟩:=rv_ro h hlt
  obtain⟨na,ra⟩:=(h.r.keeps kM).at_ (i:=i) (by rw[h.rlen];exact hlt)
  have hyb:=hb.x (xs.getD i rv0) (by
   have hl:i<xs.length:=by rw[h.rlen];exact hlt
   rw[List.getD_eq_getElem?_getD,List.getElem?_eq_getElem hl];exact List.getElem_mem hl)
  have htk:L.r.take (i+1)=L.r.take i++[(xs.getD i rv0).r]:=by rw[hyr,ro_eq hlt,List.take_add_one,List.getElem?_eq_getElem hlt];rfl
  generalize xs.getD i rv0=y at*
  have D1:=hyb.p
  have D2:=hyb.q
  have D3:=hyb.o
  have D4:=hyb.f
  unfold RB at D1 D2 D3 D4
  have rowy:y.row=[.string ⟨y.r.n.toArray⟩,.int .i64 y.r.g,y.vp,y.vq,y.vo,y.vf]:=rfl
  obtain⟨a3,a4,a5,a6⟩:=RV.ones hyo
  have a1:one1 (Value.int .i64 y.r.g)=True:=by simp[one1,one_int]
  have a2:one1 (Value.string ⟨y.r.n.toArray⟩)=True:=by simp[one1,one_str]
  have e0:(0:Int)≤(i:Int):=by omega
  have e1:(i:Int)<((L.r.length:Nat):Int):=by omega
  have hw:IntKind.i64.wrap ((i:Int)+1)=((i+1:Nat):Int):=by rw[wrap_i64 (by omega) (by omega)];simp
  obtain⟨M1,hM1⟩:∃X,X=(M.alloc (.cells true false 6 y.row 49)).alloc (.cells true false 6 [.string ⟨y.r.n.toArray⟩,.int .i64 y.r.g,.slice none 0 0,.slice none 0 0,.slice none 0 0,.slice none 0 0] 49):=⟨_,rfl⟩
  have kM1:Keeps M M1:=by rw[hM1];exact((Keeps.refl M).alloc _).alloc _
  have nM1:M1.n=M.n+2:=by rw[hM1];rfl
  have gy1:M1.get M.n=some (.cells true false 6 y.row 49):=by rw[hM1];exact((Keeps.refl _).alloc _).at_ (AHeap.get_alloc_new M _)
  have gx1:M1.get (M.n+1)=some (.cells true false 6 [.string ⟨y.r.n.toArray⟩,.int .i64 y.r.g,.slice none 0 0,.slice none 0 0,.slice none 0 0,.slice none 0 0] 49):=by rw[hM1];exact AHeap.get_alloc_new (M.alloc _) _
  rw[rowy]at hM1 gy1 ra
  have kHM1:=kM.trans kM1
  simp(disch:=first|assumption|omega|(simp only[LN]<;>omega)|(simp(disch:=first|assumption|omega|(simp only[LN]<;>omega))only[row_alloc,row_set];assumption))only[W_block,P3,seval,initFr,clsA,gl,ir,lenr,na,ra,e0,e1,a_loadnvf,a1,a2,a3,a4,a5,a6,fillR6]
  simp only[←hM1]
  refine OW.appR (OW.nil 3 1 kHM1) (Sl.keeps hyo.p kHM1) (by simp;omega) ?_
  intro z0 P0a wz0 cz0
  have kz0:=nilK cz0
  have kHz0:=(kHM1).trans kz0
  have gxa0:=kz0.at_ gx1
  have gya0:=kz0.at_ gy1
  have lxa0:=AHeap.get_lt gxa0
  have oz0:=wz0.one
  obtain⟨P0b,hB0⟩:∃X,X=P0a.set (M.n+1) (.cells true false 6 [.string ⟨y.r.n.toArray⟩,.int .i64 y.r.g,z0,.slice none 0 0,.slice none 0 0,.slice none 0 0] 49):=⟨_,rfl⟩
  have cb0:Chg [M.n+1] P0a P0b:=by rw[hB0];exact Chg.set P0a lxa0 _
  have kHb0:Keeps H P0b:=kHz0.chg_trans cb0 (by simp;omega)
  have gxb0:P0b.get (M.n+1)=some (.cells true false 6 [.string ⟨y.r.n.toArray⟩,.int .i64 y.r.g,z0,.slice none 0 0,.slice none 0 0,.slice none 0 0] 49):=by rw[hB0];exact AHeap.get_set_same gxa0 _
  have gyb0:=cb0.at_ gya0 (by simp)
  have w0_0:=ow_z wz0 cb0 (noz_one gxa0 (by omega)) kHb0
  simp(disch:=first|assumption|omega)only[W_block,P3,seval,initFr,clsA,gxa0,gya0,oz0,a1,a2]
  simp only[←hB0]
  refine OW.appR (OW.nil 55 2 kHb0) (Sl.keeps hyo.q kHb0) (by simp;omega) ?_
  intro z1 P1a wz1 cz1
  have kz1:=nilK cz1
  have kHz1:=(kHb0).trans kz1
  have gxa1:=kz1.at_ gxb0
  have gya1:=kz1.at_ gyb0
  have lxa1:=AHeap.get_lt gxa1
  have oz1:=wz1.one
  obtain⟨P1b,hB1⟩:∃X,X=P1a.set (M.n+1) (.cells true false 6 [.string ⟨y.r.n.toArray⟩,.int .i64 y.r.g,z0,z1,.slice none 0 0,.slice none 0 0] 49):=⟨_,rfl⟩
  have cb1:Chg [M.n+1] P1a P1b:=by rw[hB1];exact Chg.set P1a lxa1 _
  have kHb1:Keeps H P1b:=kHz1.chg_trans cb1 (by simp;omega)
  have gxb1:P1b.get (M.n+1)=some (.cells true false 6 [.string ⟨y.r.n.toArray⟩,.int .i64 y.r.g,z0,z1,.slice none 0 0,.slice none 0 0] 49):=by rw[hB1];exact AHeap.get_set_same gxa1 _
  have gyb1:=cb1.at_ gya1 (by simp)
  have w0_1:=ow_z (w0_0.keeps kz1) cb1 (noz_one gxa1 (by omega)) kHb1
  have w1_1:=ow_z wz1 cb1 (noz_one gxa1 (by omega)) kHb1
  simp(disch:=first|assumption|omega)only[W_block,P3,seval,initFr,clsA,gxa1,gya1,oz1,a1,a2]
  simp only[←hB1]
  refine OW.appR (OW.nil 3 1 kHb1) (Sl.keeps hyo.o kHb1) (by simp;omega) ?_
  intro z2 P2a wz2 cz2
  have kz2:=nilK cz2
  have kHz2:=(kHb1).trans kz2
  have gxa2:=kz2.at_ gxb1
  have gya2:=kz2.at_ gyb1
  have lxa2:=AHeap.get_lt gxa2
  have oz2:=wz2.one
  obtain⟨P2b,hB2⟩:∃X,X=P2a.set (M.n+1) (.cells true false 6 [.string ⟨y.r.n.toArray⟩,.int .i64 y.r.g,z0,z1,z2,.slice none 0 0] 49):=⟨_,rfl⟩
  have cb2:Chg [M.n+1] P2a P2b:=by rw[hB2];exact Chg.set P2a lxa2 _
  have kHb2:Keeps H P2b:=kHz2.chg_trans cb2 (by simp;omega)
  have gxb2:P2b.get (M.n+1)=some (.cells true false 6 [.string ⟨y.r.n.toArray⟩,.int .i64 y.r.g,z0,z1,z2,.slice none 0 0] 49):=by rw[hB2];exact AHeap.get_set_same gxa2 _
  have gyb2:=cb2.at_ gya2 (by simp)
  have w0_2:=ow_z (w0_1.keeps kz2) cb2 (noz_one gxa2 (by omega)) kHb2
  have w1_2:=ow_z (w1_1.keeps kz2) cb2 (noz_one gxa2 (by omega)) kHb2
  have w2_2:=ow_z wz2 cb2 (noz_one gxa2 (by omega)) kHb2
  simp(disch:=first|assumption|omega)only[W_block,P3,seval,initFr,clsA,gxa2,gya2,oz2,a1,a2]
  simp only[←hB2]
  refine OW.appR (OW.nil 55 2 kHb2) (Sl.keeps hyo.f kHb2) (by simp;omega) ?_
  intro z3 P3a wz3 cz3
  have kz3:=nilK cz3
  have kHz3:=(kHb2).trans kz3
  have gxa3:=kz3.at_ gxb2
  have gya3:=kz3.at_ gyb2
  have lxa3:=AHeap.get_lt gxa3
  have oz3:=wz3.one
  obtain⟨P3b,hB3⟩:∃X,X=P3a.set (M.n+1) (.cells true false 6 [.string ⟨y.r.n.toArray⟩,.int .i64 y.r.g,z0,z1,z2,z3] 49):=⟨_,rfl⟩
  have cb3:Chg [M.n+1] P3a P3b:=by rw[hB3];exact Chg.set P3a lxa3 _
  have kHb3:Keeps H P3b:=kHz3.chg_trans cb3 (by simp;omega)
  have gxb3:P3b.get (M.n+1)=some (.cells true false 6 [.string ⟨y.r.n.toArray⟩,.int .i64 y.r.g,z0,z1,z2,z3] 49):=by rw[hB3];exact AHeap.get_set_same gxa3 _
  have gyb3:=cb3.at_ gya3 (by simp)
  have w0_3:=ow_z (w0_2.keeps kz3) cb3 (noz_one gxa3 (by omega)) kHb3
  have w1_3:=ow_z (w1_2.keeps kz3) cb3 (noz_one gxa3 (by omega)) kHb3
  have w2_3:=ow_z (w2_2.keeps kz3) cb3 (noz_one gxa3 (by omega)) kHb3
  have w3_3:=ow_z wz3 cb3 (noz_one gxa3 (by omega)) kHb3
  have kMP:Keeps M P3b:=((((((((kM1).trans kz0).chg_trans cb0 (by simp)).trans kz1).chg_trans cb1 (by simp)).trans kz2).chg_trans cb2 (by simp)).trans kz3).chg_trans cb3 (by simp)
  simp(disch:=first|assumption|omega)only[W_block,P3,seval,initFr,clsA,gxa3,gya3,oz3,a1,a2]
  simp only[←hB3]
  have kMa:Keeps M P3a:=((((((((kM1).trans kz0).chg_trans cb0 (by simp)).trans kz1).chg_trans cb1 (by simp)).trans kz2).chg_trans cb2 (by simp))).trans kz3
  have goA:=kMa.at_ go
  have goB:=kMP.at_ go
  have glB:=kMP.at_ gl
  have gwB:=kMP.at_ gw
  have loB:=AHeap.get_lt goB
  have cpB:=cp.keeps kMP
  have isr:=cpB.r.is
  have oz0':=w0_3.one
  have oz1':=w1_3.one
  have oz2':=w2_3.one
  have oz3':=w3_3.one
  obtain⟨y',hy'⟩:∃y':RV,y'=⟨y.r,z0,z1,z2,z3⟩:=⟨_,rfl⟩
  have ry':y'.row=[.string ⟨y.r.n.toArray⟩,.int .i64 y.r.g,z0,z1,z2,z3]:=by rw[hy'];rfl
  have yo:RVo H P3b y':=by rw[hy'];exact⟨w0_3,w1_3,w2_3,w3_3⟩
  obtain⟨P4,hP4⟩:∃X,X=P3b.alloc (.cells true false 6 y'.row 49):=⟨_,rfl⟩
  have kP4:Keeps P3b P4:=by rw[hP4];exact(Keeps.refl P3b).alloc _
  have slP4:Sl P4 6 (slc P3b.n 0 1 1) [y'.row]:=by rw[hP4];exact Sl.one1 rfl (by rw[ry'];rfl)
  have cp4:=cpB.keeps kP4
  have yo4:=yo.keeps kP4
  have go4':=kP4.at_ goB
  have yl:ys.length=i:=by have:=congrArg List.length hys;simp at this;omega
  rw[ry']at hP4 slP4
  simp(disch:=first|assumption|omega|(simp only[LN]<;>omega)|(simp(disch:=first|assumption|omega|(simp only[LN]<;>omega))only[row_alloc,row_set];assumption))only[W_block,P3,seval,initFr,clsA,goA,gxb3,fillR7,a1,a2,oz0',oz1',oz2',oz3']
  simp only[←hP4]
  refine OW.appR cp4.r slP4 (by simp[yl];omega) ?_
  intro vr' K' ow' c'
  have kP4':Keeps H K':=ow'.k
  have nz1:=noz_blk (z':=1) cp4.r (by omega)
  have nz2:=noz_blk (z':=2) cp4.r (by omega)
  have nz4:=noz_blk (z':=4) cp4.r (by omega)
  have hob:H.n+2∉blkL vr:=fun hm=>nz4 _ hm _ _ _ _ _ go4' rfl
  have hlb:H.n∉blkL vr:=fun hm=>nz4 _ hm _ _ _ _ _ (kP4.at_ glB) rfl
  have hwb:H.n+1∉blkL vr:=fun hm=>nz4 _ hm _ _ _ _ _ (kP4.at_ gwB) rfl
  have goK:=c'.at_ go4' hob
  have glK:=c'.at_ (kP4.at_ glB) hlb
  have gwK:=c'.at_ (kP4.at_ gwB) hwb
  have loK:=AHeap.get_lt goK
  have or':=ow'.one
  have e7:(ys++[y']).map RV.row=ys.map RV.row++[[.string ⟨y.r.n.toArray⟩,.int .i64 y.r.g,z0,z1,z2,z3]]:=by rw[List.map_append,←ry'];rfl
  have cpK:CpI H K' ⟨v1,v2,v3,vr'⟩ L (ys++[y']):=⟨ow_z cp4.s c' nz1 kP4',ow_z cp4.p c' nz2 kP4',ow_z cp4.g c' nz2 kP4',by rw[e7];exact ow',fun z hz=>by
   rcases List.mem_append.1 hz with hz|hz
   ·exact(cp4.y z hz).z c' nz1 nz2 kP4'
   ·rw[List.mem_singleton]at hz;subst hz;exact yo4.z c' nz1 nz2 kP4'⟩
  simp(disch:=first|assumption|omega)only[W_block,P3,seval,initFr,clsA,goK,or',hw]
  exact hn' _ _ _ ⟨i+1,vr',ys++[y'],_,_,_,rfl,cpK.z (Chg.set K' loK _) goK (by omega) (by omega) (by omega) (kP4'.set (by omega) loK _),by rw[List.map_append,hys,htk,hy'];rfl,AHeap.get_set_same goK _,
   by rw[AHeap.get_set_other K' (by omega) loK];exact glK,by rw[AHeap.get_set_other K' (by omega) loK];exact gwK,by omega,rfl⟩ (by omega)
 ·have e1:¬((i:Nat):Int)<((L.r.length:Nat):Int):=by omega
  have hie:i=L.r.length:=by omega
  subst hie
  rw[List.take_length]at hys
  have hwl:=AHeap.get_lt gw
  have p1:=cp.s.one
  have p2:=cp.p.one
  have p3:=cp.g.one
  have p4:=cp.r.one
  simp only at p1 p2 p3 p4
  simp(disch:=first|assumption|omega)only[W_block,P3,seval,initFr,clsA,gl,ir,lenr,e1]
  refine hx' _ _ _ ?_
  simp(disch:=first|assumption|omega|(simp only[LN]<;>omega)|(simp(disch:=first|assumption|omega|(simp only[LN]<;>omega))only[row_alloc,row_set];assumption))only[W_block,P3,seval,initFr,clsA,go,gw,p1,p2,p3,p4]
  refine hq2 _ _ ⟨.agg (V4.l ⟨v1,v2,v3,vr⟩).toArray,?_,kM.set (by omega) hwl _,⟨v1,v2,v3,vr⟩,ys,rfl,cp.z (Chg.set M hwl _) gw (by omega) (by omega) (by omega) (kM.set (by omega) hwl _),hys⟩
  show resO [.cn 4 2] _ _=_
  rw[resC]
  show celln 4 (ptr (H.n+1) 0) _=_
  rw[cellnp,rangeA_e,AHeap.get_set_same gw];rfl
end Go.AM.Fd

set_option maxRecDepth 20000
namespace Go.AM.Fd
open Nat (reduceAdd reduceEqDiff reduceLT reduceLeDiff reduceMul reduceSub)
open Go.Proofs Go.AM.F
structure MutS (K:AHeap) (n0 n1:Nat) (X:AHeap):Prop where
 n:X.n=K.n
 same:∀b,(b<n0∨n1≤b)→X.get b=K.get b
 shape:∀b r z c e,K.get b=some (.cells true r z c e)→∃c',X.get b=some (.cells true r z c' e)∧c'.length=c.length∧(z=6→c'=c)
theorem MutS.refl(K:AHeap)(n0 n1:Nat):MutS K n0 n1 K:=⟨rfl,fun _ _=>rfl,fun b r z c e g=>⟨c,g,rfl,fun _=>rfl⟩⟩
theorem MutS.set{K X:AHeap}{n0 n1 b z e:Nat}{rm:Bool}{c c':List Value}(h:MutS K n0 n1 X)(g:K.get b=some (.cells true rm z c e))(hz:z≠6)(h0:n0≤b)(h1:b<n1)(hl:c'.length=c.length):MutS K n0 n1 (X.set b (.cells true rm z c' e)):=by
 have hbX:b<X.n:=by rw[h.n];exact AHeap.get_lt g
 obtain⟨c0,gX,_,_⟩:=h.shape b rm z c e g
 refine⟨by rw[set_n];exact h.n,fun d hd=>?_,fun d r' z' c1 e' gd=>?_⟩
 ·rw[AHeap.get_set_other X (by omega) hbX];exact h.same d hd
 ·by_cases e1:d=b
  ·subst e1
   rw[g]at gd
   cases gd
   exact⟨c',AHeap.get_set_same gX _,hl,fun e=>absurd e hz⟩
  ·rw[AHeap.get_set_other X e1 hbX]
   exact h.shape d r' z' c1 e' gd
theorem MutS.sl6{K X H:AHeap}{n0 n1 e:Nat}{v:Value}{rows:List (List Value)}(h:MutS K n0 n1 X)(w:OW e 6 H K v rows):Sl X 6 v rows:=by
 refine(w.sl).get' fun b hb hl=>?_
 rcases w.ap with⟨rfl,_,_⟩|⟨b',room,rfl,h1,h2⟩
 ·cases hb
 ·cases hb
  obtain⟨c',g,_,e6⟩:=h.shape _ _ _ _ _ h2
  rw[g,h2,e6 rfl]
theorem eq_out(K:AHeap)(neg:Bool)(f g:Nat→Bool):asem (.eqs [1,1] neg (.agg #[S64 f,S32 g]) (.agg #[S64 f,S32 g])) K=some (.bool (if neg then false else true),K):=by
 simp[asem,eqCs,eqC,S64,S32]
theorem staB_refl(s:Sta):staB s s=true:=by unfold staB;simp
set_option maxHeartbeats 8000000 in
theorem t6{H:AHeap}{u:V4}{xs:List RV}{L:Ly}(hl:LyR H u xs L)(hi:LyIn 9223372036854775807 L)(hb:LyB xs L)(s:Sta){x:Inp}{cv:Value}{cs:List (Int×Int)}(hc:CL H cv cs):
 ∃w H',ARun Tryz.prog 0 6 [.agg u.l.toArray,.agg (stl s).toArray,.agg (inl x cv).toArray] H w H'∧w=.bool true∧Keeps H H':=by
 refine walk2 f6_ok f6_n ?_
 intro Q hq1 hq2
 have ho:=ly_ones hl
 have ll:u.l.length=4:=rfl
 have hinl:inl x cv=[S64 x.oc,S32 x.nr,S32 x.rv,cv]:=rfl
 have isc:=Sl.is hc
 have onec:=Sl.one hc
 have clen:=hc.len
 obtain⟨K0,hK0⟩:∃X,X=((H.alloc (.cells true false 4 u.l 27)).alloc (.cells true false 68 (stl s) 37)).alloc (.cells true false 4 (inl x cv) 42):=⟨_,rfl⟩
 have k0:Keeps H K0:=by rw[hK0];exact(((Keeps.refl H).alloc _).alloc _).alloc _
 have n0:K0.n=H.n+3:=by rw[hK0];rfl
 have gl0:K0.get H.n=some (.cells true false 4 u.l 27):=by rw[hK0];exact(((Keeps.refl _).alloc _).alloc _).at_ (AHeap.get_alloc_new H _)
 have gs0:K0.get (H.n+1)=some (.cells true false 68 (stl s) 37):=by rw[hK0];exact((Keeps.refl _).alloc _).at_ (AHeap.get_alloc_new (H.alloc _) _)
 have gi0:K0.get (H.n+2)=some (.cells true false 4 (inl x cv) 42):=by rw[hK0];exact AHeap.get_alloc_new ((H.alloc _).alloc _) _
 have hl0:=hl.keeps k0
 have hc0:=hc.keeps k0
 rw[hinl]at hK0 gi0 ⊢
 by_cases hbig:(100:Int)<((cs.length:Nat):Int)
 ·simp(disch:=first|assumption|omega|(simp only[LN]<;>omega)|(simp(disch:=first|assumption|omega|(simp only[LN]<;>omega))only[row_alloc,row_set];assumption))only[f6,W_block,P3,seval,initFr,clsA,ho,ll,stl_one,stl_len,onec,o_s64,o_s32,one_s64,one_s32,isc,clen,hbig]
  refine callQ (t11 _) ?_
  simp(disch:=first|assumption|omega)only[W_block,P3,seval,initFr,clsA]
  exact hq2 _ _ ⟨_,rfl,rfl,(((Keeps.refl H).alloc _).alloc _).alloc _⟩
 simp(disch:=first|assumption|omega|(simp only[LN]<;>omega)|(simp(disch:=first|assumption|omega|(simp only[LN]<;>omega))only[row_alloc,row_set];assumption))only[f6,W_block,P3,seval,initFr,clsA,ho,ll,stl_one,stl_len,onec,o_s64,o_s32,one_s64,one_s32,isc,clen,hbig]
 simp only[←hK0]
 refine callK (t13 hl0 hb) ?_
 rintro _ K1 ⟨k1,u',ys,rfl,cp,hys⟩
 have hl1:=cp.ly hys
 have ho1:=ly_ones hl1
 have ll1:(V4.l u').length=4:=rfl
 obtain⟨K2,hK2⟩:∃X,X=K1.alloc (.cells true false 4 (V4.l u') 27):=⟨_,rfl⟩
 have k2:Keeps K1 K2:=by rw[hK2];exact(Keeps.refl K1).alloc _
 have n2:K2.n=K1.n+1:=by rw[hK2];rfl
 have go2:K2.get K1.n=some (.cells true false 4 (V4.l u') 27):=by rw[hK2];exact AHeap.get_alloc_new K1 _
 simp(disch:=first|assumption|omega|(simp only[LN]<;>omega)|(simp(disch:=first|assumption|omega|(simp only[LN]<;>omega))only[row_alloc,row_set];assumption))only[W_block,P3,seval,initFr,clsA,ho1,ll1]
 simp only[←hK2]
 refine callK (t14 (hl1.keeps k2) hi) ?_
 rintro _ K3 ⟨k3,hm⟩
 rcases hm with rfl|⟨b,he,rfl,hMF⟩
 ·simp(disch:=first|assumption|omega)only[W_block,P3,seval,initFr,clsA]
  refine callQ (t11 _) ?_
  simp(disch:=first|assumption|omega)only[W_block,P3,seval,initFr,clsA]
  exact hq2 _ _ ⟨_,rfl,rfl,((k0.trans k1).trans k2).trans k3⟩
 have hL:=may_lim (check_may he)
 have lpp:=hL.p
 have lrr:=hL.r
 have cp3:=(cp.keeps k2).keeps k3
 have go3:=k3.at_ go2
 have k13:=k2.trans k3
 have lenp:=cp3.p.len
 have isp:=cp3.p.is
 have lenr:=cp3.r.len
 have isr:=cp3.r.is
 simp only[List.length_map]at lenp lenr
 have ylen:ys.length=L.r.length:=by rw[←hys];simp
 rw[ylen]at lenr
 have hul':V4.l u'=[u'.s,u'.p,u'.g,u'.r]:=rfl
 rw[hul']at go3
 obtain⟨A1,hA1⟩:∃v:Value,v=.agg u.l.toArray:=⟨_,rfl⟩
 obtain⟨A2,hA2⟩:∃v:Value,v=.agg (stl s).toArray:=⟨_,rfl⟩
 obtain⟨A4,hA4⟩:∃v:Value,v=.agg #[S64 x.oc,S32 x.nr,S32 x.rv,cv]:=⟨_,rfl⟩
 simp(disch:=first|assumption|omega)only[P3,seval,initFr,clsA]
 rw[W_block,←hA1,←hA2,←hA4]
 refine W_loop2 (fun q fr X=>∃i x20,fr=[A1,A2,A4,ptr H.n 0,ptr (H.n+1) 0,ptr (H.n+2) 0,.bool false,ptr K1.n 0,ptr b 0,.bool true,.int .i64 ((i:Nat):Int),undef,undef,undef,undef,undef,undef,undef,.bool false,.bool false,x20,undef]∧
  MutS K3 K0.n K1.n X∧i≤L.p.length∧q=L.p.length-i) L.p.length
  ⟨0,_,rfl,MutS.refl _ _ _,by omega,rfl⟩ ?_
 rintro Q' q fr X ⟨i,x20,rfl,mX,hile,rfl⟩ hn' hx' hret
 have goX:=(mX.same K1.n (.inr (Nat.le_refl _))).trans go3
 by_cases hlt:i<L.p.length
 ·rcases cp.p.ap with⟨_,h9,_⟩|⟨pb,room,hpv,h9,h10⟩
  ·exfalso;rw[List.length_map]at h9;omega
  have g3:=k13.at_ h10
  obtain⟨c',gX,hcl',_⟩:=mX.shape _ _ _ _ _ g3
  have e0:(0:Int)≤(i:Int):=by omega
  have e1:(i:Int)<((L.p.length:Nat):Int):=by omega
  have hw:IntKind.i64.wrap ((i:Int)+1)=((i+1:Nat):Int):=by rw[wrap_i64 (by omega) (by omega)];simp
  have hlen:(L.p.map pRow).flatten.length=L.p.length*2:=by rw[flat_len cp.p.r];simp
  have hll:i*2+1<c'.length:=by omega
  have hpv2:u'.p=slc pb 0 L.p.length L.p.length:=by simpa using hpv
  have hpb0:K0.n≤pb:=cp.p.f pb (by rw[hpv2];rfl)
  have hpb1:pb<K1.n:=AHeap.get_lt h10
  simp(disch:=first|assumption|omega)only[W_block,P3,seval,initFr,clsA,goX,hpv2,e0,e1,gX,hll,hw,Int.toNat_natCast,Nat.zero_add]
  exact hn' _ _ _ ⟨i+1,_,rfl,mX.set g3 (by omega) hpb0 hpb1 (by rw[List.length_set];exact hcl'),by omega,rfl⟩ (by omega)
 ·have hie:i=L.p.length:=by omega
  subst hie
  have e1:¬((L.p.length:Nat):Int)<((L.p.length:Nat):Int):=by omega
  simp(disch:=first|assumption|omega)only[W_block,P3,seval,initFr,clsA,goX,isp,lenp,e1]
  refine hx' _ _ _ ?_
  simp(disch:=first|assumption|omega)only[P3,seval,initFr,clsA]
  rw[W_block]
  refine W_loop2 (fun q fr Y=>∃i x21,fr=[A1,A2,A4,ptr H.n 0,ptr (H.n+1) 0,ptr (H.n+2) 0,.bool false,ptr K1.n 0,ptr b 0,.bool true,.int .i64 ((L.p.length:Nat):Int),.int .i64 ((i:Nat):Int),undef,undef,undef,undef,undef,undef,.bool false,.bool false,.bool false,x21]∧
   MutS K3 K0.n K1.n Y∧i≤L.r.length∧q=L.r.length-i) L.r.length
   ⟨0,_,rfl,mX,by omega,rfl⟩ ?_
  rintro Q2 q fr Y ⟨i,x21,rfl,mY,hile,rfl⟩ hn2 hx2 hret2
  have goY:=(mY.same K1.n (.inr (Nat.le_refl _))).trans go3
  by_cases hlt:i<L.r.length
  ·have hiy:i<ys.length:=by rw[ylen];exact hlt
   have hyr:(ys.getD i rv0).r=L.r[i]:=by
    have e:=congrArg (fun l:List Ro=>l[i]?) hys
    simp only[List.getElem?_map,List.getElem?_eq_getElem hiy,List.getElem?_eq_getElem hlt,Option.map_some]at e
    rw[List.getD_eq_getElem?_getD,List.getElem?_eq_getElem hiy]
    exact Option.some.inj e
   have hym:ys.getD i rv0∈ys:=by rw[List.getD_eq_getElem?_getD,List.getElem?_eq_getElem hiy];exact List.getElem_mem hiy
   have hgood:=check_good he (List.getElem_mem hlt)
   rw[←hyr]at hgood
   have yo:=cp.y _ hym
   obtain⟨na,ra⟩:=RL.at_ (H:=Y) (v:=u'.r) (l:=ys) (mY.sl6 cp3.r) hiy
   generalize ys.getD i rv0=w at*
   have rowy:w.row=[.string ⟨w.r.n.toArray⟩,.int .i64 w.r.g,w.vp,w.vq,w.vo,w.vf]:=rfl
   rw[rowy]at ra
   rcases yo.p.ap with⟨_,h9,_⟩|⟨pb,room,hpv,h9,h10⟩
   ·exfalso;rw[List.length_map]at h9;have:=hgood.ne;omega
   have g3:=k13.at_ h10
   obtain⟨c',gY,hcl',_⟩:=mY.shape _ _ _ _ _ g3
   have e0:(0:Int)≤(i:Int):=by omega
   have e1:(i:Int)<((L.r.length:Nat):Int):=by omega
   have hw:IntKind.i64.wrap ((i:Int)+1)=((i+1:Nat):Int):=by rw[wrap_i64 (by omega) (by omega)];simp
   have hlen:(w.r.path.map iRow).flatten.length=w.r.path.length:=by rw[flat_len yo.p.r];simp
   have hne:=hgood.ne
   have hll:0<c'.length:=by omega
   have hpv2:w.vp=slc pb 0 w.r.path.length w.r.path.length:=by simpa using hpv
   have hpb0:K0.n≤pb:=yo.p.f pb (by rw[hpv2];rfl)
   have hpb1:pb<K1.n:=AHeap.get_lt h10
   have p0:(0:Int)<((w.r.path.length:Nat):Int):=by omega
   have t0:Int.toNat 0=0:=rfl
   rw[hpv2]at ra
   simp(disch:=first|assumption|omega)only[W_block,P3,seval,initFr,clsA,goY,isr,lenr,na,ra,e0,e1,p0,t0,a_load1v,gY,hll,hw,Nat.zero_add]
   exact hn2 _ _ _ ⟨i+1,_,rfl,mY.set g3 (by omega) hpb0 hpb1 (by rw[List.length_set];exact hcl'),by omega,rfl⟩ (by omega)
  ·have hie:i=L.r.length:=by omega
   subst hie
   have e1:¬((L.r.length:Nat):Int)<((L.r.length:Nat):Int):=by omega
   simp(disch:=first|assumption|omega)only[W_block,P3,seval,initFr,clsA,goY,isr,lenr,e1]
   refine hx2 _ _ _ ?_
   have kY:Keeps K0 Y:=⟨by rw[mY.n];have:=k1.n;have:=k13.n;omega,fun c hc=>by rw[mY.same c (.inl hc)];exact((k1.trans k13).get c hc)⟩
   have glY:=kY.at_ gl0
   have gsY:=kY.at_ gs0
   have giY:=kY.at_ gi0
   have hlY:=hl0.keeps kY
   have hcY:=hc0.keeps kY
   have hMY:MaR Y b L:=(hMF.base (show K1.n≤K2.n by omega)).same (fun c hc1 _=>mY.same c (.inr hc1)) |>.r
   have hcs:cs.length≤1000000:=by omega
   have t1:=fun Z (k:Keeps Y Z)=>t15 (s:=s) (x:=x) (hMY.keeps k) hL (hcY.keeps k) hcs
   have t2:=fun Z (k:Keeps Y Z)=>t16 (s:=s) (x:=x) (hlY.keeps k) he (hcY.keeps k) hcs
   have hst:=step_eq he s x cs
   have hpr:prB L x (stepD L s x cs)=fun i=>decide (i<L.r.length)&&proD L x (stepD L s x cs) i:=funext fun i=>pr_eq he _ i
   rw[hst,hpr]at t1
   obtain⟨t,ht⟩:∃t,t=stepD L s x cs:=⟨_,rfl⟩
   obtain⟨pr,hprr⟩:∃pr:Nat→Bool,pr=fun i=>decide (i<L.r.length)&&proD L x t i:=⟨_,rfl⟩
   simp only[hinl]at t1 t2
   rw[←ht,←hprr]at t1 t2
   have ly0:=AHeap.get_lt glY
   have ly1:=AHeap.get_lt gsY
   have ly2:=AHeap.get_lt giY
   simp(disch:=first|assumption|omega|(simp only[LN]<;>omega)|(simp(disch:=first|assumption|omega|(simp only[LN]<;>omega))only[row_alloc,row_set];assumption))only[W_block,P3,seval,initFr,clsA,glY,gsY,giY,rng68,ll]
   refine callQ (t1 _ (Keeps.refl Y)) ?_
   obtain⟨Y1,hY1⟩:∃Z,Z=(Y.alloc (.cells true false 68 (stl t) 37)).alloc (.cells true false 2 [S64 pr,S32 t.po] 68):=⟨_,rfl⟩
   have kk1:Keeps Y Y1:=by rw[hY1];exact((Keeps.refl Y).alloc _).alloc _
   have ga1:Y1.get Y.n=some (.cells true false 68 (stl t) 37):=by rw[hY1];exact((Keeps.refl _).alloc _).at_ (AHeap.get_alloc_new Y _)
   have gb1:Y1.get (Y.n+1)=some (.cells true false 2 [S64 pr,S32 t.po] 68):=by rw[hY1];exact AHeap.get_alloc_new (Y.alloc _) _
   have kY1:Keeps Y Y1:=(Keeps.refl Y).trans kk1
   have gl1:=kY1.at_ glY
   have gs1:=kY1.at_ gsY
   have gi1:=kY1.at_ giY
   simp(disch:=first|assumption|omega|(simp only[LN]<;>omega)|(simp(disch:=first|assumption|omega|(simp only[LN]<;>omega))only[row_alloc,row_set];assumption))only[W_block,P3,seval,initFr,clsA,glY,gsY,giY,rng68,stn68s,stl_one,stl_len,Z68I_z,ll,o_s64,o_s32,one_s64,one_s32,ly0,ly1,ly2]
   simp only[←hY1]
   have la1:=AHeap.get_lt gl1
   have lb1:=AHeap.get_lt gs1
   have lc1:=AHeap.get_lt gi1
   refine callQ (t2 _ kY1) ?_
   obtain⟨Y2,hY2⟩:∃Z,Z=(Y1.alloc (.cells true false 68 (stl t) 37)).alloc (.cells true false 2 [S64 pr,S32 t.po] 68):=⟨_,rfl⟩
   have kk2:Keeps Y1 Y2:=by rw[hY2];exact((Keeps.refl Y1).alloc _).alloc _
   have ga2:Y2.get Y1.n=some (.cells true false 68 (stl t) 37):=by rw[hY2];exact((Keeps.refl _).alloc _).at_ (AHeap.get_alloc_new Y1 _)
   have gb2:Y2.get (Y1.n+1)=some (.cells true false 2 [S64 pr,S32 t.po] 68):=by rw[hY2];exact AHeap.get_alloc_new (Y1.alloc _) _
   have kY2:Keeps Y Y2:=kY1.trans kk2
   have gl2:=kY2.at_ glY
   have gs2:=kY2.at_ gsY
   have gi2:=kY2.at_ giY
   simp(disch:=first|assumption|omega|(simp only[LN]<;>omega)|(simp(disch:=first|assumption|omega|(simp only[LN]<;>omega))only[row_alloc,row_set];assumption))only[W_block,P3,seval,initFr,clsA,gl1,gs1,gi1,rng68,stn68s,stl_one,stl_len,Z68I_z,ll,o_s64,o_s32,one_s64,one_s32,la1,lb1,lc1]
   simp only[←hY2]
   have la2:=AHeap.get_lt gl2
   have lb2:=AHeap.get_lt gs2
   have lc2:=AHeap.get_lt gi2
   refine callQ (t1 _ kY2) ?_
   obtain⟨Y3,hY3⟩:∃Z,Z=(Y2.alloc (.cells true false 68 (stl t) 37)).alloc (.cells true false 2 [S64 pr,S32 t.po] 68):=⟨_,rfl⟩
   have kk3:Keeps Y2 Y3:=by rw[hY3];exact((Keeps.refl Y2).alloc _).alloc _
   have ga3:Y3.get Y2.n=some (.cells true false 68 (stl t) 37):=by rw[hY3];exact((Keeps.refl _).alloc _).at_ (AHeap.get_alloc_new Y2 _)
   have gb3:Y3.get (Y2.n+1)=some (.cells true false 2 [S64 pr,S32 t.po] 68):=by rw[hY3];exact AHeap.get_alloc_new (Y2.alloc _) _
   have kY3:Keeps Y Y3:=kY2.trans kk3
   have gl3:=kY3.at_ glY
   have gs3:=kY3.at_ gsY
   have gi3:=kY3.at_ giY
   simp(disch:=first|assumption|omega|(simp only[LN]<;>omega)|(simp(disch:=first|assumption|omega|(simp only[LN]<;>omega))only[row_alloc,row_set];assumption))only[W_block,P3,seval,initFr,clsA,gl2,gs2,gi2,rng68,stn68s,stl_one,stl_len,Z68I_z,ll,o_s64,o_s32,one_s64,one_s32,la2,lb2,lc2]
   simp only[←hY3]
   have la3:=AHeap.get_lt gl3
   have lb3:=AHeap.get_lt gs3
   have lc3:=AHeap.get_lt gi3
   have k23:=kk2.trans kk3
   have e1a:=k23.at_ ga1
   have e1b:=k23.at_ gb1
   have e2a:=kk3.at_ ga2
   have e2b:=kk3.at_ gb2
   have eqs0:=fun K a c=>eq_stl K false a c
   have eqo:=fun K=>eq_out K false pr t.po
   have rfl68:∀t:Sta,staB t t=true:=staB_refl
   have rg2:∀(o r:Bool) (T:Nat),rangeO (some (.cells o r 2 [S64 pr,S32 t.po] T)) 0 2=some [S64 pr,S32 t.po]:=fun o r T=>rng_full rfl
   simp(disch:=first|assumption|omega|(simp only[LN]<;>omega)|(simp(disch:=first|assumption|omega|(simp only[LN]<;>omega))only[row_alloc,row_set];assumption))only[W_block,P3,↓reduceIte,reduceAdd,reduceEqDiff,reduceCtorEq,initFr,reduceLT,clsA,reduceLeDiff,reduceMul,reduceSub,reduceIte,e1a,e1b,e2a,e2b,ga3,gb3,rng68,rg2,eqs0,eqo,rfl68,O68I_r]
   refine callQ (t11 _) ?_
   simp(disch:=first|assumption|omega)only[W_block,P3,seval,initFr,clsA]
   exact hq2 _ _ ⟨_,rfl,rfl,(k0.trans kY).trans kY3⟩
end Go.AM.Fd

set_option maxRecDepth 8000
namespace Go.AM.Fd
open Nat (reduceAdd reduceEqDiff reduceLT reduceLeDiff reduceMul reduceSub)
open Go.Proofs Go.AM.F
theorem Z68L_z:Z68L=stl Sta0:=stl_zero
theorem O68L_r:O68L=List.replicate 68 1:=rfl
theorem n8{H:AHeap}(s:Sta):∃w H',ARun Tryz.prog 0 8 [.pointer none,.agg (stl s).toArray] H w H'∧w=.agg (stl Sta0).toArray∧H'=H:=by
 refine gcst ?_
 refine walk2 f8_ok f8_n ?_
 intro Q hq1 hq2
 have k0:=((Keeps.refl H).alloc (.cells true false 68 (stl s) 37)).alloc (.cells true false 68 (stl Sta0) 37)
 simp(disch:=first|assumption|omega|(simp only[LN]<;>omega)|(simp(disch:=first|assumption|omega|(simp only[LN]<;>omega))only[row_alloc,row_set];assumption))only[f8,W_block,P3,seval,initFr,clsA,stl_one,stl_len,Z68F_z,rng68,stn68s]
 refine hq2 _ _ ⟨.agg (stl Sta0).toArray,?_,rfl,k0⟩
 show resO [.cn 68 3] _ _=_
 rw[resC]
 have gg:((H.alloc (.cells true false 68 (stl s) 37)).alloc (.cells true false 68 (stl Sta0) 37)).get (H.n+1)=_:=AHeap.get_alloc_new (H.alloc _) _
 show celln 68 (ptr (H.n+1) 0) _=_
 rw[cellnp,rangeA_e,gg,rng68];rfl
theorem n20{H:AHeap}(s:Sta):∃w H',ARun Tryz.prog 0 20 [.pointer none,.agg (stl s).toArray] H w H'∧w=.bool false∧H'=H:=by
 refine gcb ?_
 refine walk2 f20_ok f20_n ?_
 intro Q hq1 hq2
 have k0:=(Keeps.refl H).alloc (.cells true false 68 (stl s) 37)
 simp(disch:=first|assumption|omega)only[f20,W_block,P3,seval,initFr,clsA,stl_one,stl_len,rng68]
 exact hq2 _ _ ⟨_,rfl,rfl,k0⟩
theorem n15{H:AHeap}(s:Sta)(x:Inp){cv:Value}(hc:isS cv=true):∃w H',ARun Tryz.prog 0 15 [.pointer none,.agg (stl s).toArray,.agg (inl x cv).toArray] H w H'∧w=.tuple #[.agg (stl Sta0).toArray,.agg #[.int .u64 0,.int .u32 0]]∧H'=H:=by
 suffices h':∃w H',ARun Tryz.prog 0 15 [.pointer none,.agg (stl s).toArray,.agg (inl x cv).toArray] H w H'∧w=.tuple #[.agg (stl Sta0).toArray,.agg #[.int .u64 0,.int .u32 0]]∧Keeps H H' by
  obtain⟨_,_,a,rfl,k⟩:=h'
  exact⟨_,_,a.gc0 k (.inr (NV.tuple_of (.cons (nv_stl _ _) (.cons (NV.agg_of (l:=[.int .u64 0,.int .u32 0]) (NL.plain rfl)) .nil)))),rfl,rfl⟩
 refine walk2 f15_ok f15_n ?_
 intro Q hq1 hq2
 have hinl:inl x cv=[S64 x.oc,S32 x.nr,S32 x.rv,cv]:=rfl
 have o1:=one_isS hc
 rw[hinl]
 simp(disch:=first|assumption|omega|(simp only[LN]<;>omega)|(simp(disch:=first|assumption|omega|(simp only[LN]<;>omega))only[row_alloc,row_set];assumption))only[f15,W_block,P3,seval,initFr,clsA,stl_one,stl_len,Z68G_z,rng68,stn68s,o1,o_s64,o_s32,one_s64,one_s32]
 obtain⟨K,hK⟩:∃K,K=(((H.alloc (.cells true false 68 (stl s) 37)).alloc (.cells true false 4 [S64 x.oc,S32 x.nr,S32 x.rv,cv] 42)).alloc (.cells true false 68 (stl Sta0) 37)).alloc (.cells true false 2 [.int .u64 0,.int .u32 0] 68):=⟨_,rfl⟩
 have k0:Keeps H K:=by rw[hK];exact((((Keeps.refl H).alloc _).alloc _).alloc _).alloc _
 have ga:K.get (H.n+2)=some (.cells true false 68 (stl Sta0) 37):=by rw[hK];exact((Keeps.refl _).alloc _).at_ (AHeap.get_alloc_new ((H.alloc _).alloc _) _)
 have gb:K.get (H.n+3)=some (.cells true false 2 [.int .u64 0,.int .u32 0] 68):=by rw[hK];exact AHeap.get_alloc_new (((H.alloc _).alloc _).alloc _) _
 rw[←hK]
 refine hq2 _ _ ⟨.tuple #[.agg (stl Sta0).toArray,.agg #[.int .u64 0,.int .u32 0]],?_,rfl,k0⟩
 show resO [.cn 68 5,.cn 2 6] _ _=_
 have r1':celln 68 (ptr (H.n+2) 0) K=some (.agg (stl Sta0).toArray):=by rw[cellnp,rangeA_e,ga,rng68];rfl
 have r2':celln 2 (ptr (H.n+3) 0) K=some (.agg #[.int .u64 0,.int .u32 0]):=by rw[cellnp,rangeA_e,gb];rfl
 have e5:∀l:List Value,l.getD 5 undef=ptr (H.n+2) 0→l.getD 6 undef=ptr (H.n+3) 0→resO [.cn 68 5,.cn 2 6] l K=some (.tuple #[.agg (stl Sta0).toArray,.agg #[.int .u64 0,.int .u32 0]]):=fun l a b=>by
  simp only[resO,resVs,RX.get,a,b,r1',r2'];rfl
 exact e5 _ rfl rfl
set_option maxHeartbeats 4000000 in
theorem t10{H:AHeap}{u:V4}{xs:List RV}{L:Ly}(hl:LyR H u xs L)(hi:LyIn 9223372036854775807 L)(s:Sta):
 ∃w H',ARun Tryz.prog 0 10 [.agg u.l.toArray,.agg (stl s).toArray] H w H'∧w=.bool true∧Keeps H H':=by
 refine walk2 f10_ok f10_n ?_
 intro Q hq1 hq2
 have ho:=ly_ones hl
 have ll:u.l.length=4:=rfl
 obtain⟨K0,hK0⟩:∃X,X=(H.alloc (.cells true false 4 u.l 27)).alloc (.cells true false 68 (stl s) 37):=⟨_,rfl⟩
 have k0:Keeps H K0:=by rw[hK0];exact((Keeps.refl H).alloc _).alloc _
 have n0:K0.n=H.n+2:=by rw[hK0];rfl
 have gl0:K0.get H.n=some (.cells true false 4 u.l 27):=by rw[hK0];exact((Keeps.refl _).alloc _).at_ (AHeap.get_alloc_new H _)
 have gs0:K0.get (H.n+1)=some (.cells true false 68 (stl s) 37):=by rw[hK0];exact AHeap.get_alloc_new (H.alloc _) _
 have hl0:=hl.keeps k0
 simp(disch:=first|assumption|omega|(simp only[LN]<;>omega)|(simp(disch:=first|assumption|omega|(simp only[LN]<;>omega))only[row_alloc,row_set];assumption))only[f10,W_block,P3,seval,initFr,clsA,ho,ll,stl_one,stl_len]
 simp only[←hK0]
 refine callK (t25 (top:=1000) (by omega) hl0 hi) ?_
 rintro _ X ⟨⟨n,rfl⟩,hX⟩
 rw[hX]
 by_cases hn:(1000:Int)<n
 ·simp(disch:=first|assumption|omega)only[W_block,P3,seval,initFr,clsA,hn]
  refine callQ (t11 _) ?_
  simp(disch:=first|assumption|omega)only[W_block,P3,seval,initFr,clsA]
  exact hq2 _ _ ⟨_,rfl,rfl,k0⟩
 simp(disch:=first|assumption|omega)only[W_block,P3,seval,initFr,clsA,hn,gl0,ll]
 refine callK (t5 hl0 hi) ?_
 rintro w1 K1 ⟨k1,e1,e2⟩
 have gl1:=k1.at_ gl0
 have gs1:=k1.at_ gs0
 have eqs0:=fun K a c=>eq_stl K false a c
 obtain⟨p,rfl,hpe⟩:∃p,w1=Value.tuple #[p,.int .i64 (checkE L)]∧eqA 1 p (.pointer none)=some (checkE L != 0):=by
  by_cases he:checkE L=0
  ·obtain⟨b,rfl,_⟩:=e2 he
   exact⟨ptr b 0,by rw[he],by rw[e_ps,he];rfl⟩
  ·have:(checkE L != 0)=true:=by simp[he]
   exact⟨.pointer none,e1 he,by rw[this];rfl⟩
 have bb:∀x:Bool,(x==x)=true:=fun x=>by cases x<;>rfl
 have be:∀x:Int,(x==x)=true:=fun x=>by simp
 simp(disch:=first|assumption|omega)only[W_block,P3,seval,initFr,clsA,gl1,ll]
 refine callK (t26 (hl0.keeps k1) hi) ?_
 rintro _ X ⟨hX,ie,rfl⟩
 rw[hX]
 have hin0:inl ⟨fun _=>false,fun _=>false,fun _=>false⟩ (.slice none 0 0)=[.int .u64 0,.int .u32 0,.int .u32 0,.slice none 0 0]:=by unfold inl;rw[←s_zero,←p_zero]
 have tS:=fun K=>n15 (H:=K) s ⟨fun _=>false,fun _=>false,fun _=>false⟩ (cv:=.slice none 0 0) rfl
 simp only[hin0]at tS
 have ls:=AHeap.get_lt gs1
 simp(disch:=first|assumption|omega)only[W_block,P3,seval,initFr,clsA,gs1,rng68,ls]
 refine callQ (tS _) ?_
 obtain⟨K2,hK2⟩:∃Z,Z=(K1.alloc (.cells true false 68 (stl Sta0) 37)).alloc (.cells true false 2 [.int .u64 0,.int .u32 0] 68):=⟨_,rfl⟩
 have k2:Keeps K1 K2:=by rw[hK2];exact((Keeps.refl K1).alloc _).alloc _
 have ga2:K2.get K1.n=some (.cells true false 68 (stl Sta0) 37):=by rw[hK2];exact((Keeps.refl _).alloc _).at_ (AHeap.get_alloc_new K1 _)
 have gb2:K2.get (K1.n+1)=some (.cells true false 2 [.int .u64 0,.int .u32 0] 68):=by rw[hK2];exact AHeap.get_alloc_new (K1.alloc _) _
 have gs2:=k2.at_ gs1
 have eqo:∀K,asem (.eqs [1,1] false (.agg #[.int .u64 0,.int .u32 0]) (.agg #[.int .u64 0,.int .u32 0])) K=some (.bool true,K):=fun K=>by simp[asem,eqCs,eqC]
 have rg2:∀(o r:Bool) (T:Nat),rangeO (some (.cells o r 2 [.int .u64 0,.int .u32 0] T)) 0 2=some [.int .u64 0,.int .u32 0]:=fun o r T=>rng_full rfl
 simp(disch:=first|assumption|omega|(simp only[LN]<;>omega)|(simp(disch:=first|assumption|omega|(simp only[LN]<;>omega))only[row_alloc,row_set];assumption))only[W_block,P3,seval,initFr,clsA,rng68,stn68s,stl_one,stl_len,Z68L_z,o_s64,o_s32,one_s64,one_s32]
 simp only[←hK2]
 simp(disch:=first|assumption|omega|(simp only[LN]<;>omega)|(simp(disch:=first|assumption|omega|(simp only[LN]<;>omega))only[row_alloc,row_set];assumption))only[W_block,P3,↓reduceIte,reduceAdd,reduceEqDiff,reduceCtorEq,initFr,reduceLT,clsA,reduceLeDiff,reduceMul,reduceSub,reduceIte,hpe,bb,be,gs2,rng68]
 refine callQ (n8 s) ?_
 simp(disch:=first|assumption|omega|(simp only[LN]<;>omega)|(simp(disch:=first|assumption|omega|(simp only[LN]<;>omega))only[row_alloc,row_set];assumption))only[W_block,P3,↓reduceIte,reduceAdd,reduceEqDiff,reduceCtorEq,initFr,reduceLT,clsA,reduceLeDiff,reduceMul,reduceSub,reduceIte,ga2,gb2,gs2,rng68,rg2,eqs0,eqo,staB_rfl,Z68L_z,O68L_r,stl_one]
 refine callQ (n20 s) ?_
 simp(disch:=first|assumption|omega)only[W_block,P3,seval,initFr,clsA]
 refine callQ (t11 _) ?_
 simp(disch:=first|assumption|omega)only[W_block,P3,seval,initFr,clsA]
 exact hq2 _ _ ⟨_,rfl,rfl,(k0.trans k1).trans k2⟩
end Go.AM.Fd

set_option maxRecDepth 20000
namespace Go.AM.Fd
open Nat (reduceAdd reduceEqDiff reduceLT reduceLeDiff reduceMul reduceSub)
open Go.Proofs Go.AM.F
def yL:Ly:=⟨[[97],[98],[99],[100],[101],[102]],[([80],1),([81],3)],[([71],0),([72],4),([75],5)],[⟨[82,49],0,[1,2],[(0,false),(1,false)],[3],[]⟩,⟨[82,50],0,[1,5],[(0,true)],[],[]⟩,⟨[82,51],1,[3,2],[(1,false)],[],[]⟩,⟨[82,52],2,[4],[],[],[(1,true)]⟩,⟨[82,53],1,[3],[(1,true)],[5],[]⟩]⟩
def yX(H:AHeap):List RV:=[⟨⟨[82,49],0,[1,2],[(0,false),(1,false)],[3],[]⟩,slc (H.n+4) 0 2 2,slc (H.n+5) 0 2 2,slc (H.n+6) 0 1 1,.slice none 0 0⟩,⟨⟨[82,50],0,[1,5],[(0,true)],[],[]⟩,slc (H.n+7) 0 2 2,slc (H.n+8) 0 1 1,.slice none 0 0,.slice none 0 0⟩,⟨⟨[82,51],1,[3,2],[(1,false)],[],[]⟩,slc (H.n+9) 0 2 2,slc (H.n+10) 0 1 1,.slice none 0 0,.slice none 0 0⟩,⟨⟨[82,52],2,[4],[],[],[(1,true)]⟩,slc (H.n+11) 0 1 1,.slice none 0 0,.slice none 0 0,slc (H.n+12) 0 1 1⟩,⟨⟨[82,53],1,[3],[(1,true)],[5],[]⟩,slc (H.n+13) 0 1 1,slc (H.n+14) 0 1 1,slc (H.n+15) 0 1 1,.slice none 0 0⟩]
def yR(H:AHeap):List Value:=((yX H).map RV.row).flatten
def yU(H:AHeap):V4:=⟨slc (H.n+1) 0 6 6,slc (H.n+2) 0 2 2,slc (H.n+3) 0 3 3,slc (H.n+16) 0 5 5⟩
def yK(H:AHeap):AHeap:=(((((((((((((((((H).alloc (.cells true false 4 [slc (H.n+1) 0 6 6,slc (H.n+2) 0 2 2,slc (H.n+3) 0 3 3,slc (H.n+16) 0 5 5] 27)).alloc (.cells true false 1 [.string ⟨#[97]⟩,.string ⟨#[98]⟩,.string ⟨#[99]⟩,.string ⟨#[100]⟩,.string ⟨#[101]⟩,.string ⟨#[102]⟩] 9)).alloc (.cells true false 2 [.string ⟨#[80]⟩,.int .i64 1,.string ⟨#[81]⟩,.int .i64 3] 52)).alloc (.cells true false 2 [.string ⟨#[71]⟩,.int .i64 0,.string ⟨#[72]⟩,.int .i64 4,.string ⟨#[75]⟩,.int .i64 5] 53)).alloc (.cells true false 1 [.int .i64 1,.int .i64 2] 3)).alloc (.cells true false 2 [.int .i64 0,.bool false,.int .i64 1,.bool false] 55)).alloc (.cells true false 1 [.int .i64 3] 3)).alloc (.cells true false 1 [.int .i64 1,.int .i64 5] 3)).alloc (.cells true false 2 [.int .i64 0,.bool true] 55)).alloc (.cells true false 1 [.int .i64 3,.int .i64 2] 3)).alloc (.cells true false 2 [.int .i64 1,.bool false] 55)).alloc (.cells true false 1 [.int .i64 4] 3)).alloc (.cells true false 2 [.int .i64 1,.bool true] 55)).alloc (.cells true false 1 [.int .i64 3] 3)).alloc (.cells true false 2 [.int .i64 1,.bool true] 55)).alloc (.cells true false 1 [.int .i64 5] 3)).alloc (.cells true false 6 (yR H) 49)
theorem yK_n(H:AHeap):(yK H).n=H.n+17:=rfl
theorem yK_ly(H:AHeap):LyR (yK H) (yU H) (yX H) yL:=by
 refine⟨?_,?_,?_,?_,rfl,?_⟩
 ·exact Sl.keeps (newSl (rows:=[[.string ⟨#[97]⟩],[.string ⟨#[98]⟩],[.string ⟨#[99]⟩],[.string ⟨#[100]⟩],[.string ⟨#[101]⟩],[.string ⟨#[102]⟩]]) (by simp) rfl rfl) ((((((((((((((((Keeps.refl _).alloc _).alloc _).alloc _).alloc _).alloc _).alloc _).alloc _).alloc _).alloc _).alloc _).alloc _).alloc _).alloc _).alloc _).alloc _)
 ·exact Sl.keeps (newSl (rows:=[[.string ⟨#[80]⟩,.int .i64 1],[.string ⟨#[81]⟩,.int .i64 3]]) (by simp) rfl rfl) (((((((((((((((Keeps.refl _).alloc _).alloc _).alloc _).alloc _).alloc _).alloc _).alloc _).alloc _).alloc _).alloc _).alloc _).alloc _).alloc _).alloc _)
 ·exact Sl.keeps (newSl (rows:=[[.string ⟨#[71]⟩,.int .i64 0],[.string ⟨#[72]⟩,.int .i64 4],[.string ⟨#[75]⟩,.int .i64 5]]) (by simp) rfl rfl) ((((((((((((((Keeps.refl _).alloc _).alloc _).alloc _).alloc _).alloc _).alloc _).alloc _).alloc _).alloc _).alloc _).alloc _).alloc _).alloc _)
 ·exact newSl (rows:=(yX H).map RV.row) (by intro r hr;obtain⟨y,_,rfl⟩:=List.mem_map.1 hr;rfl) rfl rfl
 ·intro x hx
  have b4:IL (yK H) (slc (H.n+4) 0 2 2) [1,2]:=Sl.keeps (newSl (rows:=[[.int .i64 1],[.int .i64 2]]) (by simp) rfl rfl) (((((((((((((Keeps.refl _).alloc _).alloc _).alloc _).alloc _).alloc _).alloc _).alloc _).alloc _).alloc _).alloc _).alloc _).alloc _)
  have b5:NL (yK H) (slc (H.n+5) 0 2 2) [(0,false),(1,false)]:=Sl.keeps (newSl (rows:=[[.int .i64 0,.bool false],[.int .i64 1,.bool false]]) (by simp) rfl rfl) ((((((((((((Keeps.refl _).alloc _).alloc _).alloc _).alloc _).alloc _).alloc _).alloc _).alloc _).alloc _).alloc _).alloc _)
  have b6:IL (yK H) (slc (H.n+6) 0 1 1) [3]:=Sl.keeps (newSl (rows:=[[.int .i64 3]]) (by simp) rfl rfl) (((((((((((Keeps.refl _).alloc _).alloc _).alloc _).alloc _).alloc _).alloc _).alloc _).alloc _).alloc _).alloc _)
  have b7:IL (yK H) (slc (H.n+7) 0 2 2) [1,5]:=Sl.keeps (newSl (rows:=[[.int .i64 1],[.int .i64 5]]) (by simp) rfl rfl) ((((((((((Keeps.refl _).alloc _).alloc _).alloc _).alloc _).alloc _).alloc _).alloc _).alloc _).alloc _)
  have b8:NL (yK H) (slc (H.n+8) 0 1 1) [(0,true)]:=Sl.keeps (newSl (rows:=[[.int .i64 0,.bool true]]) (by simp) rfl rfl) (((((((((Keeps.refl _).alloc _).alloc _).alloc _).alloc _).alloc _).alloc _).alloc _).alloc _)
  have b9:IL (yK H) (slc (H.n+9) 0 2 2) [3,2]:=Sl.keeps (newSl (rows:=[[.int .i64 3],[.int .i64 2]]) (by simp) rfl rfl) ((((((((Keeps.refl _).alloc _).alloc _).alloc _).alloc _).alloc _).alloc _).alloc _)
  have b10:NL (yK H) (slc (H.n+10) 0 1 1) [(1,false)]:=Sl.keeps (newSl (rows:=[[.int .i64 1,.bool false]]) (by simp) rfl rfl) (((((((Keeps.refl _).alloc _).alloc _).alloc _).alloc _).alloc _).alloc _)
  have b11:IL (yK H) (slc (H.n+11) 0 1 1) [4]:=Sl.keeps (newSl (rows:=[[.int .i64 4]]) (by simp) rfl rfl) ((((((Keeps.refl _).alloc _).alloc _).alloc _).alloc _).alloc _)
  have b12:NL (yK H) (slc (H.n+12) 0 1 1) [(1,true)]:=Sl.keeps (newSl (rows:=[[.int .i64 1,.bool true]]) (by simp) rfl rfl) (((((Keeps.refl _).alloc _).alloc _).alloc _).alloc _)
  have b13:IL (yK H) (slc (H.n+13) 0 1 1) [3]:=Sl.keeps (newSl (rows:=[[.int .i64 3]]) (by simp) rfl rfl) ((((Keeps.refl _).alloc _).alloc _).alloc _)
  have b14:NL (yK H) (slc (H.n+14) 0 1 1) [(1,true)]:=Sl.keeps (newSl (rows:=[[.int .i64 1,.bool true]]) (by simp) rfl rfl) (((Keeps.refl _).alloc _).alloc _)
  have b15:IL (yK H) (slc (H.n+15) 0 1 1) [5]:=Sl.keeps (newSl (rows:=[[.int .i64 5]]) (by simp) rfl rfl) ((Keeps.refl _).alloc _)
  have iz:IL (yK H) (.slice none 0 0) []:=Sl.nil _ _
  have nz:NL (yK H) (.slice none 0 0) []:=Sl.nil _ _
  simp only[yX,List.mem_cons,List.not_mem_nil,or_false]at hx
  rcases hx with rfl|rfl|rfl|rfl|rfl
  ·exact⟨b4,b5,b6,nz⟩
  ·exact⟨b7,b8,iz,nz⟩
  ·exact⟨b9,b10,iz,nz⟩
  ·exact⟨b11,nz,iz,b12⟩
  ·exact⟨b13,b14,b15,nz⟩
theorem yL_ok:checkE yL=0:=by decide+kernel
theorem yL_in:LyIn 9223372036854775807 yL:=by
 refine⟨?_,?_,?_,?_⟩<;>decide
theorem yL_b(H:AHeap):LyB (yX H) yL:=by
 refine⟨by decide,by decide,by decide,by decide,fun y hy=>?_⟩
 simp only[yX,List.mem_cons,List.not_mem_nil,or_false]at hy
 rcases hy with rfl|rfl|rfl|rfl|rfl<;>exact⟨by simp[RB],by simp[RB],by simp[RB],by simp[RB]⟩
theorem G1(x a b c d e f:ByteArray):fillA [.string x,.string x,.string x,.string x,.string x,.string x] [(0,1,.string a),(1,1,.string b),(2,1,.string c),(3,1,.string d),(4,1,.string e),(5,1,.string f)]=some [.string a,.string b,.string c,.string d,.string e,.string f]:=rfl
theorem G2(a b c d e f g h:Value):fillA [e,f,g,h] [(0,2,.agg #[a,b]),(2,2,.agg #[c,d])]=some [a,b,c,d]:=rfl
theorem G3(a b c d e f g h i j k l:Value):fillA [g,h,i,j,k,l] [(0,2,.agg #[a,b]),(2,2,.agg #[c,d]),(4,2,.agg #[e,f])]=some [a,b,c,d,e,f]:=rfl
theorem G4(k:IntKind)(n m:Int)(b c:Bool):fillA [.int k n,.bool b] [(0,1,.int k m),(1,1,.bool c)]=some [.int k m,.bool c]:=rfl
theorem G5(k:IntKind)(n m:Int)(b:Bool):fillA [.int k n,.bool b] [(0,1,.int k m)]=some [.int k m,.bool b]:=rfl
theorem G6(k:IntKind)(n m:Int):fillA [.int k n] [(0,1,.int k m)]=some [.int k m]:=rfl
theorem H1(x a:ByteArray)(k:IntKind)(m n:Int)(b c d e f g h i j l o p:Nat):fillA [.string x,.int k m,.slice none 0 0,.slice none 0 0,.slice none 0 0,.slice none 0 0] [(0,1,.string a),(1,1,.int k n),(2,1,slc b c d e),(3,1,slc f g h i),(4,1,slc j l o p)]=some [.string a,.int k n,slc b c d e,slc f g h i,slc j l o p,.slice none 0 0]:=rfl
theorem H2(x a:ByteArray)(k:IntKind)(m n:Int)(b c d e f g h i:Nat):fillA [.string x,.int k m,.slice none 0 0,.slice none 0 0,.slice none 0 0,.slice none 0 0] [(0,1,.string a),(1,1,.int k n),(2,1,slc b c d e),(3,1,slc f g h i)]=some [.string a,.int k n,slc b c d e,slc f g h i,.slice none 0 0,.slice none 0 0]:=rfl
theorem H3(x a:ByteArray)(k:IntKind)(m n:Int)(b c d e f g h i:Nat):fillA [.string x,.int k m,.slice none 0 0,.slice none 0 0,.slice none 0 0,.slice none 0 0] [(0,1,.string a),(1,1,.int k n),(2,1,slc b c d e),(5,1,slc f g h i)]=some [.string a,.int k n,slc b c d e,.slice none 0 0,.slice none 0 0,slc f g h i]:=rfl
theorem H4(a0 b0 c0 d0 e0 f0 a1 b1 c1 d1 e1 f1 a2 b2 c2 d2 e2 f2 a3 b3 c3 d3 e3 f3 a4 b4 c4 d4 e4 f4:Value):fillA Z30L [(0,6,.agg #[a0,b0,c0,d0,e0,f0]),(6,6,.agg #[a1,b1,c1,d1,e1,f1]),(12,6,.agg #[a2,b2,c2,d2,e2,f2]),(18,6,.agg #[a3,b3,c3,d3,e3,f3]),(24,6,.agg #[a4,b4,c4,d4,e4,f4])]=some [a0,b0,c0,d0,e0,f0,a1,b1,c1,d1,e1,f1,a2,b2,c2,d2,e2,f2,a3,b3,c3,d3,e3,f3,a4,b4,c4,d4,e4,f4]:=rfl
set_option maxHeartbeats 4000000 in
theorem t4(H:AHeap):∃w H',ARun Tryz.prog 0 4 [] H w H'∧w=.agg (yU H).l.toArray∧H'=yK H:=by
 refine walk2 f4_ok f4_n ?_
 intro Q hq1 hq2
 simp(disch:=first|assumption|omega|(simp only[LN]<;>omega)|(simp(disch:=first|assumption|omega|(simp only[LN]<;>omega))only[row_alloc,row_set];assumption))only[f4,W_block,P3,seval,initFr,clsA,G1,F2,F3,F4,F8,G2,G3,G4,G5,G6,H1,H2,H3,H4,F5]
 have gg:(yK H).get H.n=some (.cells true false 4 (yU H).l 27):=Keeps.at_ (((((((((((((((((Keeps.refl _).alloc _).alloc _).alloc _).alloc _).alloc _).alloc _).alloc _).alloc _).alloc _).alloc _).alloc _).alloc _).alloc _).alloc _).alloc _).alloc _) (AHeap.get_alloc_new H _)
 refine hq2 _ _ ⟨.agg (yU H).l.toArray,?_,rfl,rfl⟩
 show resO [.cn 4 0] _ (yK H)=_
 rw[resC]
 show celln 4 (ptr H.n 0) (yK H)=_
 rw[cellnp,rangeA_e,gg];rfl
end Go.AM.Fd

set_option maxRecDepth 20000
namespace Go.AM.Fd
open Go.Proofs Go.AM.F
def yLb:Ly:=⟨[[97],[98],[99],[100],[101],[102]],[([80],1),([81],3)],[([71],0),([72],4),([75],5)],[⟨[82,49],0,[],[(0,false),(1,false)],[3],[]⟩,⟨[82,50],0,[1,5],[(0,true)],[],[]⟩,⟨[82,51],1,[3,2],[(1,false)],[],[]⟩,⟨[82,52],2,[4],[],[],[(1,true)]⟩,⟨[82,53],1,[3],[(1,true)],[5],[]⟩]⟩
def yXb(H:AHeap):List RV:=[⟨⟨[82,49],0,[],[(0,false),(1,false)],[3],[]⟩,.slice none 0 0,slc (H.n+5) 0 2 2,slc (H.n+6) 0 1 1,.slice none 0 0⟩,⟨⟨[82,50],0,[1,5],[(0,true)],[],[]⟩,slc (H.n+7) 0 2 2,slc (H.n+8) 0 1 1,.slice none 0 0,.slice none 0 0⟩,⟨⟨[82,51],1,[3,2],[(1,false)],[],[]⟩,slc (H.n+9) 0 2 2,slc (H.n+10) 0 1 1,.slice none 0 0,.slice none 0 0⟩,⟨⟨[82,52],2,[4],[],[],[(1,true)]⟩,slc (H.n+11) 0 1 1,.slice none 0 0,.slice none 0 0,slc (H.n+12) 0 1 1⟩,⟨⟨[82,53],1,[3],[(1,true)],[5],[]⟩,slc (H.n+13) 0 1 1,slc (H.n+14) 0 1 1,slc (H.n+15) 0 1 1,.slice none 0 0⟩]
def yRb(H:AHeap):List Value:=((yXb H).map RV.row).flatten
def yBK(H:AHeap):AHeap:=(((((((((((((((((H).alloc (.cells true false 4 [slc (H.n+1) 0 6 6,slc (H.n+2) 0 2 2,slc (H.n+3) 0 3 3,slc (H.n+16) 0 5 5] 27)).alloc (.cells true false 1 [.string ⟨#[97]⟩,.string ⟨#[98]⟩,.string ⟨#[99]⟩,.string ⟨#[100]⟩,.string ⟨#[101]⟩,.string ⟨#[102]⟩] 9)).alloc (.cells true false 2 [.string ⟨#[80]⟩,.int .i64 1,.string ⟨#[81]⟩,.int .i64 3] 52)).alloc (.cells true false 2 [.string ⟨#[71]⟩,.int .i64 0,.string ⟨#[72]⟩,.int .i64 4,.string ⟨#[75]⟩,.int .i64 5] 53)).alloc (.cells true false 1 [.int .i64 1,.int .i64 2] 3)).alloc (.cells true false 2 [.int .i64 0,.bool false,.int .i64 1,.bool false] 55)).alloc (.cells true false 1 [.int .i64 3] 3)).alloc (.cells true false 1 [.int .i64 1,.int .i64 5] 3)).alloc (.cells true false 2 [.int .i64 0,.bool true] 55)).alloc (.cells true false 1 [.int .i64 3,.int .i64 2] 3)).alloc (.cells true false 2 [.int .i64 1,.bool false] 55)).alloc (.cells true false 1 [.int .i64 4] 3)).alloc (.cells true false 2 [.int .i64 1,.bool true] 55)).alloc (.cells true false 1 [.int .i64 3] 3)).alloc (.cells true false 2 [.int .i64 1,.bool true] 55)).alloc (.cells true false 1 [.int .i64 5] 3)).alloc (.cells true false 6 (yRb H) 49)
theorem yBK_k(H:AHeap):Keeps H (yBK H):=((((((((((((((((((Keeps.refl H).alloc _).alloc _).alloc _).alloc _).alloc _).alloc _).alloc _).alloc _).alloc _).alloc _).alloc _).alloc _).alloc _).alloc _).alloc _).alloc _).alloc _)
theorem yBK_ly(H:AHeap):LyR (yBK H) (yU H) (yXb H) yLb:=by
 refine⟨?_,?_,?_,?_,rfl,?_⟩
 ·exact Sl.keeps (newSl (rows:=[[.string ⟨#[97]⟩],[.string ⟨#[98]⟩],[.string ⟨#[99]⟩],[.string ⟨#[100]⟩],[.string ⟨#[101]⟩],[.string ⟨#[102]⟩]]) (by simp) rfl rfl) ((((((((((((((((Keeps.refl _).alloc _).alloc _).alloc _).alloc _).alloc _).alloc _).alloc _).alloc _).alloc _).alloc _).alloc _).alloc _).alloc _).alloc _).alloc _)
 ·exact Sl.keeps (newSl (rows:=[[.string ⟨#[80]⟩,.int .i64 1],[.string ⟨#[81]⟩,.int .i64 3]]) (by simp) rfl rfl) (((((((((((((((Keeps.refl _).alloc _).alloc _).alloc _).alloc _).alloc _).alloc _).alloc _).alloc _).alloc _).alloc _).alloc _).alloc _).alloc _).alloc _)
 ·exact Sl.keeps (newSl (rows:=[[.string ⟨#[71]⟩,.int .i64 0],[.string ⟨#[72]⟩,.int .i64 4],[.string ⟨#[75]⟩,.int .i64 5]]) (by simp) rfl rfl) ((((((((((((((Keeps.refl _).alloc _).alloc _).alloc _).alloc _).alloc _).alloc _).alloc _).alloc _).alloc _).alloc _).alloc _).alloc _).alloc _)
 ·exact newSl (rows:=(yXb H).map RV.row) (by intro r hr;obtain⟨y,_,rfl⟩:=List.mem_map.1 hr;rfl) rfl rfl
 ·intro x hx
  have b4:IL (yBK H) (slc (H.n+4) 0 2 2) [1,2]:=Sl.keeps (newSl (rows:=[[.int .i64 1],[.int .i64 2]]) (by simp) rfl rfl) (((((((((((((Keeps.refl _).alloc _).alloc _).alloc _).alloc _).alloc _).alloc _).alloc _).alloc _).alloc _).alloc _).alloc _).alloc _)
  have b5:NL (yBK H) (slc (H.n+5) 0 2 2) [(0,false),(1,false)]:=Sl.keeps (newSl (rows:=[[.int .i64 0,.bool false],[.int .i64 1,.bool false]]) (by simp) rfl rfl) ((((((((((((Keeps.refl _).alloc _).alloc _).alloc _).alloc _).alloc _).alloc _).alloc _).alloc _).alloc _).alloc _).alloc _)
  have b6:IL (yBK H) (slc (H.n+6) 0 1 1) [3]:=Sl.keeps (newSl (rows:=[[.int .i64 3]]) (by simp) rfl rfl) (((((((((((Keeps.refl _).alloc _).alloc _).alloc _).alloc _).alloc _).alloc _).alloc _).alloc _).alloc _).alloc _)
  have b7:IL (yBK H) (slc (H.n+7) 0 2 2) [1,5]:=Sl.keeps (newSl (rows:=[[.int .i64 1],[.int .i64 5]]) (by simp) rfl rfl) ((((((((((Keeps.refl _).alloc _).alloc _).alloc _).alloc _).alloc _).alloc _).alloc _).alloc _).alloc _)
  have b8:NL (yBK H) (slc (H.n+8) 0 1 1) [(0,true)]:=Sl.keeps (newSl (rows:=[[.int .i64 0,.bool true]]) (by simp) rfl rfl) (((((((((Keeps.refl _).alloc _).alloc _).alloc _).alloc _).alloc _).alloc _).alloc _).alloc _)
  have b9:IL (yBK H) (slc (H.n+9) 0 2 2) [3,2]:=Sl.keeps (newSl (rows:=[[.int .i64 3],[.int .i64 2]]) (by simp) rfl rfl) ((((((((Keeps.refl _).alloc _).alloc _).alloc _).alloc _).alloc _).alloc _).alloc _)
  have b10:NL (yBK H) (slc (H.n+10) 0 1 1) [(1,false)]:=Sl.keeps (newSl (rows:=[[.int .i64 1,.bool false]]) (by simp) rfl rfl) (((((((Keeps.refl _).alloc _).alloc _).alloc _).alloc _).alloc _).alloc _)
  have b11:IL (yBK H) (slc (H.n+11) 0 1 1) [4]:=Sl.keeps (newSl (rows:=[[.int .i64 4]]) (by simp) rfl rfl) ((((((Keeps.refl _).alloc _).alloc _).alloc _).alloc _).alloc _)
  have b12:NL (yBK H) (slc (H.n+12) 0 1 1) [(1,true)]:=Sl.keeps (newSl (rows:=[[.int .i64 1,.bool true]]) (by simp) rfl rfl) (((((Keeps.refl _).alloc _).alloc _).alloc _).alloc _)
  have b13:IL (yBK H) (slc (H.n+13) 0 1 1) [3]:=Sl.keeps (newSl (rows:=[[.int .i64 3]]) (by simp) rfl rfl) ((((Keeps.refl _).alloc _).alloc _).alloc _)
  have b14:NL (yBK H) (slc (H.n+14) 0 1 1) [(1,true)]:=Sl.keeps (newSl (rows:=[[.int .i64 1,.bool true]]) (by simp) rfl rfl) (((Keeps.refl _).alloc _).alloc _)
  have b15:IL (yBK H) (slc (H.n+15) 0 1 1) [5]:=Sl.keeps (newSl (rows:=[[.int .i64 5]]) (by simp) rfl rfl) ((Keeps.refl _).alloc _)
  have iz:IL (yBK H) (.slice none 0 0) []:=Sl.nil _ _
  have nz:NL (yBK H) (.slice none 0 0) []:=Sl.nil _ _
  simp only[yXb,List.mem_cons,List.not_mem_nil,or_false]at hx
  rcases hx with rfl|rfl|rfl|rfl|rfl
  ·exact⟨iz,b5,b6,nz⟩
  ·exact⟨b7,b8,iz,nz⟩
  ·exact⟨b9,b10,iz,nz⟩
  ·exact⟨b11,nz,iz,b12⟩
  ·exact⟨b13,b14,b15,nz⟩
theorem yLb_in:LyIn 9223372036854775807 yLb:=by
 refine⟨?_,?_,?_,?_⟩<;>decide
theorem yB_set(H:AHeap)(o:AO):((yK H).alloc o).set (H.n+16) (.cells true false 6 ((yR H).set 2 (.slice none 0 0)) 49)=(yBK H).alloc o:=by
 have h1:(yR H).set 2 (.slice none 0 0)=yRb H:=rfl
 rw[h1]
 rw[set_old _ _ (by rw[yK_n];omega)]
 congr 1
 unfold yK yBK
 exact set_new (b:=H.n+16) _ _ rfl
theorem ly0(H:AHeap):LyR H ⟨.slice none 0 0,.slice none 0 0,.slice none 0 0,.slice none 0 0⟩ [] ⟨[],[],[],[]⟩:=⟨Sl.nil _ _,Sl.nil _ _,Sl.nil _ _,Sl.nil _ _,rfl,fun x hx=>(by cases hx)⟩
theorem ly0_in:LyIn 9223372036854775807 ⟨[],[],[],[]⟩:=by
 refine⟨?_,?_,?_,?_⟩<;>decide
end Go.AM.Fd

set_option maxRecDepth 20000
namespace Go.AM.Fd
open Nat (reduceAdd reduceEqDiff reduceLT reduceLeDiff reduceMul reduceSub)
open Go.Proofs Go.AM.F
def W64(a:Int)(i:Nat):Bool:=(IntKind.u64.wrap a).toNat.testBit i
def W32(a:Int)(i:Nat):Bool:=(IntKind.u32.wrap a).toNat.testBit i
def W8(a:Int):Nat:=(IntKind.u8.wrap a).toNat
theorem w64_eq(a:Int):Value.int .u64 (IntKind.u64.wrap a)=S64 (W64 a):=by
 have h0:0≤IntKind.u64.wrap a:=by rw[wrap_u64];omega
 have h1:IntKind.u64.wrap a<18446744073709551616:=by rw[wrap_u64];omega
 unfold S64 W64
 rw[bits_of (by omega:(IntKind.u64.wrap a).toNat<2 ^ 64)]
 congr 1;omega
theorem w32_eq(a:Int):Value.int .u32 (IntKind.u32.wrap a)=S32 (W32 a):=by
 have h0:0≤IntKind.u32.wrap a:=by rw[wrap_u32];omega
 have h1:IntKind.u32.wrap a<4294967296:=by rw[wrap_u32];omega
 unfold S32 W32
 rw[bits_of (by omega:(IntKind.u32.wrap a).toNat<2 ^ 32)]
 congr 1;omega
theorem w8_eq(a:Int):Value.int .u8 (IntKind.u8.wrap a)=.int .u8 ((W8 a:Nat):Int):=by
 have h0:0≤IntKind.u8.wrap a:=by rw[wrap_u8];omega
 unfold W8;congr 1;omega
theorem nb64{n:Nat}(h:n<2 ^ 64):Value.int .u64 (n:Int)=S64 (fun i=>n.testBit i):=by unfold S64;rw[bits_of h]
theorem nb32{n:Nat}(h:n<2 ^ 32):Value.int .u32 (n:Int)=S32 (fun i=>n.testBit i):=by unfold S32;rw[bits_of h]
theorem and63(f:Nat→Bool):binA .and (S64 f) (.int .u64 63)=some (S64 fun i=>f i&&(63:Nat).testBit i):=(congrArg (binA .and (S64 f)) (nb64 (n:=63) (by decide))).trans (s_and _ _)
theorem and127(f:Nat→Bool):binA .and (S64 f) (.int .u64 127)=some (S64 fun i=>f i&&(127:Nat).testBit i):=(congrArg (binA .and (S64 f)) (nb64 (n:=127) (by decide))).trans (s_and _ _)
theorem and9(f:Nat→Bool):binA .and (S64 f) (.int .u64 9)=some (S64 fun i=>f i&&(9:Nat).testBit i):=(congrArg (binA .and (S64 f)) (nb64 (n:=9) (by decide))).trans (s_and _ _)
theorem and3(f:Nat→Bool):binA .and (S32 f) (.int .u32 3)=some (S32 fun i=>f i&&(3:Nat).testBit i):=(congrArg (binA .and (S32 f)) (nb32 (n:=3) (by decide))).trans (p_and _ _)
theorem rem23(a:Int):binA .rem (.int .i64 a) (.int .i64 23)=some (.int .i64 (a.tmod 23)):=b_rem _ _ _ (by decide)
theorem rem4(a:Int):binA .rem (.int .i64 a) (.int .i64 4)=some (.int .i64 (a.tmod 4)):=b_rem _ _ _ (by decide)
theorem rem5(a:Int):binA .rem (.int .i64 a) (.int .i64 5)=some (.int .i64 (a.tmod 5)):=b_rem _ _ _ (by decide)
theorem rem2(k:Nat):binA .rem (.int .i64 (k:Int)) (.int .i64 2)=some (.int .i64 ((k % 2:Nat):Int)):=b_remn (m:=2) (by decide)
theorem rem6(k:Nat):binA .rem (.int .i64 (k:Int)) (.int .i64 6)=some (.int .i64 ((k % 6:Nat):Int)):=b_remn (m:=6) (by decide)
theorem quo4(a:Int):binA .quo (.int .i64 a) (.int .i64 4)=some (.int .i64 (IntKind.i64.wrap (a.tdiv 4))):=b_quo _ _ _ (by decide)
theorem fillI(a b c:Int)(f g h:Nat→Bool)(x y z w:Nat):fillA [.int .u64 a,.int .u32 b,.int .u32 c,.slice none 0 0] [(0,1,S64 f),(1,1,S32 g),(2,1,S32 h),(3,1,slc x y z w)]=some [S64 f,S32 g,S32 h,slc x y z w]:=rfl
theorem fillC2(a b c d:Int):fillA [.int .u8 a,.int .i64 b] [(0,1,.int .u8 c),(1,1,.int .i64 d)]=some [.int .u8 c,.int .i64 d]:=rfl
theorem fillI8(z a b c d e f g h:Int):fillA [.int .i64 z,.int .i64 z,.int .i64 z,.int .i64 z,.int .i64 z,.int .i64 z,.int .i64 z,.int .i64 z] [(0,1,.int .i64 a),(1,1,.int .i64 b),(2,1,.int .i64 c),(3,1,.int .i64 d),(4,1,.int .i64 e),(5,1,.int .i64 f),(6,1,.int .i64 g),(7,1,.int .i64 h)]=some [.int .i64 a,.int .i64 b,.int .i64 c,.int .i64 d,.int .i64 e,.int .i64 f,.int .i64 g,.int .i64 h]:=by
 simp[fill_cons,cells_int,fillA]
theorem fillI4(a b c:Int)(v:Value)(h:isS v=true):fillA [.int .u64 a,.int .u32 b,.int .u32 c,.slice none 0 0] [(3,1,v)]=some [.int .u64 a,.int .u32 b,.int .u32 c,v]:=by
 cases v with
 |slice p n k=>rfl
 |_=>cases h
theorem fillS(f g:Nat→Bool):fillA (stl Sta0) [(0,1,S64 f),(67,1,S32 g)]=some (stl {Sta0 with lo:=f,po:=g}):=by
 have e1:(S64 f).cells.toList=[S64 f]:=rfl
 have e2:(S32 g).cells.toList=[S32 g]:=rfl
 rw[fill_cons,e1,if_pos ⟨rfl,by rw[stl_len];omega⟩]
 have h1:(stl Sta0).take 0++[S64 f]++(stl Sta0).drop (0+1)=stl {Sta0 with lo:=f}:=rfl
 rw[h1,fill_cons,e2,if_pos ⟨rfl,by rw[stl_len];omega⟩]
 have h3:=set_67 {Sta0 with lo:=f} g
 rw[List.set_eq_take_append_cons_drop,if_pos (by rw[stl_len];omega)]at h3
 have h2:(stl {Sta0 with lo:=f}).take 67++[S32 g]++(stl {Sta0 with lo:=f}).drop (67+1)=stl {Sta0 with lo:=f,po:=g}:=by
  rw[List.append_assoc];exact h3
 rw[h2];rfl
set_option maxHeartbeats 16000000 in
theorem knownA:∀H,∃w H',ARun Tryz.prog 0 3 [] H w H'∧w=.bool true:=by
 intro H
 refine walk2 f3_ok f3_n ?_
 intro Q hq1 hq2
 simp(disch:=first|assumption|omega)only[f3,W_block,P3,seval,initFr,clsA]
 refine callQ (t4 H) ?_
 have hul:(yU H).l=[(yU H).s,(yU H).p,(yU H).g,(yU H).r]:=rfl
 have ho:=ly_ones (yK_ly H)
 have ll:(yU H).l.length=4:=rfl
 obtain⟨K0,hK0⟩:∃X,X=(yK H).alloc (.cells true false 4 (yU H).l 27):=⟨_,rfl⟩
 have k0:Keeps (yK H) K0:=by rw[hK0];exact(Keeps.refl _).alloc _
 have gl0:K0.get (yK H).n=some (.cells true false 4 (yU H).l 27):=by rw[hK0];exact AHeap.get_alloc_new (yK H) _
 have hl0:=(yK_ly H).keeps k0
 have hs4:∀(h:AHeap) (b:Nat) (c:List Value),c.length=4→∀(r:Bool) (T:Nat),stnO h b 0 4 (yU H).l (some (.cells true r 4 c T))=some (undef,h.set b (.cells true r 4 (yU H).l T)):=fun h b c hc r T=>by
  rw[stn_full hc,if_pos ⟨ll,ho⟩]
 simp(disch:=first|assumption|omega|(simp only[LN]<;>omega)|(simp(disch:=first|assumption|omega|(simp only[LN]<;>omega))only[row_alloc,row_set];assumption))only[W_block,P3,seval,initFr,clsA,ho,ll,hs4]
 rw[←hK0]
 refine callK (t5 hl0 yL_in) ?_
 rintro _ K1 ⟨k1,_,e2⟩
 obtain⟨b,rfl,hMF⟩:=e2 yL_ok
 have hM:=hMF.r
 have gl1:=k1.at_ gl0
 have hl1:=hl0.keeps k1
 have hL:LyLim yL:=may_lim (check_may yL_ok)
 obtain⟨u,hu⟩:∃u,u=yU H:=⟨_,rfl⟩
 obtain⟨xs,hxs⟩:∃xs,xs=yX H:=⟨_,rfl⟩
 obtain⟨lb,hlb⟩:∃n,n=(yK H).n:=⟨_,rfl⟩
 have hb1:LyB xs yL:=by rw[hxs];exact yL_b H
 rw[←hu,←hlb]at gl1
 rw[←hu,←hxs]at hl1
 rw[←hu]at ll ho hs4
 rw[←hlb]
 have lb1:=AHeap.get_lt gl1
 simp(disch:=first|assumption|omega)only[P3,seval,initFr,clsA]
 rw[W_block]
 refine W_loop2 (fun q fr X=>∃k x5 x6 x7 x8 x9 x16 x17 x18 x19 x20 x21,fr=[.bool false,ptr lb 0,ptr b 0,.int .i64 0,.int .i64 ((k:Nat):Int),x5,x6,x7,x8,x9,undef,undef,undef,undef,undef,.bool false,x16,x17,x18,x19,x20,x21,undef,undef,undef,undef,undef,undef,undef]∧Keeps K1 X∧k≤64∧q=64-k) 64
  ⟨0,_,_,_,_,_,_,_,_,_,_,_,rfl,Keeps.refl _,by omega,rfl⟩ ?_
 rintro Q' q fr X ⟨k,x5,x6,x7,x8,x9,x16,x17,x18,x19,x20,x21,rfl,kX,hk,rfl⟩ hn' hx' hret
 by_cases hlt:k<64
 ·have e1:(k:Int)<64:=by omega
  have hw:IntKind.i64.wrap ((k:Int)+1)=((k+1:Nat):Int):=by rw[wrap_i64 (by omega) (by omega)];simp
  simp(disch:=first|assumption|omega)only[P3,seval,initFr,clsA,e1]
  rw[W_block]
  simp(disch:=first|assumption|omega)only[P3,seval,initFr,clsA,stl_one,stl_len,Z68L_z,w64_eq,w32_eq,and63,set_0,set_1,set_2,set_67,o_s64,o_s32,one_s64,one_s32]
  rw[W_block]
  refine W_loop2 (fun q fr Y=>∃i s x17,fr=[.bool false,ptr lb 0,ptr b 0,.int .i64 0,.int .i64 ((k:Nat):Int),ptr X.n 0,.int .i64 ((i:Nat):Int),x7,x8,x9,undef,undef,undef,undef,undef,.bool false,.bool true,x17,x18,x19,x20,x21,undef,undef,undef,undef,undef,undef,undef]∧
   Keeps X Y∧Y.get X.n=some (.cells true false 68 (stl s) 37)∧i≤6∧q=6-i) 6
   ⟨0,_,_,rfl,(Keeps.refl X).alloc _,AHeap.get_alloc_new X _,by omega,rfl⟩ ?_
  rintro Q2 q fr Y ⟨i,s,x17,rfl,kY,gs,hi,rfl⟩ hn2 hx2 hret2
  have ls:=AHeap.get_lt gs
  by_cases hi6:i<6
  ·have e0:(0:Int)≤(i:Int):=by omega
   have e2:(i:Int)<6:=by omega
   have e64:(i:Int)<64:=by omega
   have hw2:IntKind.i64.wrap ((i:Int)+1)=((i+1:Nat):Int):=by rw[wrap_i64 (by omega) (by omega)];simp
   have hll:3+i<68:=by omega
   have st:=fun n=>set_t s (show i<64 by omega) n
   simp(disch:=first|assumption|omega)only[W_block,P3,seval,initFr,clsA,e2,rem23,w8_eq,gs,ls,e0,e64,stl_len,hll,st,a_iaddrp,Int.toNat_natCast,Nat.mul_one,hw2]
   exact hn2 _ _ _ ⟨i+1,_,_,rfl,kY.set (Nat.le_refl _) ls _,AHeap.get_set_same gs _,by omega,rfl⟩ (by omega)
  have e2:¬(i:Int)<6:=by omega
  simp(disch:=first|assumption|omega)only[W_block,P3,seval,initFr,clsA,e2]
  refine hx2 _ _ _ ?_
  simp(disch:=first|assumption|omega)only[P3,seval,initFr,clsA]
  rw[W_block]
  have kXY:=kX.trans kY
  refine W_loop2 (fun q fr Z=>∃kd x8 x9 x18 x19 x20,fr=[.bool false,ptr lb 0,ptr b 0,.int .i64 0,.int .i64 ((k:Nat):Int),ptr X.n 0,.int .i64 ((i:Nat):Int),.int .u8 ((kd:Nat):Int),x8,x9,undef,undef,undef,undef,undef,.bool false,.bool true,.bool false,x18,x19,x20,x21,undef,undef,undef,undef,undef,undef,undef]∧
   Keeps Y Z∧kd≤5∧q=5-kd) 5
   ⟨0,_,_,_,_,_,rfl,Keeps.refl Y,by omega,rfl⟩ ?_
  rintro Q3 q fr Z ⟨kd,x8,x9,x18,x19,x20,rfl,kZ,hkd,rfl⟩ hn3 hx3 hret3
  by_cases hk5:kd<5
  ·have e3:(kd:Int)<5:=by omega
   have hw3:IntKind.u8.wrap ((kd:Int)+1)=((kd+1:Nat):Int):=by rw[wrap_u8];omega
   simp(disch:=first|assumption|omega)only[P3,seval,initFr,clsA,e3]
   rw[W_block]
   simp(disch:=first|assumption|omega)only[P3,seval,initFr,clsA]
   rw[W_block]
   refine W_loop2 (fun q fr V=>∃(n:Int) (x9 x19 x20:Value),fr=[.bool false,ptr lb 0,ptr b 0,.int .i64 0,.int .i64 ((k:Nat):Int),ptr X.n 0,.int .i64 ((i:Nat):Int),.int .u8 ((kd:Nat):Int),.int .i64 n,x9,undef,undef,undef,undef,undef,.bool false,.bool true,.bool false,.bool true,x19,x20,x21,undef,undef,undef,undef,undef,undef,undef]∧
    Keeps Y V∧ -1≤n∧n≤7∧q=(7-n).toNat) 8
    ⟨-1,_,_,_,rfl,kZ,by omega,by omega,rfl⟩ ?_
   rintro Q4 q fr V ⟨n,x9,x19,x20,rfl,kV,hn0,hn7,rfl⟩ hn4 hx4 hret4
   have kKV:=(kX.trans kY).trans kV
   have glV:=kKV.at_ gl1
   have gsV:=kV.at_ gs
   by_cases hn6:n<6
   ·have e4:n<6:=hn6
    simp(disch:=first|assumption|omega)only[P3,seval,initFr,clsA,e4]
    rw[W_block]
    simp(disch:=first|assumption|omega|(simp only[LN]<;>omega)|(simp(disch:=first|assumption|omega|(simp only[LN]<;>omega))only[row_alloc,row_set];assumption))only[P3,seval,initFr,clsA,rem4,rem5,quo4,w64_eq,w32_eq,and127,s_and,fillC2,F5,G2,fillI,o_s64,o_s32,one_s64,one_s32]
    obtain⟨x,hx⟩:∃x:Inp,x=⟨fun i=>(W64 (IntKind.i64.wrap ((k:Int)*13)) i&&(127:Nat).testBit i)&&W64 (IntKind.i64.wrap (IntKind.i64.wrap (n*29)+64)) i,W32 ((k:Int).tmod 4),W32 ((IntKind.i64.wrap ((k:Int).tdiv 4)).tmod 4)⟩:=⟨_,rfl⟩
    obtain⟨V1,hV1⟩:∃V1,V1=(V.alloc (.cells true false 2 [.int .u8 ((kd:Nat):Int),.int .i64 n,.int .u8 1,.int .i64 ((k:Int).tmod 5)] 39)).alloc (.cells true false 4 (inl x (slc V.n 0 2 2)) 42):=⟨_,rfl⟩
    have k1V:Keeps V V1:=by rw[hV1];exact((Keeps.refl V).alloc _).alloc _
    have gi1:V1.get (V.n+1)=some (.cells true false 4 (inl x (slc V.n 0 2 2)) 42):=by rw[hV1];exact AHeap.get_alloc_new (V.alloc _) _
    have gc1:V1.get V.n=some (.cells true false 2 [.int .u8 ((kd:Nat):Int),.int .i64 n,.int .u8 1,.int .i64 ((k:Int).tmod 5)] 39):=by rw[hV1];exact((Keeps.refl _).alloc _).at_ (AHeap.get_alloc_new V _)
    have hsl:SlC V1 2 (slc V.n 0 2 2) ([((kd:Int),n),(1,(k:Int).tmod 5)].map cRow):=⟨by
     rw[hV1];exact Sl.keeps (newSl (rows:=[[.int .u8 ((kd:Nat):Int),.int .i64 n],[.int .u8 1,.int .i64 ((k:Int).tmod 5)]]) (by simp) rfl rfl) ((Keeps.refl _).alloc _),.inr (.inr ⟨_,2,2,_,_,_,_,rfl,Nat.le_refl _,gc1⟩)⟩
    have hkdb:∀c∈[((kd:Int),n),(1,(k:Int).tmod 5)],0≤c.1∧c.1<256:=by
     intro c hc
     simp only[List.mem_cons,List.not_mem_nil,or_false]at hc
     rcases hc with rfl|rfl
     ·simp only;omega
     ·simp
    have hinl:inl x (slc V.n 0 2 2)=[S64 x.oc,S32 x.nr,S32 x.rv,slc V.n 0 2 2]:=rfl
    have kK1:=kKV.trans k1V
    have gl2:=k1V.at_ glV
    have gs2:=k1V.at_ gsV
    have hl2:=hl1.keeps kK1
    have tS:=t6 (x:=x) hl2 yL_in hb1 s hsl.s
    have hV1':=hV1
    rw[hinl,hx]at hV1'
    simp only[hinl]at tS
    rw[←hV1']
    have i0:=AHeap.get_lt gi1
    have i1:=AHeap.get_lt gl2
    have i2:=AHeap.get_lt gs2
    rw[hinl]at gi1
    simp(disch:=first|assumption|omega|(simp only[LN]<;>omega)|(simp(disch:=first|assumption|omega|(simp only[LN]<;>omega))only[row_alloc,row_set];assumption))only[W_block,P3,seval,initFr,clsA,gl2,gs2,gi1,rng68,ll]
    refine callK tS ?_
    rintro _ V2 ⟨rfl,k2V⟩
    have sh6:=s_shl1 (show k % 6<64 by omega)
    have gl3:=k2V.at_ gl2
    have gs3:=k2V.at_ gs2
    have gi3:=k2V.at_ gi1
    have j0:=AHeap.get_lt gi3
    have j1:=AHeap.get_lt gl3
    have j2:=AHeap.get_lt gs3
    have hM3:=hM.keeps (kK1.trans k2V)
    simp(disch:=first|assumption|omega)only[W_block,P3,seval,initFr,clsA,gl3,gs3,gi3,rng68,ll,rem6,sh6,w32_eq,and3,fillS,j0,j1,j2,i0,i1,i2]
    refine callQ (t8 hM3 _) ?_
    have tE:=fun s'=>t7 (x:=x) (hl2.keeps k2V) yL_in s' (hsl.keeps k2V) hkdb
    simp only[hinl]at tE
    simp(disch:=first|assumption|omega|(simp only[LN]<;>omega)|(simp(disch:=first|assumption|omega|(simp only[LN]<;>omega))only[row_alloc,row_set];assumption))only[W_block,P3,seval,initFr,clsA,gl3,gs3,gi3,rng68,ll,j0,j1,j2,i0,i1,i2]
    refine⟨by simp,callK (tE _) ?_⟩
    rintro _ V3 ⟨rfl,k3V⟩
    have hwn:IntKind.i64.wrap (n+1)=n+1:=wrap_i64 (by omega) (by omega)
    have hwn2:IntKind.i64.wrap (n+1+((k % 2:Nat):Int))=n+1+((k % 2:Nat):Int):=wrap_i64 (by omega) (by omega)
    simp(disch:=first|assumption|omega)only[W_block,P3,seval,initFr,clsA,rem2,hwn,hwn2]
    exact hn4 _ _ _ ⟨_,_,_,_,rfl,(kV.trans k1V).trans (k2V.trans k3V),by omega,by omega,rfl⟩ (by omega)
   ·have e4:¬n<6:=hn6
    simp(disch:=first|assumption|omega)only[W_block,P3,seval,initFr,clsA,e4]
    refine hx4 _ _ _ ?_
    simp(disch:=first|assumption|omega)only[W_block,P3,seval,initFr,clsA,hw3]
    exact hn3 _ _ _ ⟨kd+1,_,_,_,_,_,rfl,kV,by omega,rfl⟩ (by omega)
  ·have e3:¬(kd:Int)<5:=by omega
   have kKZ:=kXY.trans kZ
   have glZ:=kKZ.at_ gl1
   have gsZ:=kZ.at_ gs
   have hlZ:=hl1.keeps kKZ
   have z0:=AHeap.get_lt glZ
   have z1:=AHeap.get_lt gsZ
   simp(disch:=first|assumption|omega)only[W_block,P3,seval,initFr,clsA,e3]
   refine hx3 _ _ _ ?_
   simp(disch:=first|assumption|omega)only[W_block,P3,seval,initFr,clsA,glZ,gsZ,rng68,ll]
   refine callK (t9 hlZ yL_in s) ?_
   rintro _ Z1 ⟨rfl,kz1⟩
   have glZ1:=kz1.at_ glZ
   have gsZ1:=kz1.at_ gsZ
   simp(disch:=first|assumption|omega)only[W_block,P3,seval,initFr,clsA,glZ1,gsZ1,rng68,ll,stl_0,stl_67,and9,and3,fillS]
   refine callK (t9 (hlZ.keeps kz1) yL_in _) ?_
   rintro _ Z2 ⟨rfl,kz2⟩
   have glZ2:=kz2.at_ glZ1
   have gsZ2:=kz2.at_ gsZ1
   simp(disch:=first|assumption|omega)only[W_block,P3,seval,initFr,clsA,glZ2,gsZ2,rng68,ll]
   refine callK (t10 ((hlZ.keeps kz1).keeps kz2) yL_in s) ?_
   rintro _ Z3 ⟨rfl,kz3⟩
   simp(disch:=first|assumption|omega)only[W_block,P3,seval,initFr,clsA,hw]
   exact hn' _ _ _ ⟨k+1,_,_,_,_,_,_,_,_,_,_,_,rfl,((kKZ.trans kz1).trans kz2).trans kz3,by omega,rfl⟩ (by omega)
 have e1:¬(k:Int)<64:=by omega
 have glX:=kX.at_ gl1
 have hlX:=hl1.keeps kX
 simp(disch:=first|assumption|omega)only[W_block,P3,seval,initFr,clsA,e1]
 refine hx' _ _ _ ?_
 simp(disch:=first|assumption|omega)only[P3,seval,initFr,clsA]
 rw[W_block]
 obtain⟨A10,hA10⟩:∃v:Value,v=.slice none 0 0:=⟨_,rfl⟩
 refine W_loop2 (fun q fr Y=>∃i v x22,fr=[.bool false,ptr lb 0,ptr b 0,.int .i64 0,.int .i64 ((k:Nat):Int),x5,x6,x7,x8,x9,v,.int .i64 ((i:Nat):Int),undef,undef,undef,.bool false,.bool false,x17,x18,x19,x20,x21,x22,undef,undef,undef,undef,undef,undef]∧
  OW 39 2 X Y v ((List.replicate i ((3:Int),(0:Int))).map cRow)∧i≤9∧q=9-i) 9
  ⟨0,_,_,rfl,OW.nil _ _ (Keeps.refl X),by omega,rfl⟩ ?_
 rintro Q2 q fr Y ⟨i,v,x22,rfl,ow,hi,rfl⟩ hn2 hx2 hret2
 by_cases hi9:i<9
 ·have e2:(i:Int)<9:=by omega
  have hw2:IntKind.i64.wrap ((i:Int)+1)=((i+1:Nat):Int):=by rw[wrap_i64 (by omega) (by omega)];simp
  have isv:=ow.is
  simp(disch:=first|assumption|omega)only[W_block,P3,seval,initFr,clsA,e2,fillC2,F5,isv]
  refine OW.appR (ow.keeps ((Keeps.refl Y).alloc _)) (Sl.one1 (row:=[.int .u8 3,.int .i64 0]) rfl rfl) (by simp;omega) ?_
  intro v' K' ow' c'
  simp(disch:=first|assumption|omega)only[W_block,P3,seval,initFr,clsA,hw2]
  exact hn2 _ _ _ ⟨i+1,v',_,rfl,by rw[List.replicate_succ',List.map_append];exact ow',by omega,rfl⟩ (by omega)
 have e2:¬(i:Int)<9:=by omega
 have hie:i=9:=by omega
 subst hie
 simp(disch:=first|assumption|omega)only[W_block,P3,seval,initFr,clsA,e2]
 refine hx2 _ _ _ ?_
 simp(disch:=first|assumption|omega)only[W_block,P3,seval,initFr,clsA]
 refine callQ (t4 Y) ?_
 have hoY:=ly_ones (yK_ly Y)
 have hulY:(yU Y).l=[(yU Y).s,(yU Y).p,(yU Y).g,slc (Y.n+16) 0 5 5]:=rfl
 have llY:(yU Y).l.length=4:=rfl
 have hs4Y:∀(h:AHeap) (b:Nat) (c:List Value),c.length=4→∀(r:Bool) (T:Nat),stnO h b 0 4 (yU Y).l (some (.cells true r 4 c T))=some (undef,h.set b (.cells true r 4 (yU Y).l T)):=fun h b c hc r T=>by
  rw[stn_full hc,if_pos ⟨llY,hoY⟩]
 have grY:∀o,((yK Y).alloc o).get (Y.n+16)=some (.cells true false 6 (yR Y) 49):=fun o=>by
  rw[AHeap.get_alloc_old _ _ (by rw[yK_n];omega)]
  exact AHeap.get_alloc_new _ _
 have l3:(yU Y).l[3]? =some (slc (Y.n+16) 0 5 5):=rfl
 have lrY:(yR Y).length=30:=rfl
 simp(disch:=first|assumption|omega|(simp only[LN]<;>omega)|(simp(disch:=first|assumption|omega|(simp only[LN]<;>omega))only[row_alloc,row_set];assumption))only[P3,seval,initFr,clsA,hoY,llY,hs4Y,l3,grY,lrY,yB_set,fillI8]
 rw[W_block]
 obtain⟨ns,hns⟩:∃ns:List Int,ns=[-9223372036854775808,-1,31,32,33,63,64,4611686018427387904]:=⟨_,rfl⟩
 obtain⟨Y2,hY2⟩:∃Z,Z=((yBK Y).alloc (.cells true false 4 (yU Y).l 27)).alloc (.cells true false 1 [.int .i64 (-9223372036854775808),.int .i64 (-1),.int .i64 31,.int .i64 32,.int .i64 33,.int .i64 63,.int .i64 64,.int .i64 4611686018427387904] 3):=⟨_,rfl⟩
 have kb2:Keeps (yBK Y) Y2:=by rw[hY2];exact((Keeps.refl _).alloc _).alloc _
 have ky2:Keeps Y Y2:=(yBK_k Y).trans kb2
 have nY:(yK Y).n=(yBK Y).n:=rfl
 have gB2:Y2.get (yK Y).n=some (.cells true false 4 (yU Y).l 27):=by rw[hY2,nY];exact((Keeps.refl _).alloc _).at_ (AHeap.get_alloc_new (yBK Y) _)
 have hnl:IL Y2 (slc ((yBK Y).n+1) 0 8 8) ns:=by
  rw[hY2,hns];exact newSl (rows:=[[.int .i64 (-9223372036854775808)],[.int .i64 (-1)],[.int .i64 31],[.int .i64 32],[.int .i64 33],[.int .i64 63],[.int .i64 64],[.int .i64 4611686018427387904]]) (by simp) rfl rfl
 have hlB2:=(yBK_ly Y).keeps kb2
 have kK2:=(kX.trans ow.k).trans ky2
 have lns:ns.length=8:=by rw[hns];rfl
 rw[←hY2]
 obtain⟨nb,hnb⟩:∃m,m=(yBK Y).n:=⟨_,rfl⟩
 have gB3:Y2.get nb=some (.cells true false 4 (yU Y).l 27):=by rw[hnb];exact gB2
 rw[nY,←hnb]
 rw[←hnb]at hnl
 have ninl:∀cv:Value,inl xn cv=[.int .u64 0,.int .u32 0,.int .u32 0,cv]:=i2v
 obtain⟨sv,hsv⟩:∃sv,sv=slc (nb+1) 0 8 8:=⟨_,rfl⟩
 rw[←hsv]at hnl ⊢
 have isn:=Sl.is hnl
 have lsn:lenS sv=8:=by rw[hnl.len,lns]
 refine W_loop2 (fun q fr V=>∃j x13 x14 x26 x27 x28,fr=[.bool false,ptr lb 0,ptr b 0,.int .i64 0,.int .i64 ((k:Nat):Int),x5,x6,x7,x8,x9,v,.int .i64 ((9:Nat):Int),ptr nb 0,x13,x14,.bool false,.bool false,x17,x18,x19,x20,x21,.bool false,sv,.int .i64 ((8:Nat):Int),.int .i64 ((j:Nat):Int),x26,x27,x28]∧
  Keeps Y2 V∧j≤8∧q=8-j) 8
  ⟨0,_,_,_,_,_,rfl,Keeps.refl Y2,by omega,rfl⟩ ?_
 rintro Q3 q fr V ⟨j,x13,x14,x26,x27,x28,rfl,kV,hj,rfl⟩ hn3 hx3 hret3
 by_cases hj8:j<8
 ·have e0:(0:Int)≤(j:Int):=by omega
  have e3:(j:Int)<((8:Nat):Int):=by omega
  have e3':(j:Int)<8:=by omega
  have hw3:IntKind.i64.wrap ((j:Int)+1)=((j+1:Nat):Int):=by rw[wrap_i64 (by omega) (by omega)];simp
  have hnV:IL V sv ns:=Sl.keeps hnl kV
  obtain⟨na,ra⟩:=hnV.at_ (i:=j) (by omega)
  obtain⟨n,hn⟩:∃n,n=ns.getD j 0:=⟨_,rfl⟩
  rw[←hn]at ra
  simp(disch:=first|assumption|omega)only[P3,seval,initFr,clsA,e3]
  rw[W_block]
  simp(disch:=first|assumption|omega)only[P3,seval,initFr,clsA,e3,e0,na,ra,a_load1v,isn,lsn]
  rw[W_block]
  refine W_loop2 (fun q fr U=>∃kd x27 x28,fr=[.bool false,ptr lb 0,ptr b 0,.int .i64 0,.int .i64 ((k:Nat):Int),x5,x6,x7,x8,x9,v,.int .i64 ((9:Nat):Int),ptr nb 0,.int .i64 n,.int .u8 ((kd:Nat):Int),.bool false,.bool false,x17,x18,x19,x20,x21,.bool false,sv,.int .i64 ((8:Nat):Int),.int .i64 ((j:Nat):Int),.bool true,x27,x28]∧
   Keeps V U∧1≤kd∧kd≤4∧q=4-kd) 3
   ⟨1,_,_,rfl,Keeps.refl V,by omega,by omega,rfl⟩ ?_
  rintro Q4 q fr U ⟨kd,x27,x28,rfl,kU,hkd1,hkd4,rfl⟩ hn4 hx4 hret4
  by_cases hk4:kd<4
  ·have e4:(kd:Int)<4:=by omega
   have hw4:IntKind.u8.wrap ((kd:Int)+1)=((kd+1:Nat):Int):=by rw[wrap_u8];omega
   have kKU:=(kK2.trans kV).trans kU
   have glU:=kKU.at_ gl1
   have hlU:=hl1.keeps kKU
   obtain⟨U1,hU1⟩:∃Z,Z=U.alloc (.cells true false 2 [.int .u8 ((kd:Nat):Int),.int .i64 n] 39):=⟨_,rfl⟩
   have kU1:Keeps U U1:=by rw[hU1];exact(Keeps.refl U).alloc _
   have hc1:CL U1 (slc U.n 0 1 1) [((kd:Int),n)]:=by rw[hU1];exact newSl (rows:=[[.int .u8 ((kd:Nat):Int),.int .i64 n]]) (by simp) rfl rfl
   have tS:=t6 (x:=xn) (hlU.keeps kU1) yL_in hb1 Sta0 hc1
   rw[ninl]at tS
   have i4:∀a c d:Int,fillA [.int .u64 a,.int .u32 c,.int .u32 d,.slice none 0 0] [(3,1,slc U.n 0 1 1)]=some [.int .u64 a,.int .u32 c,.int .u32 d,slc U.n 0 1 1]:=fun a c d=>fillI4 a c d _ rfl
   simp(disch:=first|assumption|omega)only[W_block,P3,seval,initFr,clsA,e4,glU,rng68,ll,fillC2,F5,i4,Z68L_z]
   rw[←hU1]
   refine callK tS ?_
   rintro _ U2 ⟨rfl,kU2⟩
   simp(disch:=first|assumption|omega)only[W_block,P3,seval,initFr,clsA,hw4]
   exact hn4 _ _ _ ⟨kd+1,_,_,rfl,(kU.trans kU1).trans kU2,by omega,by omega,rfl⟩ (by omega)
  ·have e4:¬(kd:Int)<4:=by omega
   simp(disch:=first|assumption|omega)only[W_block,P3,seval,initFr,clsA,e4]
   refine hx4 _ _ _ ?_
   simp(disch:=first|assumption|omega)only[W_block,P3,seval,initFr,clsA,hw3]
   exact hn3 _ _ _ ⟨j+1,_,_,_,_,_,rfl,kV.trans kU,by omega,rfl⟩ (by omega)
 ·have e3:¬(j:Int)<((8:Nat):Int):=by omega
  have kKV:=kK2.trans kV
  have glV:=kKV.at_ gl1
  have gBV:=kV.at_ gB3
  have hlV:=hl1.keeps kKV
  have owV:=ow.keeps (ky2.trans kV)
  have hcV:CL V v (List.replicate 9 ((3:Int),(0:Int))):=owV.sl
  have isv:=owV.is
  have z0:=AHeap.get_lt glV
  have z1:=AHeap.get_lt gBV
  have tS:=t6 (x:=xn) hlV yL_in hb1 Sta0 hcV
  rw[ninl]at tS
  have i4:∀(w:Value),isS w=true→∀a c d:Int,fillA [.int .u64 a,.int .u32 c,.int .u32 d,.slice none 0 0] [(3,1,w)]=some [.int .u64 a,.int .u32 c,.int .u32 d,w]:=fun w hw a c d=>fillI4 a c d _ hw
  have i4v:=i4 v isv
  simp(disch:=first|assumption|omega)only[W_block,P3,seval,initFr,clsA,e3]
  refine hx3 _ _ _ ?_
  simp(disch:=first|assumption|omega)only[W_block,P3,seval,initFr,clsA,glV,rng68,ll,i4v,Z68L_z]
  refine callK tS ?_
  rintro _ V1 ⟨rfl,kV1⟩
  have glV1:=kV1.at_ glV
  have gBV1:=kV1.at_ gBV
  have hlV1:=hlV.keeps kV1
  obtain⟨w8,hw8,hcw⟩:=(owV.keeps kV1).pre (i:=8) (kd:=.i64) (by simp)
  have hw8':asem (.slsl 2 v none (some (.int .i64 8)) none) V1=some (w8,V1):=hw8
  have is8:=Sl.is hcw
  have i48:=i4 w8 is8
  have hc8:CL V1 w8 (List.replicate 8 ((3:Int),(0:Int))):=hcw
  have tS8:=t6 (x:=xn) hlV1 yL_in hb1 Sta0 hc8
  rw[ninl]at tS8
  simp(disch:=first|assumption|omega)only[W_block,P3,seval,initFr,clsA,glV1,rng68,ll,hw8',i48,Z68L_z]
  refine callK tS8 ?_
  rintro _ V2 ⟨rfl,kV2⟩
  have gBV2:=kV2.at_ gBV1
  have z2:=AHeap.get_lt gBV2
  have hlB:=((hlB2.keeps kV).keeps kV1).keeps kV2
  have hoB:=ly_ones hlB
  have rg4:∀(o r:Bool) (T:Nat),rangeO (some (.cells o r 4 (yU Y).l T)) 0 4=some (yU Y).l:=fun o r T=>rng_full rfl
  simp(disch:=first|assumption|omega)only[W_block,P3,seval,initFr,clsA,gBV2,rg4,Z68L_z]
  refine callK (t10 hlB yLb_in Sta0) ?_
  rintro _ V3 ⟨rfl,kV3⟩
  have tN:=t10 (ly0 V3) ly0_in Sta0
  simp only[V4.l]at tN
  simp(disch:=first|assumption|omega)only[W_block,P3,seval,initFr,clsA,Z68L_z]
  refine callK tN ?_
  rintro _ V4' ⟨rfl,kV4⟩
  simp(disch:=first|assumption|omega)only[W_block,P3,seval,initFr,clsA]
  refine callQ (t11 _) ?_
  simp(disch:=first|assumption|omega)only[W_block,P3,seval,initFr,clsA]
  exact hq2 _ _ ⟨_,rfl,rfl⟩
theorem lawKnown:∀H args,NoOwn H→AVs Tryz.prog H.get [] args→∃H',ARun Tryz.prog 0 3 args H (.bool true) H':=by
 intro H args _ h
 match args,h with
 |[],_=>
  obtain⟨_,H',a,rfl⟩:=knownA H
  exact⟨H',a⟩
end Go.AM.Fd
