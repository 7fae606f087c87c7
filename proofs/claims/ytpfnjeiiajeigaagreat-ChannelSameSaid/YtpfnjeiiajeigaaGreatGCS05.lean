/- Part of the proof. -/
import Derived.Test.YtpfnjeiiajeigaaGreatGCS04
set_option linter.unusedSimpArgs false
set_option linter.unusedVariables false
set_option maxRecDepth 8000
namespace Go.AM.Fd
open Nat (reduceAdd reduceEqDiff reduceLT reduceLeDiff reduceMul reduceSub)
open Go.Proofs Go.AM.F
theorem lie_rng{L:Ly}(he:checkE L=0){m:Nat}(hm:m<L.p.length):0≤(L.p.getD m ([],0)).2 :=by
 have:=check_may he
 simp only[mayB,inB,Bool.and_eq_true,Bool.not_eq_true',List.all_eq_true,decide_eq_true_eq]at this
 exact(this.2.2.1.1 _ (getD_mem hm)).1
theorem sig_rng{L:Ly}(he:checkE L=0){m:Nat}(hm:m<L.g.length):0≤(L.g.getD m ([],0)).2 :=by
 have:=check_may he
 simp only[mayB,inB,Bool.and_eq_true,Bool.not_eq_true',List.all_eq_true,decide_eq_true_eq]at this
 exact(this.2.2.1.2 _ (getD_mem hm)).1
def setA(L:Ly)(x:Inp)(s:Sta)(i:Nat):Sta:=if setD L x s i then{s with lo:=fun j=>s.lo j||decide (j=i),po:=poD (nds (ro L i)) s.po}else s
theorem po_or(f:Nat→Bool)(m:Nat):(fun p=>f p||decide (p=m))=fun p=>if p=m then true else f p:=by
 funext p;by_cases e:p=m<;>simp[e]
theorem po_an(f:Nat→Bool)(m:Nat):(fun p=>f p&& !decide (p=m))=fun p=>if p=m then false else f p:=by
 funext p;by_cases e:p=m<;>simp[e]
theorem set_cf{L:Ly}{s:Sta}{i:Nat}(hL:L.r.length≤64)(h:s.lo i=false):(List.range L.r.length).all (fun k=> !(s.lo k&&cf L i k))= !((cfl L i L.r.length).any fun k=>hasB s.lo k):=by
 rw[cfl_any hL,List.not_any_eq_all_not,Bool.eq_iff_iff,List.all_eq_true,List.all_eq_true]
 constructor
 ·intro h2 k hk
  have:=h2 k hk
  cases h3:s.lo k<;>simp_all
 ·intro h2 k hk
  have:=h2 k hk
  by_cases e:i=k
  ·subst e;simp[h]
  ·simp[e]at this;cases h3:s.lo k<;>simp_all
set_option maxHeartbeats 4000000 in
theorem t161{H:AHeap}{c b:Nat}{s:Sta}{x:Inp}{cv:Value}{us:Nat→Bool}{L:Ly}(h:CyR H c b s x cv us)(hm:MaA H b L)(he:checkE L=0){i:Nat}(hi:i<L.r.length):
 ∃w H',ARun Tryz.prog 0 161 [ptr c 0,.int .i64 (i:Nat)] H w H'∧Chg [c] H H'∧CyR H' c b (setA L x s i) x cv us:=by
 refine walk2 f161_ok f161_n ?_
 intro Q hq1 hq2
 have lr:=(may_lim (check_may he)).r
 have lpp:=(may_lim (check_may he)).p
 obtain⟨vl,vi,ls,own,room,T,gb,sl,ok,si⟩:=hm.x
 have isl:=Sl.is sl
 have lenl:lenS vl=L.r.length:=by have:=Sl.len sl;simpa[arows]using this
 have e0:(0:Int)≤(i:Int):=by omega
 have e1:(i:Int)<((L.r.length:Nat):Int):=by omega
 have iN:i<64:=by omega
 have gc:=h
 unfold CyR at gc
 have cl:=AHeap.get_lt gc
 obtain⟨na,ra⟩:=MaA.row sl hi
 have oki:=ok i hi
 have w1:=one_isS (Sl.is oki.t.s)
 have w2:=one_isS (Sl.is oki.n.s)
 have w3:=one_isS (Sl.is oki.c.s)
 have w4:∀x:Int,one1 (Value.int .i64 x)=True:=fun x=>by simp[one1,one_int]
 obtain⟨K0,hK0⟩:∃X,X=H.alloc (.cells true false 5 (arow L i (ls i)) 107):=⟨_,rfl⟩
 have k0:Keeps H K0:=by rw[hK0];exact(Keeps.refl H).alloc _
 have gr0:K0.get H.n=some (.cells true false 5 (arow L i (ls i)) 107):=by rw[hK0];exact AHeap.get_alloc_new H _
 have gc0:=k0.at_ gc
 have h0:CyR K0 c b s x cv us:=gc0
 have hm0:=hm.keeps k0
 have gb0:=k0.at_ gb
 have oki0:=oki.keeps k0
 have si0:=si.keeps k0
 have cl0:=AHeap.get_lt gc0
 have rl0:=AHeap.get_lt gr0
 have hset:setD L x s i=((!s.lo i&&frD x (ro L i))&&((List.range L.r.length).all (fun k=> !(s.lo k&&cf L i k))&&(nds (ro L i)).all fun z=> !((s.po z.1.toNat != z.2)&&hasB x.oc (L.p.getD z.1.toNat ([],0)).2))):=rfl
 have hsA:setA L x s i=if setD L x s i then{s with lo:=fun j=>s.lo j||decide (j=i),po:=poD (nds (ro L i)) s.po}else s:=rfl
 have no:∀{fr:List Value} {K:AHeap},Keeps H K→setD L x s i=false→resO f161.res fr K=some (.tuple #[])→Q .ret fr K:=fun k e hr=>
  hq2 _ _ ⟨_,hr,k.chg [c],by rw[hsA,e];exact k.at_ h⟩
 have lcf:=cfl_len L i L.r.length
 have lnd:=nd_len he hi
 have hrng:=nd_rng he hi
 have hndp:∀z∈nds (ro L i),0≤z.1∧z.1<L.p.length:=by
  have hg:=check_good he (List.getElem_mem hi)
  rw[←ro_eq hi]at hg;exact hg.nd
 unfold amc at gb gb0
 unfold arow at ra gr0 hK0
 have sh:=s_shl1 iN
 simp(disch:=first|assumption|omega|(simp only[LN]<;>omega)|(simp(disch:=first|assumption|omega|(simp only[LN]<;>omega))only[row_alloc,row_set];assumption))only[f161,P3,seval,initFr,clsA,gc,cyl_0,gb,isl,lenl,na,ra,e0,e1,a_loadnvf,w1,w2,w3,w4]
 rw[←hK0]
 refine callK (t158 h0 e0) ?_
 rintro _ X ⟨rfl,hX⟩
 rw[hX,has_nat _ iN]
 cases h1:s.lo i with
 |true=>
  rw[h1]at hset
  simp(disch:=first|assumption|omega)only[W_block,P3,seval,initFr,clsA]
  exact no k0 hset rfl
 |false=>
 have hcf:=set_cf (L:=L) (i:=i) lr h1
 rw[h1,hcf]at hset
 simp(disch:=first|assumption|omega)only[W_block,P3,seval,initFr,clsA]
 refine callQ (t164 h0 hm0 he hi) ?_
 cases h2:frD x (ro L i)with
 |false=>
  rw[h2]at hset
  simp(disch:=first|assumption|omega)only[W_block,P3,seval,initFr,clsA]
  exact no k0 (by rw[hset];rfl) rfl
 |true=>
 rw[h2]at hset
 simp(disch:=first|assumption|omega)only[W_block,P3,seval,initFr,clsA,gr0,rl0]
 refine callQ (t43 oki0.c.s (by omega) (p:=fun k=>hasB s.lo k) (g:=158) (fi:= #[ptr c 0]) (ca:= #[]) (fun z hz=>t158 h0 (cfl_0 z hz).1)) ?_
 cases h3:(cfl L i L.r.length).any fun k=>hasB s.lo k with
 |true=>
  rw[h3]at hset
  simp(disch:=first|assumption|omega)only[W_block,P3,seval,initFr,clsA]
  exact no k0 (by rw[hset];rfl) rfl
 |false=>
 rw[h3]at hset
 have isn:=Sl.is oki0.n.s
 have lenn:lenS (ls i).n=(nds (ro L i)).length:=NL.len oki0.n.s
 simp(disch:=first|assumption|omega)only[P3,seval,initFr,clsA,gr0,rl0,isn,lenn]
 rw[W_block]
 have isi:=Sl.is si0
 have leni:lenS vi=L.p.length:=by have:=IL.len si0;simpa using this
 obtain⟨l,hl⟩:∃l,l=nds (ro L i):=⟨_,rfl⟩
 have oln:NL K0 (ls i).n l:=by rw[hl];exact oki0.n.s
 rw[←hl]at hset hsA lnd hrng hndp lenn ⊢
 refine W_loop2 (fun q fr K=>∃j x3 x9 x10,fr=[ptr c 0,.int .i64 ((i:Nat):Int),ptr H.n 0,x3,undef,.bool false,(ls i).n,.int .i64 ((l.length:Nat):Int),.int .i64 ((j:Nat):Int),x9,x10,undef,undef,undef,undef,undef]∧
  Keeps K0 K∧((l.take j).all fun z=> !((s.po z.1.toNat != z.2)&&hasB x.oc (L.p.getD z.1.toNat ([],0)).2))=true∧j≤l.length∧q=l.length-j) l.length
  ⟨0,_,_,_,rfl,Keeps.refl _,by simp,by omega,rfl⟩ ?_
 rintro Q3 q fr K ⟨j,x3,x9,x10,rfl,kK,hj,hjl,rfl⟩ hn3 hx3 hret3
 have gcK:=kK.at_ gc0
 have gbK:=kK.at_ gb0
 by_cases hjlt:j<l.length
 ·obtain⟨nj,rj⟩:=(oln.keeps kK).at_ hjlt
  have j0:(0:Int)≤(j:Int):=by omega
  have j1:(j:Int)<((l.length:Nat):Int):=by omega
  have hw3:IntKind.i64.wrap ((j:Int)+1)=((j+1:Nat):Int):=by rw[wrap_i64 (by omega) (by omega)];simp
  have hgd:l.getD j (0,false)=l[j]:=by rw[List.getD_eq_getElem?_getD,List.getElem?_eq_getElem hjlt];rfl
  have hmem:=List.getElem_mem hjlt
  have hrg:=hrng _ hmem
  have hpp:=hndp _ hmem
  have ok1:(!((s.po l[j].1.toNat != l[j].2)&&hasB x.oc (L.p.getD l[j].1.toNat ([],0)).2))=true→((l.take (j+1)).all fun z=> !((s.po z.1.toNat != z.2)&&hasB x.oc (L.p.getD z.1.toNat ([],0)).2))=true:=fun e=>take_all hjlt hj e
  have bad1:(!((s.po l[j].1.toNat != l[j].2)&&hasB x.oc (L.p.getD l[j].1.toNat ([],0)).2))=false→setD L x s i=false:=fun e=>by
   have:(l.all fun z=> !((s.po z.1.toNat != z.2)&&hasB x.oc (L.p.getD z.1.toNat ([],0)).2))=false:=List.all_eq_false.2 ⟨_,hmem,by rw[e];simp⟩
   rw[hset,this];rfl
  rw[hgd]at rj
  generalize l[j]=z at*
  obtain⟨zp,zb⟩:=z
  obtain⟨m,rfl⟩:∃m:Nat,zp=(m:Int):=⟨zp.toNat,by have:=hrg.1;simp only at this;omega⟩
  have hmp:m<L.p.length:=by have:=hpp.2;simp only at*;omega
  have hm32:m<32:=by omega
  have hmt:(Int.toNat (m:Int))=m:=by omega
  simp only[hmt]at ok1 bad1
  have hlie:=lie_rng he hmp
  have hli:(L.p.map (·.2)).getD m 0=(L.p.getD m ([],0)).2 :=by
   rw[List.getD_eq_getElem?_getD,List.getD_eq_getElem?_getD,List.getElem?_map,List.getElem?_eq_getElem hmp];rfl
  obtain⟨np,rp⟩:=(si0.keeps kK).at_ (i:=m) (by simpa using hmp)
  rw[hli]at rp
  have m0:(0:Int)≤(m:Int):=by omega
  have m1:(m:Int)<((L.p.length:Nat):Int):=by omega
  generalize L.p.getD m ([],0)=w at*
  obtain⟨KA,hKA⟩:∃X,X=K.alloc (.cells true false 2 [.int .i64 (m:Int),.bool zb] 120):=⟨_,rfl⟩
  have kA:Keeps K KA:=by rw[hKA];exact(Keeps.refl K).alloc _
  have gzA:KA.get K.n=some (.cells true false 2 [.int .i64 (m:Int),.bool zb] 120):=by rw[hKA];exact AHeap.get_alloc_new K _
  have gcA:=kA.at_ gcK
  have gbA:=kA.at_ gbK
  have hA:CyR KA c b s x cv us:=gcA
  obtain⟨npA,rpA⟩:nnS vi=true∧rowA KA 1 vi m=some [.int .i64 w.2]:=by
   obtain⟨q1,q2⟩:=((si0.keeps kK).keeps kA).at_ (i:=m) (by simpa using hmp)
   rw[hli]at q2;exact⟨q1,q2⟩
  have lzA:=AHeap.get_lt gzA
  have lcA:=AHeap.get_lt gcA
  have lbA:=AHeap.get_lt gbA
  have es:S64 (fun i=>decide (i<32)&&s.po i)=S64 (p64 s.po):=rfl
  have hin:=has_p64 s.po (n:=(m:Int)) (by omega) (by omega)
  rw[hmt]at hin
  have kHA:=(k0.trans kK).trans kA
  simp(disch:=first|assumption|omega|(simp only[LN]<;>omega)|(simp(disch:=first|assumption|omega|(simp only[LN]<;>omega))only[row_alloc,row_set];assumption))only[W_block,P3,seval,initFr,clsA,j1,lenn,nj,rj,a_loadnvf]
  rw[←hKA]
  simp(disch:=first|assumption|omega)only[W_block,P3,seval,initFr,clsA,gcA,gzA,cyl_68,s_up,lzA,lcA,lbA]
  rw[es]
  refine callK (t42 _ m0) ?_
  rintro _ X ⟨rfl,hX⟩
  rw[hX,hin]
  cases hpo:s.po m<;>cases zb<;>rw[hpo]at ok1 bad1
  ·simp(disch:=first|assumption|omega)only[W_block,P3,seval,initFr,clsA,gzA,lzA,lcA,lbA,hw3]
   exact hn3 _ _ _ ⟨j+1,_,_,_,rfl,kK.trans kA,ok1 rfl,by omega,rfl⟩ (by omega)
  ·simp(disch:=first|assumption|omega)only[W_block,P3,seval,initFr,clsA,gzA,gcA,gbA,lzA,lcA,lbA,cyl_0,isi,leni,npA,rpA,m0,m1,a_load1v]
   refine callQ (t165 hA hlie) ?_
   cases hb:hasB x.oc w.2 with
   |true=>
    simp(disch:=first|assumption|omega)only[W_block,P3,seval,initFr,clsA]
    refine hret3 _ _ ?_
    exact no kHA (bad1 (by rw[hb];rfl)) rfl
   |false=>
    simp(disch:=first|assumption|omega)only[W_block,P3,seval,initFr,clsA,hw3]
    exact hn3 _ _ _ ⟨j+1,_,_,_,rfl,kK.trans kA,ok1 (by rw[hb];rfl),by omega,rfl⟩ (by omega)
  ·simp(disch:=first|assumption|omega)only[W_block,P3,seval,initFr,clsA,gzA,gcA,gbA,lzA,lcA,lbA,cyl_0,isi,leni,npA,rpA,m0,m1,a_load1v]
   refine callQ (t165 hA hlie) ?_
   cases hb:hasB x.oc w.2 with
   |true=>
    simp(disch:=first|assumption|omega)only[W_block,P3,seval,initFr,clsA]
    refine hret3 _ _ ?_
    exact no kHA (bad1 (by rw[hb];rfl)) rfl
   |false=>
    simp(disch:=first|assumption|omega)only[W_block,P3,seval,initFr,clsA,hw3]
    exact hn3 _ _ _ ⟨j+1,_,_,_,rfl,kK.trans kA,ok1 (by rw[hb];rfl),by omega,rfl⟩ (by omega)
  ·simp(disch:=first|assumption|omega)only[W_block,P3,seval,initFr,clsA,gzA,lzA,lcA,lbA,hw3]
   exact hn3 _ _ _ ⟨j+1,_,_,_,rfl,kK.trans kA,ok1 rfl,by omega,rfl⟩ (by omega)
 ·have j1:¬((j:Nat):Int)<((l.length:Nat):Int):=by omega
  have hje:j=l.length:=by omega
  subst hje
  rw[List.take_length]at hj
  rw[hj]at hset
  have hyes:setA L x s i={s with lo:=fun j=>s.lo j||decide (j=i),po:=poD l s.po}:=by rw[hsA,hset];rfl
  have grK:=kK.at_ gr0
  have lcK:=AHeap.get_lt gcK
  have lrK:=AHeap.get_lt grK
  have olnK:=oln.keeps kK
  obtain⟨K1,hK1⟩:∃X,X=K.set c (.cells true false 74 (cyl b {s with lo:=fun j=>s.lo j||decide (j=i)} x cv us) 241):=⟨_,rfl⟩
  have c1:Chg [c] K K1:=by rw[hK1];exact Chg.set K lcK _
  have gc1:K1.get c=some (.cells true false 74 (cyl b {s with lo:=fun j=>s.lo j||decide (j=i),po:=poD (l.take 0) s.po} x cv us) 241):=by rw[hK1];exact AHeap.get_set_same gcK _
  have c01:Chg [c] H K1:=((k0.trans kK).chg [c]).trans c1 (by simp)
  have gr1:K1.get H.n=some (.cells true false 5 [.int .i64 ((ro L i).path.getD 0 0),.int .i64 (L.g.getD (ro L i).g.toNat ([],0)).2,(ls i).t,(ls i).n,(ls i).c] 107):=c1.at_ grK (by simp;omega)
  simp(disch:=first|assumption|omega)only[W_block,P3,seval,initFr,clsA,j1]
  refine hx3 _ _ _ ?_
  simp(disch:=first|assumption|omega)only[P3,seval,initFr,clsA,gcK,lcK,cyl_len,cyl_1,cys_1,sh,s_or,o_s64,one_s64]
  rw[←hK1]
  simp(disch:=first|assumption|omega)only[P3,seval,initFr,clsA,grK,isn,lenn]
  rw[W_block]
  refine W_loop2 (fun q fr N=>∃j x4 x14 x15,fr=[ptr c 0,.int .i64 ((i:Nat):Int),ptr H.n 0,x3,x4,.bool false,(ls i).n,.int .i64 ((l.length:Nat):Int),.int .i64 ((l.length:Nat):Int),.bool false,x10,(ls i).n,.int .i64 ((l.length:Nat):Int),.int .i64 ((j:Nat):Int),x14,x15]∧
   Chg [c] K1 N∧N.get c=some (.cells true false 74 (cyl b {s with lo:=fun j=>s.lo j||decide (j=i),po:=poD (l.take j) s.po} x cv us) 241)∧j≤l.length∧q=l.length-j) l.length
   ⟨0,_,_,_,rfl,Chg.refl _ _,gc1,by omega,rfl⟩ ?_
  rintro Q4 q fr N ⟨j,x4,x14,x15,rfl,cN,gcN,hj4,rfl⟩ hn4 hx4 hret4
  have c0N:=c01.trans cN (by simp)
  have lcN:=AHeap.get_lt gcN
  by_cases hjlt4:j<l.length
  ·have olN:NL N (ls i).n l:=Sl.chg olnK (c1.trans cN (by simp)) (fun b' hb' hm'=>by
    simp only[List.mem_cons,List.not_mem_nil,or_false]at hm'
    subst hm'
    obtain⟨o,r,cc,T',g⟩:=oki0.n.b _ hb'
    rw[gc0]at g;injection g with g;injection g with _ _ e;omega)
   obtain⟨nj,rj⟩:=olN.at_ hjlt4
   have j0:(0:Int)≤(j:Int):=by omega
   have j2:(j:Int)<((l.length:Nat):Int):=by omega
   have hw3:IntKind.i64.wrap ((j:Int)+1)=((j+1:Nat):Int):=by rw[wrap_i64 (by omega) (by omega)];simp
   have hgd:l.getD j (0,false)=l[j]:=by rw[List.getD_eq_getElem?_getD,List.getElem?_eq_getElem hjlt4];rfl
   have hmem:=List.getElem_mem hjlt4
   have hrg:=hrng _ hmem
   have htk:poD (l.take (j+1)) s.po=fun p=>if p=l[j].1.toNat then l[j].2 else poD (l.take j) s.po p:=by
    rw[List.take_add_one,List.getElem?_eq_getElem hjlt4];exact poD_s _ _ _
   rw[hgd]at rj
   generalize l[j]=z at*
   obtain⟨zp,zb⟩:=z
   obtain⟨m,rfl⟩:∃m:Nat,zp=(m:Int):=⟨zp.toNat,by have:=hrg.1;simp only at this;omega⟩
   have hm32:m<32:=by have:=hrg.2;simp only at this;omega
   have hmt:(Int.toNat (m:Int))=m:=by omega
   simp only[hmt]at htk
   have s2:=p_shl1 hm32
   obtain⟨NA,hNA⟩:∃X,X=N.alloc (.cells true false 2 [.int .i64 (m:Int),.bool zb] 120):=⟨_,rfl⟩
   have kA:Keeps N NA:=by rw[hNA];exact(Keeps.refl N).alloc _
   have gzA:NA.get N.n=some (.cells true false 2 [.int .i64 (m:Int),.bool zb] 120):=by rw[hNA];exact AHeap.get_alloc_new N _
   have gcA:=kA.at_ gcN
   have lzA:=AHeap.get_lt gzA
   have lcA:=AHeap.get_lt gcA
   generalize poD (l.take j) s.po=f at*
   simp(disch:=first|assumption|omega|(simp only[LN]<;>omega)|(simp(disch:=first|assumption|omega|(simp only[LN]<;>omega))only[row_alloc,row_set];assumption))only[W_block,P3,seval,initFr,clsA,j2,nj,rj,lenn,a_loadnvf]
   rw[←hNA]
   cases zb with
   |true=>
    simp(disch:=first|assumption|omega)only[W_block,P3,seval,initFr,clsA,gzA,gcA,lzA,lcA,cyl_len,cyl_68,cys_68,s2,p_or,o_s32,one_s32,hw3]
    exact hn4 _ _ _ ⟨j+1,_,_,_,rfl,(cN.trans (kA.chg [c]) (by simp)).trans (Chg.set NA lcA _) (by simp),by rw[htk,←po_or];exact AHeap.get_set_same gcA _,by omega,rfl⟩ (by omega)
   |false=>
    simp(disch:=first|assumption|omega)only[W_block,P3,seval,initFr,clsA,gzA,gcA,lzA,lcA,cyl_len,cyl_68,cys_68,s2,p_andn,o_s32,one_s32,hw3]
    exact hn4 _ _ _ ⟨j+1,_,_,_,rfl,(cN.trans (kA.chg [c]) (by simp)).trans (Chg.set NA lcA _) (by simp),by rw[htk,←po_an];exact AHeap.get_set_same gcA _,by omega,rfl⟩ (by omega)
  ·have j2:¬((j:Nat):Int)<((l.length:Nat):Int):=by omega
   have hje:j=l.length:=by omega
   subst hje
   rw[List.take_length]at gcN
   simp(disch:=first|assumption|omega)only[W_block,P3,seval,initFr,clsA,j2]
   refine hx4 _ _ _ ?_
   simp(disch:=first|assumption|omega)only[W_block,P3,seval,initFr,clsA]
   exact hq1 _ _ ⟨_,rfl,c0N,by rw[hyes];exact gcN⟩
end Go.AM.Fd

set_option maxRecDepth 8000
namespace Go.AM.Fd
open Nat (reduceAdd reduceEqDiff reduceLT reduceLeDiff reduceMul reduceSub)
open Go.Proofs Go.AM.F
def TZ(s:Sta):Prop:=∀j,s.ca j=false→s.ti j=0
def canA(L:Ly)(x:Inp)(s:Sta)(i:Nat):Sta:=if((s.lo i&& !s.us i)&& !s.ca i)=true then
 {s with ca:=fun j=>s.ca j||decide (j=i),ti:=upd s.ti i (if hasB x.oc (L.g.getD (ro L i).g.toNat ([],0)).2 then 20 else 0)}else s
theorem upd_0{t:Nat→Nat}{i:Nat}(h:t i=0):upd t i 0=t:=by
 funext j;unfold upd
 by_cases e:j=i
 ·subst e;simp[h]
 ·simp[e]
set_option maxHeartbeats 2000000 in
theorem t162{K H:AHeap}{c b:Nat}{s:Sta}{x:Inp}{cv:Value}{us:Nat→Bool}{L:Ly}(h:CyR H c b s x cv us)(hK:MaA K b L)(kK:Keeps K H)(hc:K.n≤c)(he:checkE L=0)(hz:TZ s){i:Nat}(hi:i<L.r.length):
 ∃w H',ARun Tryz.prog 0 162 [ptr c 0,.int .i64 (i:Nat)] H w H'∧Chg [c] H H'∧CyR H' c b (canA L x s i) x cv us:=by
 refine walk2 f162_ok f162_n ?_
 intro Q hq1 hq2
 have lr:=(may_lim (check_may he)).r
 obtain⟨vl,vi,ls,own,room,T,gbK,slK,okK,siK⟩:=hK.x
 have gb:=kK.at_ gbK
 have sl:=slK.keeps kK
 have isl:=Sl.is sl
 have lenl:lenS vl=L.r.length:=by have:=Sl.len sl;simpa[arows]using this
 have e0:(0:Int)≤(i:Int):=by omega
 have e1:(i:Int)<((L.r.length:Nat):Int):=by omega
 have e64:(i:Int)<64:=by omega
 have iN:i<64:=by omega
 have gc:=h
 unfold CyR at gc
 have cl:=AHeap.get_lt gc
 have hgood:=check_good he (List.getElem_mem hi)
 rw[←ro_eq hi]at hgood
 have hsig:0≤(L.g.getD (ro L i).g.toNat ([],0)).2 :=sig_rng he (by have:=hgood.lim.g;omega)
 have hcn:canA L x s i=if((s.lo i&& !s.us i)&& !s.ca i)=true then
  {s with ca:=fun j=>s.ca j||decide (j=i),ti:=upd s.ti i (if hasB x.oc (L.g.getD (ro L i).g.toNat ([],0)).2 then 20 else 0)}else s:=rfl
 have hzi:=hz i
 have fin0:∀{fr:List Value},canA L x s i=s→resO f162.res fr H=some (.tuple #[])→Q .ret fr H:=fun e hr=>
  hq2 _ _ ⟨_,hr,Chg.refl _ _,by rw[e];exact h⟩
 have fin:∀{fr:List Value} (t:Sta),canA L x s i=t→resO f162.res fr (H.set c (.cells true false 74 (cyl b t x cv us) 241))=some (.tuple #[])→Q .normal fr (H.set c (.cells true false 74 (cyl b t x cv us) 241)):=fun t e hr=>
  hq1 _ _ ⟨_,hr,Chg.set H cl _,by unfold CyR;rw[e];exact AHeap.get_set_same gc _⟩
 unfold amc at gb gbK
 have sh:=s_shl1 iN
 have z20:=fun t:Sta=>cys_t20 (b:=b) (s:=t) (x:=x) (cv:=cv) (us:=us) iN
 have hll:4+i<74:=by omega
 simp(disch:=first|assumption|omega)only[f162,W_block,P3,seval,initFr,clsA]
 refine callK (t158 h e0) ?_
 rintro _ X ⟨rfl,hX⟩
 rw[hX,has_nat _ iN]
 cases h1:s.lo i with
 |false=>
  rw[h1]at hcn
  simp(disch:=first|assumption|omega)only[W_block,P3,seval,initFr,clsA]
  exact fin0 hcn rfl
 |true=>
 rw[h1]at hcn
 simp(disch:=first|assumption|omega)only[W_block,P3,seval,initFr,clsA,gc,cyl_2]
 refine callK (t42 _ e0) ?_
 rintro _ X ⟨rfl,hX⟩
 rw[hX,has_nat _ iN]
 cases h2:s.us i with
 |true=>
  rw[h2]at hcn
  simp(disch:=first|assumption|omega)only[W_block,P3,seval,initFr,clsA]
  exact fin0 hcn rfl
 |false=>
 rw[h2]at hcn
 simp(disch:=first|assumption|omega)only[W_block,P3,seval,initFr,clsA,gc,cyl_3]
 refine callK (t42 _ e0) ?_
 rintro _ X ⟨rfl,hX⟩
 rw[hX,has_nat _ iN]
 cases h3:s.ca i with
 |true=>
  rw[h3]at hcn
  simp(disch:=first|assumption|omega)only[W_block,P3,seval,initFr,clsA]
  exact fin0 hcn rfl
 |false=>
 rw[h3]at hcn
 obtain⟨K0,hK0⟩:∃X,X=H.set c (.cells true false 74 (cyl b {s with ca:=fun j=>s.ca j||decide (j=i)} x cv us) 241):=⟨_,rfl⟩
 have c0:Chg [c] H K0:=by rw[hK0];exact Chg.set H cl _
 have h0:CyR K0 c b {s with ca:=fun j=>s.ca j||decide (j=i)} x cv us:=by rw[hK0];exact AHeap.get_set_same gc _
 have kK0:Keeps K K0:=kK.chg_trans c0 (by simp;omega)
 have gb0:=kK0.at_ gbK
 obtain⟨na0,ra0⟩:=MaA.row (slK.keeps kK0) hi
 unfold arow at ra0
 have cl0:=AHeap.get_lt h0
 have gc0:=h0
 unfold CyR at gc0
 simp(disch:=first|assumption|omega)only[W_block,P3,seval,initFr,clsA,gc,cl,cyl_3,cys_3,cyl_len,sh,s_or,o_s64,one_s64]
 rw[←hK0]
 simp(disch:=first|assumption|omega)only[W_block,P3,seval,initFr,clsA,gc0,cyl_0,gb0,isl,lenl,na0,ra0,e0,e1,a_load1v]
 refine callQ (t165 h0 hsig) ?_
 cases h4:hasB x.oc (L.g.getD (ro L i).g.toNat ([],0)).2 with
 |false=>
  rw[h4]at hcn
  have hu:upd s.ti i 0=s.ti:=upd_0 (hzi h3)
  simp(disch:=first|assumption|omega)only[W_block,P3,seval,initFr,clsA]
  rw[hK0]
  exact fin _ (by rw[hcn];simp only[Bool.false_eq_true,if_false,hu];rfl) rfl
 |true=>
  rw[h4]at hcn
  simp(disch:=first|assumption|omega)only[W_block,P3,seval,initFr,clsA,gc0,cl0,cyl_len,z20,hll,e0,e64,a_iaddrp,Int.toNat_natCast,Nat.mul_one]
  rw[hK0,set_set]
  exact fin _ (by rw[hcn];rfl) rfl
theorem t168{H:AHeap}{p T:Nat}{o r:Bool}{n:Int}(hp:H.get p=some (.cells o r 1 [.int .i64 n] T))(z:Int×Bool):
 ∃w H',ARun Tryz.prog 0 168 [.agg (nRow z).toArray,ptr p 0] H w H'∧w=.bool (z.1==n)∧H'=H:=by
 refine gcb ?_
 refine walk2 f168_ok f168_n ?_
 intro Q hq1 hq2
 obtain⟨zp,zb⟩:=z
 have kA:=(Keeps.refl H).alloc (.cells true false 2 [.int .i64 zp,.bool zb] 120)
 have lp:=AHeap.get_lt hp
 have np:¬p=H.n:=by omega
 unfold nRow
 simp(disch:=first|assumption|omega)only[f168,W_block,P3,seval,initFr,clsA,hp,lp,np]
 exact hq2 _ _ ⟨.bool _,rfl,rfl,kA⟩
def movA(L:Ly)(x:Inp)(s:Sta)(m:Nat):Sta:=if(!hasB x.oc (L.p.getD m ([],0)).2 && !needD L s m)=true then{s with po:=fun j=>s.po j ^^ decide (j=m)}else s
set_option maxHeartbeats 2000000 in
theorem t163{H:AHeap}{c b:Nat}{s:Sta}{x:Inp}{cv:Value}{us:Nat→Bool}{L:Ly}(h:CyR H c b s x cv us)(hm:MaA H b L)(he:checkE L=0){m:Nat}(hmp:m<L.p.length):
 ∃w H',ARun Tryz.prog 0 163 [ptr c 0,.int .i64 (m:Nat)] H w H'∧Chg [c] H H'∧CyR H' c b (movA L x s m) x cv us:=by
 refine walk2 f163_ok f163_n ?_
 intro Q hq1 hq2
 have lr:=(may_lim (check_may he)).r
 have lpp:=(may_lim (check_may he)).p
 obtain⟨vl,vi,ls,own,room,T,gb,sl,ok,si⟩:=hm.x
 have isl:=Sl.is sl
 have lenl:lenS vl=L.r.length:=by have:=Sl.len sl;simpa[arows]using this
 have isi:=Sl.is si
 have leni:lenS vi=L.p.length:=by have:=IL.len si;simpa using this
 have hli:(L.p.map (·.2)).getD m 0=(L.p.getD m ([],0)).2 :=by
  rw[List.getD_eq_getElem?_getD,List.getD_eq_getElem?_getD,List.getElem?_map,List.getElem?_eq_getElem hmp];rfl
 have hlie:=lie_rng he hmp
 have m0:(0:Int)≤(m:Int):=by omega
 have m1:(m:Int)<((L.p.length:Nat):Int):=by omega
 have gc:=h
 unfold CyR at gc
 obtain⟨K0,hK0⟩:∃X,X=H.alloc (.cells true false 1 [.int .i64 (m:Int)] 3):=⟨_,rfl⟩
 have k0:Keeps H K0:=by rw[hK0];exact(Keeps.refl H).alloc _
 have gp0:K0.get H.n=some (.cells true false 1 [.int .i64 (m:Int)] 3):=by rw[hK0];exact AHeap.get_alloc_new H _
 have gc0:=k0.at_ gc
 have gb0:=k0.at_ gb
 have h0:CyR K0 c b s x cv us:=gc0
 obtain⟨np,rp⟩:=(si.keeps k0).at_ (i:=m) (by simpa using hmp)
 rw[hli]at rp
 have l0:=AHeap.get_lt gp0
 have l1:=AHeap.get_lt gc0
 have l2:=AHeap.get_lt gb0
 have hmv:movA L x s m=if(!hasB x.oc (L.p.getD m ([],0)).2 && !needD L s m)=true then{s with po:=fun j=>s.po j ^^ decide (j=m)}else s:=rfl
 have no:∀{fr:List Value} {K:AHeap},Keeps H K→movA L x s m=s→resO f163.res fr K=some (.tuple #[])→Q .ret fr K:=fun k e hr=>
  hq2 _ _ ⟨_,hr,k.chg [c],by rw[e];exact k.at_ h⟩
 unfold amc at gb0
 simp(disch:=first|assumption|omega)only[f163,W_block,P3,seval,initFr,clsA]
 rw[←hK0]
 simp(disch:=first|assumption|omega)only[W_block,P3,seval,initFr,clsA,gp0,gc0,cyl_0,gb0,isi,leni,np,rp,m0,m1,a_load1v,l0,l1,l2]
 refine callQ (t165 h0 hlie) ?_
 cases h1:hasB x.oc (L.p.getD m ([],0)).2 with
 |true=>
  rw[h1]at hmv
  simp(disch:=first|assumption|omega)only[W_block,P3,seval,initFr,clsA]
  exact no k0 hmv rfl
 |false=>
 rw[h1]at hmv
 simp(disch:=first|assumption|omega)only[P3,seval,initFr,clsA,gc0,cyl_0,gb0,isl,lenl]
 rw[W_block]
 refine W_loop2 (fun q fr K=>∃i x3 x4 x9 x10,fr=[ptr c 0,.int .i64 (m:Int),ptr H.n 0,x3,x4,.bool false,vl,.int .i64 ((L.r.length:Nat):Int),.int .i64 ((i:Nat):Int),x9,x10]∧
  Keeps K0 K∧((List.range i).any fun i=>(nds (ro L i)).any fun z=>s.lo i&&(z.1==(m:Int)))=false∧i≤L.r.length∧q=L.r.length-i) L.r.length
  ⟨0,_,_,_,_,rfl,Keeps.refl _,rfl,by omega,rfl⟩ ?_
 rintro Q' q fr K ⟨i,x3,x4,x9,x10,rfl,kK,hall,hi,rfl⟩ hn' hx' hret
 by_cases hlt:i<L.r.length
 ·have iN:i<64:=by omega
  have e0:(0:Int)≤(i:Int):=by omega
  have e1:(i:Int)<((L.r.length:Nat):Int):=by omega
  have hw:IntKind.i64.wrap ((i:Int)+1)=((i+1:Nat):Int):=by rw[wrap_i64 (by omega) (by omega)];simp
  have yes:((nds (ro L i)).any fun z=>s.lo i&&(z.1==(m:Int)))=true→needD L s m=true:=fun e=>any_at (p:=fun i=>(nds (ro L i)).any fun z=>s.lo i&&(z.1==(m:Int))) hlt e
  have nope:((nds (ro L i)).any fun z=>s.lo i&&(z.1==(m:Int)))=false→((List.range (i+1)).any fun i=>(nds (ro L i)).any fun z=>s.lo i&&(z.1==(m:Int)))=false:=fun e=>any_snoc hall e
  obtain⟨na,ra⟩:=MaA.row ((sl.keeps k0).keeps kK) hlt
  have oki:=ok i hlt
  have w1:=one_isS (Sl.is oki.t.s)
  have w2:=one_isS (Sl.is oki.n.s)
  have w3:=one_isS (Sl.is oki.c.s)
  have w4:∀x:Int,one1 (Value.int .i64 x)=True:=fun x=>by simp[one1,one_int]
  obtain⟨KA,hKA⟩:∃X,X=K.alloc (.cells true false 5 (arow L i (ls i)) 107):=⟨_,rfl⟩
  have kA:Keeps K KA:=by rw[hKA];exact(Keeps.refl K).alloc _
  have grA:KA.get K.n=some (.cells true false 5 (arow L i (ls i)) 107):=by rw[hKA];exact AHeap.get_alloc_new K _
  have gpA:=kA.at_ (kK.at_ gp0)
  have hA:CyR KA c b s x cv us:=kA.at_ (kK.at_ gc0)
  have okA:=((oki.keeps k0).keeps kK).keeps kA
  have kHA:=(k0.trans kK).trans kA
  have lrA:=AHeap.get_lt grA
  unfold arow at ra grA hKA
  simp(disch:=first|assumption|omega|(simp only[LN]<;>omega)|(simp(disch:=first|assumption|omega|(simp only[LN]<;>omega))only[row_alloc,row_set];assumption))only[W_block,P3,seval,initFr,clsA,e1,lenl,na,ra,a_loadnvf,w1,w2,w3,w4]
  rw[←hKA]
  refine callK (t158 hA e0) ?_
  rintro _ X ⟨rfl,hX⟩
  rw[hX,has_nat _ iN]
  cases h2:s.lo i with
  |false=>
   rw[h2]at nope
   simp(disch:=first|assumption|omega)only[W_block,P3,seval,initFr,clsA,hw]
   exact hn' _ _ _ ⟨i+1,_,_,_,_,rfl,kK.trans kA,nope (by simp),by omega,rfl⟩ (by omega)
  |true=>
   rw[h2]at nope yes
   simp(disch:=first|assumption|omega)only[W_block,P3,seval,initFr,clsA,grA,lrA]
   refine callQ (t45 okA.n.s (Nat.le_trans (nd_len he hlt) (by omega)) (p:=fun z=>z.1==(m:Int)) (g:=168) (fi:= #[]) (ca:= #[ptr H.n 0]) (fun z _=>t168 gpA z)) ?_
   cases h3:(nds (ro L i)).any fun z=>z.1==(m:Int)with
   |true=>
    simp(disch:=first|assumption|omega)only[W_block,P3,seval,initFr,clsA]
    refine hret _ _ ?_
    exact no kHA (by rw[hmv,yes (by simpa using h3)];rfl) rfl
   |false=>
    simp(disch:=first|assumption|omega)only[W_block,P3,seval,initFr,clsA,hw]
    exact hn' _ _ _ ⟨i+1,_,_,_,_,rfl,kK.trans kA,nope (by simpa using h3),by omega,rfl⟩ (by omega)
 ·have e1:¬((i:Nat):Int)<((L.r.length:Nat):Int):=by omega
  have hie:i=L.r.length:=by omega
  subst hie
  have hnd:needD L s m=false:=hall
  rw[hnd]at hmv
  have gpK:=kK.at_ gp0
  have gcK:=kK.at_ gc0
  have lpK:=AHeap.get_lt gpK
  have lcK:=AHeap.get_lt gcK
  have s2:=p_shl1 (show m<32 by omega)
  simp(disch:=first|assumption|omega)only[W_block,P3,seval,initFr,clsA,e1]
  refine hx' _ _ _ ?_
  simp(disch:=first|assumption|omega)only[W_block,P3,seval,initFr,clsA,gpK,gcK,lpK,lcK,cyl_len,cyl_68,cys_68,s2,p_xor,o_s32,one_s32]
  exact hq1 _ _ ⟨_,rfl,((k0.trans kK).chg [c]).trans (Chg.set K lcK _) (by simp),by rw[hmv];exact AHeap.get_set_same gcK _⟩
end Go.AM.Fd

set_option maxRecDepth 8000
namespace Go.AM.Fd
open Nat (reduceAdd reduceEqDiff reduceLT reduceLeDiff reduceMul reduceSub)
open Go.Proofs Go.AM.F
def comA(L:Ly)(x:Inp)(s:Sta)(kd n:Int):Sta:=
 if okC L kd n then(if kd=1 then setA L x s n.toNat else if kd=2 then canA L x s n.toNat else movA L x s n.toNat)else s
theorem comA_eq{L:Ly}{x:Inp}{s:Sta}{kd n:Int}:comA L x s kd n=comD L x s kd n:=by
 unfold comA comD
 by_cases h:okC L kd n=true
 ·rw[if_pos h,if_pos h]
  have h':=h
  unfold okC at h'
  simp only[Bool.and_eq_true,decide_eq_true_eq]at h'
  have hn:((n.toNat:Nat):Int)=n:=by omega
  by_cases h1:kd=1
  ·subst h1
   unfold setA
   cases setD L x s n.toNat<;>simp
  ·by_cases h2:kd=2
   ·subst h2
    unfold canA
    by_cases h3:((s.lo n.toNat&& !s.us n.toNat)&& !s.ca n.toNat)=true<;>simp[h3]
   ·have h3:kd=3:=by omega
    subst h3
    unfold movA
    rw[hn]
    by_cases h4:(!hasB x.oc (L.p.getD n.toNat ([],0)).2 && !needD L s n)=true<;>simp[h4]
 ·rw[if_neg h,if_neg h]
theorem e_nn:eqA 4 .nilFunc .nilFunc=some true:=rfl
theorem e_fn(a:Fn)(b c:Array Value):eqA 4 (.func a b c) .nilFunc=some false:=rfl
theorem fillF(a b c:Fn)(d e f g h i:Array Value):fillA [.nilFunc,.nilFunc,.nilFunc,.nilFunc] [(1,1,.func a d e),(2,1,.func b f g),(3,1,.func c h i)]=some [.nilFunc,.func a d e,.func b f g,.func c h i]:=rfl
theorem one_fn(a:Fn)(b c:Array Value):(Value.func a b c).oneCell'=true:=rfl
theorem o_fn(a:Fn)(b c:Array Value):one1 (Value.func a b c)=True:=by simp[one1,one_fn]
theorem one_nf:(Value.nilFunc).oneCell'=true:=rfl
theorem o_nf:one1 (Value.nilFunc)=True:=by simp[one1,one_nf]
set_option maxHeartbeats 4000000 in
theorem t157{K H:AHeap}{c b:Nat}{s:Sta}{x:Inp}{cv:Value}{us:Nat→Bool}{L:Ly}(h:CyR H c b s x cv us)(hK:MaA K b L)(kK:Keeps K H)(hc:K.n≤c)(he:checkE L=0)(hz:TZ s){kd n:Int}(hkd:0≤kd)(hkd2:kd<256):
 ∃w H',ARun Tryz.prog 0 157 [ptr c 0,.agg #[.int .u8 kd,.int .i64 n]] H w H'∧Chg [c] H H'∧CyR H' c b (comD L x s kd n) x cv us:=by
 rw[←comA_eq]
 refine walk2 f157_ok f157_n ?_
 intro Q hq1 hq2
 have lr:=(may_lim (check_may he)).r
 have lpp:=(may_lim (check_may he)).p
 obtain⟨vl,vi,ls,own,room,T,gbK,slK,okK,siK⟩:=hK.x
 have gb:=kK.at_ gbK
 have isl:=Sl.is slK
 have lenl:lenS vl=L.r.length:=by have:=Sl.len slK;simpa[arows]using this
 have isi:=Sl.is siK
 have leni:lenS vi=L.p.length:=by have:=IL.len siK;simpa using this
 have gc:=h
 unfold CyR at gc
 obtain⟨fs,hfs⟩:∃fs:List Value,fs=[.nilFunc,.func (.func 161) #[ptr c 0] #[],.func (.func 162) #[ptr c 0] #[],.func (.func 163) #[ptr c 0] #[]]:=⟨_,rfl⟩
 obtain⟨K0,hK0⟩:∃X,X=(H.alloc (.cells true false 2 [.int .u8 kd,.int .i64 n] 83)).alloc (.cells true false 4 fs 244):=⟨_,rfl⟩
 have k0:Keeps H K0:=by rw[hK0];exact((Keeps.refl H).alloc _).alloc _
 have gm0:K0.get H.n=some (.cells true false 2 [.int .u8 kd,.int .i64 n] 83):=by rw[hK0];exact((Keeps.refl _).alloc _).at_ (AHeap.get_alloc_new H _)
 have gf0:K0.get (H.n+1)=some (.cells true false 4 fs 244):=by rw[hK0];exact AHeap.get_alloc_new (H.alloc _) _
 have gc0:=k0.at_ gc
 have gb0:=k0.at_ gb
 have h0:CyR K0 c b s x cv us:=gc0
 have l0:=AHeap.get_lt gm0
 have l1:=AHeap.get_lt gf0
 unfold amc at gb0
 subst hfs
 simp(disch:=first|assumption|omega|(simp only[LN]<;>omega)|(simp(disch:=first|assumption|omega|(simp only[LN]<;>omega))only[row_alloc,row_set];assumption))only[f157,W_block,P3,seval,initFr,clsA,fillF,one_fn,o_fn,o_nf,one_nf]
 rw[←hK0]
 simp(disch:=first|assumption|omega)only[W_block,P3,seval,initFr,clsA,gc0,cyl_0,gb0,isl,lenl]
 have off:okC L kd n=false→comA L x s kd n=s:=fun e=>by unfold comA;rw[e];rfl
 have kKK:=kK.trans k0
 by_cases hk1:kd=1
 ·subst hk1
  have t1:Int.toNat 1=1:=rfl
  have w1:IntKind.i64.wrap 1=1:=by rw[wrap_i64 (by omega) (by omega)]
  have q1:((1:Int)==3)=false:=rfl
  have r1:(1:Int)<4:=by omega
  have z1:(0:Int)≤1:=by omega
  by_cases g1:0≤n
  ·by_cases g2:n<((L.r.length:Nat):Int)
   ·obtain⟨m,rfl⟩:∃m:Nat,n=(m:Int):=⟨n.toNat,by omega⟩
    have g3:m<L.r.length:=by omega
    have mt:Int.toNat (m:Int)=m:=by omega
    have hok:okC L 1 (m:Int)=true:=by unfold okC;simp;omega
    have hres:comA L x s 1 (m:Int)=setA L x s m:=by unfold comA;rw[if_pos hok,mt];simp
    simp(disch:=first|assumption|omega)only[W_block,P3,seval,initFr,clsA,gm0,gf0,gc0,cyl_0,gb0,isl,lenl,isi,leni,l0,l1,t1,w1,q1,r1,z1,g1,g2,a_iaddrp,Nat.mul_one,Nat.zero_add,e_nn,e_fn,st_callv,toList_arr,List.nil_append,List.append_nil]
    refine callK (t161 h0 (hK.keeps kKK) he g3) ?_
    rintro _ X ⟨cX,hX⟩
    simp(disch:=first|assumption|omega)only[W_block,P3,seval,initFr,clsA]
    exact hq1 _ _ ⟨_,rfl,(k0.chg [c]).trans cX (by simp),by rw[hres];exact hX⟩
   ·have hok:okC L 1 n=false:=by unfold okC;simp;omega
    simp(disch:=first|assumption|omega)only[W_block,P3,seval,initFr,clsA,gm0,gf0,gc0,cyl_0,gb0,isl,lenl,isi,leni,l0,l1,t1,w1,q1,r1,z1,g1,g2,a_iaddrp,Nat.mul_one,Nat.zero_add,e_nn,e_fn]
    exact hq1 _ _ ⟨_,rfl,k0.chg [c],by rw[off hok];exact h0⟩
  ·have hok:okC L 1 n=false:=by unfold okC;simp;omega
   simp(disch:=first|assumption|omega)only[W_block,P3,seval,initFr,clsA,gm0,gf0,gc0,cyl_0,gb0,isl,lenl,isi,leni,l0,l1,t1,w1,q1,r1,z1,g1,a_iaddrp,Nat.mul_one,Nat.zero_add,e_nn,e_fn]
   exact hq1 _ _ ⟨_,rfl,k0.chg [c],by rw[off hok];exact h0⟩
 by_cases hk2:kd=2
 ·subst hk2
  have t2:Int.toNat 2=2:=rfl
  have w2:IntKind.i64.wrap 2=2:=by rw[wrap_i64 (by omega) (by omega)]
  have q2:((2:Int)==3)=false:=rfl
  have r2:(2:Int)<4:=by omega
  have z2:(0:Int)≤2:=by omega
  by_cases g1:0≤n
  ·by_cases g2:n<((L.r.length:Nat):Int)
   ·obtain⟨m,rfl⟩:∃m:Nat,n=(m:Int):=⟨n.toNat,by omega⟩
    have g3:m<L.r.length:=by omega
    have mt:Int.toNat (m:Int)=m:=by omega
    have hok:okC L 2 (m:Int)=true:=by unfold okC;simp;omega
    have hres:comA L x s 2 (m:Int)=canA L x s m:=by unfold comA;rw[if_pos hok,mt];simp
    simp(disch:=first|assumption|omega)only[W_block,P3,seval,initFr,clsA,gm0,gf0,gc0,cyl_0,gb0,isl,lenl,isi,leni,l0,l1,t2,w2,q2,r2,z2,g1,g2,a_iaddrp,Nat.mul_one,Nat.zero_add,e_nn,e_fn,st_callv,toList_arr,List.nil_append,List.append_nil]
    refine callK (t162 h0 hK kKK hc he hz g3) ?_
    rintro _ X ⟨cX,hX⟩
    simp(disch:=first|assumption|omega)only[W_block,P3,seval,initFr,clsA]
    exact hq1 _ _ ⟨_,rfl,(k0.chg [c]).trans cX (by simp),by rw[hres];exact hX⟩
   ·have hok:okC L 2 n=false:=by unfold okC;simp;omega
    simp(disch:=first|assumption|omega)only[W_block,P3,seval,initFr,clsA,gm0,gf0,gc0,cyl_0,gb0,isl,lenl,isi,leni,l0,l1,t2,w2,q2,r2,z2,g1,g2,a_iaddrp,Nat.mul_one,Nat.zero_add,e_nn,e_fn]
    exact hq1 _ _ ⟨_,rfl,k0.chg [c],by rw[off hok];exact h0⟩
  ·have hok:okC L 2 n=false:=by unfold okC;simp;omega
   simp(disch:=first|assumption|omega)only[W_block,P3,seval,initFr,clsA,gm0,gf0,gc0,cyl_0,gb0,isl,lenl,isi,leni,l0,l1,t2,w2,q2,r2,z2,g1,a_iaddrp,Nat.mul_one,Nat.zero_add,e_nn,e_fn]
   exact hq1 _ _ ⟨_,rfl,k0.chg [c],by rw[off hok];exact h0⟩
 by_cases hk3:kd=3
 ·subst hk3
  have t3:Int.toNat 3=3:=rfl
  have w3:IntKind.i64.wrap 3=3:=by rw[wrap_i64 (by omega) (by omega)]
  have q3:((3:Int)==3)=true:=rfl
  have r3:(3:Int)<4:=by omega
  have z3:(0:Int)≤3:=by omega
  by_cases g1:0≤n
  ·by_cases g2:n<((L.p.length:Nat):Int)
   ·obtain⟨m,rfl⟩:∃m:Nat,n=(m:Int):=⟨n.toNat,by omega⟩
    have g3:m<L.p.length:=by omega
    have mt:Int.toNat (m:Int)=m:=by omega
    have hok:okC L 3 (m:Int)=true:=by unfold okC;simp;omega
    have hres:comA L x s 3 (m:Int)=movA L x s m:=by unfold comA;rw[if_pos hok,mt];simp
    simp(disch:=first|assumption|omega)only[W_block,P3,seval,initFr,clsA,gm0,gf0,gc0,cyl_0,gb0,isl,lenl,isi,leni,l0,l1,t3,w3,q3,r3,z3,g1,g2,a_iaddrp,Nat.mul_one,Nat.zero_add,e_nn,e_fn,st_callv,toList_arr,List.nil_append,List.append_nil]
    refine callK (t163 h0 (hK.keeps kKK) he g3) ?_
    rintro _ X ⟨cX,hX⟩
    simp(disch:=first|assumption|omega)only[W_block,P3,seval,initFr,clsA]
    exact hq1 _ _ ⟨_,rfl,(k0.chg [c]).trans cX (by simp),by rw[hres];exact hX⟩
   ·have hok:okC L 3 n=false:=by unfold okC;simp;omega
    simp(disch:=first|assumption|omega)only[W_block,P3,seval,initFr,clsA,gm0,gf0,gc0,cyl_0,gb0,isl,lenl,isi,leni,l0,l1,t3,w3,q3,r3,z3,g1,g2,a_iaddrp,Nat.mul_one,Nat.zero_add,e_nn,e_fn]
    exact hq1 _ _ ⟨_,rfl,k0.chg [c],by rw[off hok];exact h0⟩
  ·have hok:okC L 3 n=false:=by unfold okC;simp;omega
   simp(disch:=first|assumption|omega)only[W_block,P3,seval,initFr,clsA,gm0,gf0,gc0,cyl_0,gb0,isl,lenl,isi,leni,l0,l1,t3,w3,q3,r3,z3,g1,a_iaddrp,Nat.mul_one,Nat.zero_add,e_nn,e_fn]
   exact hq1 _ _ ⟨_,rfl,k0.chg [c],by rw[off hok];exact h0⟩
 have hok:okC L kd n=false:=by unfold okC;simp;omega
 have q3:(kd==3)=false:=by simp[hk3]
 have wk:IntKind.i64.wrap kd=kd:=by rw[wrap_i64 (by omega) (by omega)]
 by_cases hk0:kd=0
 ·subst hk0
  have t0:Int.toNat 0=0:=rfl
  have r0:(0:Int)<4:=by omega
  simp(disch:=first|assumption|omega)only[W_block,P3,seval,initFr,clsA,gm0,gf0,gc0,cyl_0,gb0,isl,lenl,isi,leni,l0,l1,q3,wk,t0,r0,a_iaddrp,Nat.mul_one,Nat.zero_add,e_nn,e_fn]
  exact hq1 _ _ ⟨_,rfl,k0.chg [c],by rw[off hok];exact h0⟩
 ·have r4:¬kd<4:=by omega
  simp(disch:=first|assumption|omega)only[W_block,P3,seval,initFr,clsA,gm0,gf0,gc0,cyl_0,gb0,isl,lenl,isi,leni,l0,l1,q3,wk,r4]
  exact hq1 _ _ ⟨_,rfl,k0.chg [c],by rw[off hok];exact h0⟩
end Go.AM.Fd

set_option maxRecDepth 8000
namespace Go.AM.Fd
open Go.Proofs Go.AM.F
structure SlC (H:AHeap) (z:Nat) (v:Value) (rows:List (List Value)):Prop where
 s:Sl H z v rows
 c:v=.slice none 0 0∨(∃b o q,v=.slice (some ⟨b,o,some q⟩) 0 0)∨∃b n k o r c u,v=slc b 0 n k∧n≤k∧H.get b=some (.cells o r z c u)
theorem SlC.keeps{H K:AHeap}{z:Nat}{v:Value}{rows:List (List Value)}(h:SlC H z v rows)(k:Keeps H K):SlC K z v rows:=by
 refine⟨h.s.keeps k,?_⟩
 rcases h.c with e|e|⟨b,n,m,o,r,c,u,e1,e2,e3⟩
 ·exact .inl e
 ·exact .inr (.inl e)
 ·exact .inr (.inr ⟨b,n,m,o,r,c,u,e1,e2,k.at_ e3⟩)
theorem SlC.pre{H:AHeap}{z:Nat}{v:Value}{rows:List (List Value)}(h:SlC H z v rows){i:Nat}{kd:IntKind}(hi:i≤rows.length):∃w,(∀K,Keeps H K→asem (.slsl z v none (some (.int kd (i:Nat))) none) K=some (w,K))∧Sl H z w (rows.take i):=by
 have hr:∀r∈rows.take i,r.length=z:=fun r hm=>h.s.row r (List.mem_of_mem_take hm)
 have hl:=h.s.len
 rcases h.c with rfl|⟨b,o,q,rfl⟩|⟨b,n,k,o,r,c,u,rfl,e2,e3⟩
 ·have:rows=[]:=List.eq_nil_of_length_eq_zero hl.symm
  subst this
  have:i=0:=by simpa using hi
  subst this
  exact⟨_,fun _ _=>a_slsl_nil ⟨0,0,0,bnd_none 0 0,bnd_some kd 0 0 0 (Nat.le_refl _),bnd_none 0 0⟩,Sl.nil _ _⟩
 ·have:rows=[]:=List.eq_nil_of_length_eq_zero hl.symm
  subst this
  have:i=0:=by simpa using hi
  subst this
  refine⟨_,fun K _=>?_,h.s⟩
  have h1:=bnd_none 0 0
  have h2:=bnd_some kd 0 0 0 (Nat.le_refl _)
  simp only[asem,h1,h2,and_self,if_true]
 ·have hn:n=rows.length:=hl
  subst hn
  refine⟨_,fun K kk=>a_slsl (kk.at_ e3) (bnd_none _ _) (bnd_some kd i rows.length k (by omega)) (bnd_none 0 i),⟨⟨_,_,by rw[List.length_take,Nat.min_eq_left hi,Nat.sub_zero];rfl⟩,hr,?_⟩⟩
  have hel:=h.s.el
  simp only[elemsA,slc,e3]at hel
  have hf:rows.flatten.length=rows.length*z:=flat_len h.s.row
  have hle:i*z≤rows.length*z:=Nat.mul_le_mul_right _ hi
  split at hel
  ·rename_i hc
   rw[Option.some.injEq,List.drop_zero]at hel
   simp only[elemsA,slc,e3,Nat.zero_mul,Nat.add_zero,Nat.zero_add,Nat.sub_zero]
   rw[if_pos (by omega),List.drop_zero]
   congr 1
   have e:rows.flatten=(rows.take i).flatten++(rows.drop i).flatten:=by rw[←List.flatten_append,List.take_append_drop]
   have hl2:(rows.take i).flatten.length=i*z:=by rw[flat_len hr,List.length_take,Nat.min_eq_left hi]
   have e4:c.take (i*z)=(c.take (rows.length*z)).take (i*z):=by rw[List.take_take,Nat.min_eq_left hle]
   rw[e4,hel,e,←hl2,List.take_left]
  ·cases hel
theorem fillG(z0 u a:Value)(zs zi S I:List Value)(h1:zs.length=68)(h2:zi.length=4)(h3:S.length=68)(h4:I.length=4)(ha:a.cells.toList=[a]):
 fillA (z0::(zs++(zi++[u]))) [(0,1,a),(1,68,.agg S.toArray),(69,4,.agg I.toArray)]=some (a::(S++(I++[u]))):=by
 have c1:(Value.agg S.toArray).cells.toList=S:=rfl
 have c2:(Value.agg I.toArray).cells.toList=I:=rfl
 rw[fill_cons,ha,if_pos ⟨rfl,by simp⟩]
 have e1:(z0::(zs++(zi++[u]))).take 0++[a]++(z0::(zs++(zi++[u]))).drop (0+1)=a::(zs++(zi++[u])):=by simp
 rw[e1,fill_cons,c1,if_pos ⟨h3,by simp[h1]⟩]
 have e2:(a::(zs++(zi++[u]))).take 1++S++(a::(zs++(zi++[u]))).drop (1+68)=(a::S)++(zi++[u]):=by
  have:(a::(zs++(zi++[u]))).drop (1+68)=zi++[u]:=by
   rw[Nat.add_comm,List.drop_succ_cons,←h1,List.drop_left]
  rw[this];simp
 rw[e2,fill_cons,c2,if_pos ⟨h4,by simp[h2,h3]⟩]
 have e3:((a::S)++(zi++[u])).take 69=a::S:=by
  have:(69:Nat)=(a::S).length:=by simp[h3]
  rw[this,List.take_left]
 have e4:((a::S)++(zi++[u])).drop (69+4)=[u]:=by
  have e:(a::S)++(zi++[u])=((a::S)++zi)++[u]:=by simp
  have:(69+4:Nat)=((a::S)++zi).length:=by simp[h3,h2]
  rw[e,this,List.drop_left]
 rw[e3,e4]
 simp[fillA]
theorem Z74K_z:Z74K=Value.pointer none::((([.int .u64 0,.int .u64 0,.int .u64 0]:List Value)++List.replicate 64 (.int .u8 0)++[.int .u32 0])++(([.int .u64 0,.int .u32 0,.int .u32 0,.slice none 0 0]:List Value)++[.int .u64 0])):=rfl
theorem fillC(b:Nat)(s:Sta)(x:Inp)(cv:Value):fillA Z74K [(0,1,ptr b 0),(1,68,.agg (stl s).toArray),(69,4,.agg #[S64 x.oc,S32 x.nr,S32 x.rv,cv])]=some (cyl b s x cv fun _=>false):=by
 have e:(#[S64 x.oc,S32 x.nr,S32 x.rv,cv]:Array Value)=[S64 x.oc,S32 x.nr,S32 x.rv,cv].toArray:=rfl
 rw[Z74K_z,e,fillG _ _ _ _ _ _ _ (by simp) rfl (stl_len s) rfl rfl,s_zero]
 rfl
theorem cyl_one{b:Nat}{s:Sta}{x:Inp}{cv:Value}{us:Nat→Bool}(hc:isS cv=true):(cyl b s x cv us).all Value.oneCell'=true:=by
 show(true&&(stl s++[S64 x.oc,S32 x.nr,S32 x.rv,cv,S64 us]).all Value.oneCell')=true
 rw[List.all_append,stl_one]
 have:cv.oneCell'=true:=by
  cases cv with
  |slice a n k=>rfl
  |_=>cases hc
 simp[this,one_s64,one_s32]
theorem tz_tidy(L:Ly)(s:Sta):TZ (tidyS L s):=by
 intro j h
 show(if _ then _ else _)=0
 rw[if_neg]
 have h':(s.ca j&&(s.lo j&&lowP L.r.length j))=false:=h
 rw[h'];simp
theorem tz_com{L:Ly}{x:Inp}{s:Sta}{kd n:Int}(h:TZ s):TZ (comD L x s kd n):=by
 intro j
 have hj:=h j
 unfold comD
 repeat' split
 all_goals first|exact hj|skip
 all_goals
  intro h2
  simp only[Bool.or_eq_false_iff,decide_eq_false_iff_not]at h2
  show upd _ _ _ j=0
  unfold upd
  rw[if_neg h2.2];exact hj h2.1
theorem tz_cmd{L:Ly}{x:Inp}:∀{cs:List (Int×Int)} {s:Sta},TZ s→TZ (cmdD L x s cs)
 |[],s,h=>h
 |c::cs,s,h=>tz_cmd (cs:=cs) (tz_com h)
end Go.AM.Fd

set_option maxRecDepth 8000
namespace Go.AM.Fd
open Nat (reduceAdd reduceEqDiff reduceLT reduceLeDiff reduceMul reduceSub)
open Go.Proofs Go.AM.F
set_option maxHeartbeats 8000000 in
theorem t156{H:AHeap}{b:Nat}{L:Ly}{s:Sta}{x:Inp}{cv:Value}{cs:List (Int×Int)}(hm:MaA H b L)(he:checkE L=0)(hc:SlC H 2 cv (cs.map cRow))(hcl:cs.length≤1000000)(hk:∀c∈cs,0≤c.1∧c.1<256):
 ∃w H',ARun Tryz.prog 0 156 [ptr b 0,.agg (stl s).toArray,.agg (inl x cv).toArray] H w H'∧w=.tuple #[.agg (stl (stepD L s x cs)).toArray,.agg #[S64 (fun i=>decide (i<L.r.length)&&proD L x (stepD L s x cs) i),S32 (stepD L s x cs).po]]∧H'=H:=by
 suffices h':∃w H',ARun Tryz.prog 0 156 [ptr b 0,.agg (stl s).toArray,.agg (inl x cv).toArray] H w H'∧w=.tuple #[.agg (stl (stepD L s x cs)).toArray,.agg #[S64 (fun i=>decide (i<L.r.length)&&proD L x (stepD L s x cs) i),S32 (stepD L s x cs).po]]∧Keeps H H' by
  obtain⟨_,_,a,rfl,k⟩:=h'
  exact⟨_,_,a.gc0 k (.inr (NV.tuple_of (.cons (nv_stl _ _) (.cons (NV.agg_of (l:=[S64 (fun i=>decide (i<L.r.length)&&proD L x (stepD L s x cs) i),S32 (stepD L s x cs).po]) (NL.plain rfl)) .nil)))),rfl,rfl⟩
 refine walk2 f156_ok f156_n ?_
 intro Q hq1 hq2
 have lr:=(may_lim (check_may he)).r
 obtain⟨vl,vi,ls,own,room,T,gb,sl,ok,si⟩:=hm.x
 have isl:=Sl.is sl
 have lenl:lenS vl=L.r.length:=by have:=Sl.len sl;simpa[arows]using this
 have isc:=Sl.is hc.s
 have onec:=Sl.one hc.s
 have clen:lenS cv=cs.length:=by have:=Sl.len hc.s;simpa using this
 have hinl:inl x cv=[S64 x.oc,S32 x.nr,S32 x.rv,cv]:=rfl
 obtain⟨K0,hK0⟩:∃X,X=(((H.alloc (.cells true false 68 (stl s) 43)).alloc (.cells true false 4 (inl x cv) 46)).alloc (.cells true false 68 (stl Sta0) 43)).alloc (.cells true false 2 [.int .u64 0,.int .u32 0] 54):=⟨_,rfl⟩
 have k0:Keeps H K0:=by rw[hK0];exact((((Keeps.refl H).alloc _).alloc _).alloc _).alloc _
 have n0:K0.n=H.n+4:=by rw[hK0];rfl
 have gs0:K0.get H.n=some (.cells true false 68 (stl s) 43):=by rw[hK0];exact((((Keeps.refl _).alloc _).alloc _).alloc _).at_ (AHeap.get_alloc_new H _)
 have gi0:K0.get (H.n+1)=some (.cells true false 4 (inl x cv) 46):=by rw[hK0];exact(((Keeps.refl _).alloc _).alloc _).at_ (AHeap.get_alloc_new (H.alloc _) _)
 have gw0:K0.get (H.n+2)=some (.cells true false 68 (stl Sta0) 43):=by rw[hK0];exact((Keeps.refl _).alloc _).at_ (AHeap.get_alloc_new ((H.alloc _).alloc _) _)
 have go0:K0.get (H.n+3)=some (.cells true false 2 [.int .u64 0,.int .u32 0] 54):=by rw[hK0];exact AHeap.get_alloc_new (((H.alloc _).alloc _).alloc _) _
 have gb0:=k0.at_ gb
 have l0:=AHeap.get_lt gs0
 have l1:=AHeap.get_lt gi0
 have tT:=t41 (hm.keeps k0) lr s
 unfold amc at gb gb0
 have cl1:=cyl_one (b:=b) (s:=tidyS L s) (x:=x) (us:=fun _=>false) isc
 rw[hinl]at hK0 gi0
 rw[hinl]
 simp(disch:=first|assumption|omega|(simp only[LN]<;>omega)|(simp(disch:=first|assumption|omega|(simp only[LN]<;>omega))only[row_alloc,row_set];assumption))only[f156,W_block,P3,seval,initFr,clsA,stl_one,stl_len,rng68,onec,o_s64,o_s32,one_s64,one_s32,Z68K_z]
 simp only[←hK0]
 refine callK tT ?_
 rintro _ X ⟨rfl,hX⟩
 rw[hX]
 obtain⟨s0,hs0e⟩:∃t,t=tidyS L s:=⟨_,rfl⟩
 rw[←hs0e]at cl1 ⊢
 obtain⟨K1,hK1⟩:∃X,X=K0.alloc (.cells true false 74 (cyl b s0 x cv s0.us) 241):=⟨_,rfl⟩
 have k1:Keeps K0 K1:=by rw[hK1];exact(Keeps.refl K0).alloc _
 have gc1:CyR K1 (H.n+4) b s0 x cv s0.us:=by rw[hK1,←n0];exact AHeap.get_alloc_new K0 _
 simp(disch:=first|assumption|omega|(simp only[LN]<;>omega)|(simp(disch:=first|assumption|omega|(simp only[LN]<;>omega))only[row_alloc,row_set];assumption))only[P3,seval,initFr,clsA,gs0,gi0,l0,l1,rng68,fillC,cl1,cyl_len,cyl_2,cys_73,o_s64,one_s64]
 rw[←hK1]
 have hmn:min ((lenS cv:Nat):Int) 8=((min cs.length 8:Nat):Int):=by rw[clen];omega
 obtain⟨cw,hcw0,slw0⟩:=hc.pre (i:=min cs.length 8) (kd:=.i64) (by rw[List.length_map];omega)
 have hcw:=hcw0 _ (k0.trans k1)
 obtain⟨ds,hds⟩:∃ds,ds=cs.take 8:=⟨_,rfl⟩
 have slw:CL H cw ds:=by
  have e:(cs.map cRow).take (min cs.length 8)=ds.map cRow:=by
   rw[hds,List.map_take,List.take_eq_take_iff];simp;omega
  rw[e]at slw0;exact slw0
 have lends:ds.length=min cs.length 8:=by rw[hds,List.length_take,Nat.min_comm]
 have isw:=Sl.is slw
 have lenw:=slw.len
 rw[←lends]at hmn hcw
 have ld8:ds.length≤8:=by omega
 simp(disch:=first|assumption|omega)only[P3,seval,initFr,clsA,hmn,hcw,isw,lenw]
 obtain⟨A2,hA2⟩:∃v:Value,v=.agg (stl s).toArray:=⟨_,rfl⟩
 obtain⟨A4,hA4⟩:∃v:Value,v=.agg #[S64 x.oc,S32 x.nr,S32 x.rv,cv]:=⟨_,rfl⟩
 rw[W_block,←hA2,←hA4,n0]
 refine W_loop2 (fun q fr X=>∃i x8 x16,fr=[ptr b 0,A2,A4,ptr H.n 0,ptr (H.n+1) 0,ptr (H.n+2) 0,ptr (H.n+3) 0,ptr (H.n+4) 0,x8,undef,undef,undef,.bool false,cw,.int .i64 ((ds.length:Nat):Int),.int .i64 ((i:Nat):Int),x16,undef,undef,undef,undef,undef,undef,undef,undef]∧
  Chg [H.n+4] K1 X∧CyR X (H.n+4) b (cmdD L x s0 (ds.take i)) x cv s0.us∧i≤ds.length∧q=ds.length-i) ds.length
  ⟨0,_,_,rfl,Chg.refl _ _,gc1,by omega,rfl⟩ ?_
 rintro Q' q fr X ⟨i,x8,x16,rfl,cX,gX,hi,rfl⟩ hn' hx' hret
 have kX:Keeps H X:=(k0.trans k1).chg_trans cX (by simp)
 by_cases h1:i<ds.length
 ·obtain⟨nc,rc⟩:=CL.at_ (slw.keeps kX) h1
  have e0:(0:Int)≤(i:Int):=by omega
  have e1:(i:Int)<((ds.length:Nat):Int):=by omega
  have hw:IntKind.i64.wrap ((i:Int)+1)=((i+1:Nat):Int):=by rw[wrap_i64 (by omega) (by omega)];simp
  have hgd:ds.getD i (0,0)=ds[i]:=by rw[List.getD_eq_getElem?_getD,List.getElem?_eq_getElem h1];rfl
  have htk:ds.take (i+1)=ds.take i++[ds[i]]:=by rw[List.take_add_one,List.getElem?_eq_getElem h1];rfl
  have hkd:=hk ds[i] (List.mem_of_mem_take (by rw[←hds];exact List.getElem_mem h1))
  have tz:TZ (cmdD L x s0 (ds.take i)):=tz_cmd (by rw[hs0e];exact tz_tidy L s)
  rw[hgd]at rc
  generalize ds[i]=c at*
  obtain⟨kd,n⟩:=c
  obtain⟨XA,hXA⟩:∃Z,Z=X.alloc (.cells true false 2 [.int .u8 kd,.int .i64 n] 83):=⟨_,rfl⟩
  have kA:Keeps X XA:=by rw[hXA];exact(Keeps.refl X).alloc _
  have gmA:XA.get X.n=some (.cells true false 2 [.int .u8 kd,.int .i64 n] 83):=by rw[hXA];exact AHeap.get_alloc_new X _
  have gA:CyR XA (H.n+4) b (cmdD L x s0 (ds.take i)) x cv s0.us:=kA.at_ gX
  have lA:=AHeap.get_lt gmA
  simp(disch:=first|assumption|omega|(simp only[LN]<;>omega)|(simp(disch:=first|assumption|omega|(simp only[LN]<;>omega))only[row_alloc,row_set];assumption))only[W_block,P3,seval,initFr,clsA,e1,nc,rc,a_loadnvf,lenw]
  rw[←hXA]
  refine callK (t157 gA hm (kX.trans kA) (by omega) he tz hkd.1 hkd.2) ?_
  rintro _ Y ⟨cY,gY⟩
  simp(disch:=first|assumption|omega)only[W_block,P3,seval,initFr,clsA,hw]
  exact hn' _ _ _ ⟨i+1,_,_,rfl,(cX.trans (kA.chg [H.n+4]) (by simp)).trans cY (by simp),by rw[htk,cmdD_snoc];exact gY,by omega,rfl⟩ (by omega)
 ·have e1:¬(i:Int)<((ds.length:Nat):Int):=by omega
  have hil:i=ds.length:=by omega
  subst hil
  rw[List.take_length]at gX
  obtain⟨s1,hs1⟩:∃t,t=cmdD L x s0 ds:=⟨_,rfl⟩
  rw[←hs1]at gX
  have ti1:∀i,s1.ti i≤20:=by rw[hs1,hs0e];exact cmdD_ti (tidy_ti L s)
  have hst:stepD L s x cs=rosD L x s0.us s1 L.r.length:=by unfold stepD;rw[hs1,hs0e,hds]
  rw[hst]at hq1 hq2
  simp(disch:=first|assumption|omega)only[W_block,P3,seval,initFr,clsA,e1]
  refine hx' _ _ _ ?_
  have gbX:=kX.at_ gb
  simp(disch:=first|assumption|omega)only[P3,seval,initFr,clsA,gbX,isl,lenl]
  rw[W_block]
  refine W_loop2 (fun q fr Y=>∃k x9 x19 x20,fr=[ptr b 0,A2,A4,ptr H.n 0,ptr (H.n+1) 0,ptr (H.n+2) 0,ptr (H.n+3) 0,ptr (H.n+4) 0,x8,x9,undef,undef,.bool false,cw,.int .i64 ((ds.length:Nat):Int),.int .i64 ((ds.length:Nat):Int),.bool false,.int .i64 ((L.r.length:Nat):Int),.int .i64 ((k:Nat):Int),x19,x20,undef,undef,undef,undef]∧
   Chg [H.n+4] K1 Y∧CyR Y (H.n+4) b (rosD L x s0.us s1 k) x cv s0.us∧k≤L.r.length∧q=L.r.length-k) L.r.length
   ⟨0,_,_,_,rfl,cX,gX,by omega,rfl⟩ ?_
  rintro Q2 q fr Y ⟨k,x9,x19,x20,rfl,cY,gY,hk',rfl⟩ hn2 hx2 hret2
  have kY:Keeps H Y:=(k0.trans k1).chg_trans cY (by simp)
  by_cases hlk:k<L.r.length
  ·have kN:k<64:=by omega
   have c0:(0:Int)≤(k:Int):=by omega
   have c1:((k:Nat):Int)<((L.r.length:Nat):Int):=by omega
   have hw2:IntKind.i64.wrap ((k:Int)+1)=((k+1:Nat):Int):=by rw[wrap_i64 (by omega) (by omega)];simp
   have hrs:=rosD_s L x s0.us s1 k
   have tik:=rosD_ti (L:=L) (x:=x) (us:=s0.us) ti1 k
   generalize rosD L x s0.us s1 k=t at*
   simp(disch:=first|assumption|omega)only[W_block,P3,seval,initFr,clsA,c1]
   refine callK (t158 gY c0) ?_
   rintro _ Z ⟨rfl,hZ⟩
   rw[hZ,has_nat _ kN]
   cases hlo:t.lo k with
   |false=>
    rw[hlo]at hrs
    simp(disch:=first|assumption|omega)only[W_block,P3,seval,initFr,clsA,hw2]
    exact hn2 _ _ _ ⟨k+1,_,_,_,rfl,cY,by rw[hrs];exact gY,by omega,rfl⟩ (by omega)
   |true=>
    rw[hlo]at hrs
    simp(disch:=first|assumption|omega)only[W_block,P3,seval,initFr,clsA]
    refine callK (t159 gY (hm.keeps kY) he (fun i=>by have:=tik i;omega) hlk) ?_
    rintro _ Z ⟨cZ,gZ⟩
    simp(disch:=first|assumption|omega)only[W_block,P3,seval,initFr,clsA,hw2]
    exact hn2 _ _ _ ⟨k+1,_,_,_,rfl,cY.trans cZ (by simp),by rw[hrs];exact gZ,by omega,rfl⟩ (by omega)
  ·have c1:¬((k:Nat):Int)<((L.r.length:Nat):Int):=by omega
   have hke:k=L.r.length:=by omega
   subst hke
   obtain⟨t,ht⟩:∃t,t=rosD L x s0.us s1 L.r.length:=⟨_,rfl⟩
   rw[←ht]at hq1 hq2 gY
   have gcY:=gY
   unfold CyR at gcY
   have lcY:=AHeap.get_lt gcY
   have gbY:=kY.at_ gb
   have gwY:=cY.at_ (k1.at_ gw0) (by simp)
   have goY:=cY.at_ (k1.at_ go0) (by simp)
   simp(disch:=first|assumption|omega)only[W_block,P3,seval,initFr,clsA,c1]
   refine hx2 _ _ _ ?_
   obtain⟨Z0,hZ0⟩:∃Z,Z=Y.alloc (.cells true false 2 [S64 fun j=>decide (j<0)&&proD L x t j,S32 t.po] 54):=⟨_,rfl⟩
   have kZ0:Keeps Y Z0:=by rw[hZ0];exact(Keeps.refl Y).alloc _
   have gz0:Z0.get Y.n=some (.cells true false 2 [S64 fun j=>decide (j<0)&&proD L x t j,S32 t.po] 54):=by rw[hZ0];exact AHeap.get_alloc_new Y _
   have e00:Value.int .u64 0=S64 fun j=>decide (j<0)&&proD L x t j:=by rw[s_zero];exact s64_ext fun i _=>by simp
   simp(disch:=first|assumption|omega|(simp only[LN]<;>omega)|(simp(disch:=first|assumption|omega|(simp only[LN]<;>omega))only[row_alloc,row_set];assumption))only[P3,seval,initFr,clsA,gcY,cyl_68,gbY,isl,lenl,fillO1,o_s32,one_s32]
   have gbZ0:=kZ0.at_ gbY
   rw[e00,←hZ0]
   simp(disch:=first|assumption|omega)only[P3,seval,initFr,clsA,gbZ0,isl,lenl]
   rw[W_block]
   refine W_loop2 (fun q fr Z=>∃k x11 x23 x24,fr=[ptr b 0,A2,A4,ptr H.n 0,ptr (H.n+1) 0,ptr (H.n+2) 0,ptr (H.n+3) 0,ptr (H.n+4) 0,x8,x9,ptr Y.n 0,x11,.bool false,cw,.int .i64 ((ds.length:Nat):Int),.int .i64 ((ds.length:Nat):Int),.bool false,.int .i64 ((L.r.length:Nat):Int),.int .i64 ((L.r.length:Nat):Int),.bool false,x20,.int .i64 ((L.r.length:Nat):Int),.int .i64 ((k:Nat):Int),x23,x24]∧
    Chg [Y.n] Z0 Z∧Z.get Y.n=some (.cells true false 2 [S64 fun j=>decide (j<k)&&proD L x t j,S32 t.po] 54)∧k≤L.r.length∧q=L.r.length-k) L.r.length
    ⟨0,_,_,_,rfl,Chg.refl _ _,gz0,by omega,rfl⟩ ?_
   rintro Q3 q fr Z ⟨k,x11,x23,x24,rfl,cZ,gz,hk',rfl⟩ hn3 hx3 hret3
   have kYZ:Keeps Y Z:=kZ0.chg_trans cZ (by simp)
   have kZ:Keeps H Z:=kY.trans kYZ
   have gZ:CyR Z (H.n+4) b t x cv s0.us:=kYZ.at_ gcY
   have gcZ:=kYZ.at_ gcY
   have gwZ:=kYZ.at_ gwY
   have goZ:=kYZ.at_ goY
   have lZ:=AHeap.get_lt gz
   by_cases hlk:k<L.r.length
   ·have kN:k<64:=by omega
    have c0:(0:Int)≤(k:Int):=by omega
    have c1:((k:Nat):Int)<((L.r.length:Nat):Int):=by omega
    have hw2:IntKind.i64.wrap ((k:Int)+1)=((k+1:Nat):Int):=by rw[wrap_i64 (by omega) (by omega)];simp
    have sh:=s_shl1 kN
    simp(disch:=first|assumption|omega)only[W_block,P3,seval,initFr,clsA,c1]
    refine callQ (t160 gZ (hm.keeps kZ) he isc hlk) ?_
    cases hp:proD L x t k with
    |false=>
     simp(disch:=first|assumption|omega)only[W_block,P3,seval,initFr,clsA,hw2]
     exact hn3 _ _ _ ⟨k+1,_,_,_,rfl,cZ,by rw[gz,with_n (proD L x t) k hp],by omega,rfl⟩ (by omega)
    |true=>
     simp(disch:=first|assumption|omega)only[W_block,P3,seval,initFr,clsA,gz,sh,s_or,o_s64,one_s64,hw2]
     refine hn3 _ _ _ ⟨k+1,_,_,_,rfl,cZ.trans (Chg.set Z lZ _) (by simp),?_,by omega,rfl⟩ (by omega)
     rw[AHeap.get_set_same gz,←with_p (proD L x t) k hp]
     congr 4
     congr 1
     funext j
     simp only[oneP,Int.ofNat_inj]
   ·have c1:¬((k:Nat):Int)<((L.r.length:Nat):Int):=by omega
    have hke:k=L.r.length:=by omega
    subst hke
    have hwl:=AHeap.get_lt gwZ
    have hol:=AHeap.get_lt goZ
    have oa:∀o,(Z.set (H.n+2) o).get (H.n+3)=Z.get (H.n+3):=fun o=>AHeap.get_set_other Z (by omega) hwl o
    simp(disch:=first|assumption|omega)only[W_block,P3,seval,initFr,clsA,c1]
    refine hx3 _ _ _ ?_
    simp(disch:=first|assumption|omega|(simp only[LN]<;>omega)|(simp(disch:=first|assumption|omega|(simp only[LN]<;>omega))only[row_alloc,row_set];assumption))only[W_block,P3,seval,initFr,clsA,gcZ,rng_cys,gz,gwZ,goZ,oa,rng68,stn68s,o_s64,o_s32,one_s64,one_s32]
    obtain⟨pr,hpr⟩:∃pr:Nat→Bool,pr=fun j=>decide (j<L.r.length)&&proD L x t j:=⟨_,rfl⟩
    rw[←hpr]at hq2 ⊢
    refine⟨by simp,hq2 _ _ ⟨.tuple #[.agg (stl t).toArray,.agg #[S64 pr,S32 t.po]],?_,rfl,(kZ.set (by omega) hwl _).set (by omega) (by rw[set_n];exact hol) _⟩⟩
    have ga3:((Z.set (H.n+2) (.cells true false 68 (stl t) 43)).set (H.n+3) (.cells true false 2 [S64 pr,S32 t.po] 54)).get (H.n+2)=some (.cells true false 68 (stl t) 43):=by
     rw[AHeap.get_set_other _ (by omega) (by rw[set_n];exact hol)];exact AHeap.get_set_same gwZ _
    have go3:((Z.set (H.n+2) (.cells true false 68 (stl t) 43)).set (H.n+3) (.cells true false 2 [S64 pr,S32 t.po] 54)).get (H.n+3)=some (.cells true false 2 [S64 pr,S32 t.po] 54):=
     AHeap.get_set_same ((oa _).trans goZ) _
    show resO [.cn 68 5,.cn 2 6] _ _=_
    have r1':celln 68 (ptr (H.n+2) 0) ((Z.set (H.n+2) (.cells true false 68 (stl t) 43)).set (H.n+3) (.cells true false 2 [S64 pr,S32 t.po] 54))=some (.agg (stl t).toArray):=by
     rw[cellnp,rangeA_e,ga3,rng68];rfl
    have r2':celln 2 (ptr (H.n+3) 0) ((Z.set (H.n+2) (.cells true false 68 (stl t) 43)).set (H.n+3) (.cells true false 2 [S64 pr,S32 t.po] 54))=some (.agg #[S64 pr,S32 t.po]):=by
     rw[cellnp,rangeA_e,go3];rfl
    have e5:∀l:List Value,l.getD 5 undef=ptr (H.n+2) 0→l.getD 6 undef=ptr (H.n+3) 0→∀K,celln 68 (ptr (H.n+2) 0) K=some (.agg (stl t).toArray)→celln 2 (ptr (H.n+3) 0) K=some (.agg #[S64 pr,S32 t.po])→
     resO [.cn 68 5,.cn 2 6] l K=some (.tuple #[.agg (stl t).toArray,.agg #[S64 pr,S32 t.po]]):=fun l a b K c d=>by
     simp only[resO,resVs,RX.get,a,b,c,d];rfl
    exact e5 _ rfl rfl _ r1' r2'
end Go.AM.Fd

namespace Go.AM.Fd
open Go.Proofs Go.AM.F
theorem n64_iff{f:Nat→Bool}:none64 f=true↔∀i,i<64→f i=false:=by
 unfold none64;simp
theorem n32_iff{f:Nat→Bool}:none32 f=true↔∀i,i<32→f i=false:=by
 unfold none32;simp
theorem n64_not{f:Nat→Bool}:none64 f=false↔∃i,i<64∧f i=true:=by
 unfold none64;simp
theorem n32_not{f:Nat→Bool}:none32 f=false↔∃i,i<32∧f i=true:=by
 unfold none32;simp
theorem n64_and(f g:Nat→Bool):none64 (fun i=>f i||g i)=(none64 f&&none64 g):=by
 rw[Bool.eq_iff_iff,Bool.and_eq_true,n64_iff,n64_iff,n64_iff]
 constructor
 ·intro h
  exact⟨fun i hi=>by have:=h i hi;simp at this;exact this.1,fun i hi=>by have:=h i hi;simp at this;exact this.2⟩
 ·rintro⟨h,k⟩ i hi
  rw[h i hi,k i hi];rfl
theorem none_one(f:Nat→Bool)(n:Int):none64 (fun j=>oneP n j&&f j)= !hasB f n:=by
 rw[Bool.eq_iff_iff,n64_iff]
 unfold hasB oneP
 constructor
 ·intro h
  by_cases h0:0≤n
  ·by_cases h1:n<64
   ·have:=h n.toNat (by omega)
    have e:decide (((n.toNat:Nat):Int)=n)=true:=by simp;omega
    rw[e]at this
    simp at this
    simp[this]
   ·simp[h1]
  ·simp[h0]
 ·intro h i hi
  by_cases e:(i:Int)=n
  ·subst e
   have e1:decide ((0:Int)≤(i:Int))=true:=by simp
   have e2:decide ((i:Int)<64)=true:=by simp;omega
   rw[e1,e2]at h
   simp at h
   simp[h]
  ·simp[e]
theorem none_comm(f g:Nat→Bool):none64 (fun j=>f j&&g j)=none64 (fun j=>g j&&f j):=by
 congr 1;funext j;rw[Bool.and_comm]
theorem ent_eq{L:Ly}{x:Inp}{i:Nat}(hi:i<L.r.length):entB L x i=hasB x.oc ((ro L i).path.getD 0 0):=by
 unfold entB fiP
 rw[none_one];simp[hi]
theorem free_eq{L:Ly}{x:Inp}{i:Nat}(he:checkE L=0)(hi:i<L.r.length):(none64 fun j=>trP (ro L i) j&&x.oc j)=frD x (ro L i):=by
 have hg:=check_good he (List.getElem_mem hi)
 rw[←ro_eq hi]at hg
 have hL:=(may_lim (check_may he)).s
 rw[Bool.eq_iff_iff,n64_iff]
 unfold frD trP
 rw[List.all_eq_true]
 constructor
 ·intro h t ht
  obtain⟨h0,h1⟩:=hg.tr t ht
  obtain⟨m,rfl⟩:∃m:Nat,t=(m:Int):=⟨t.toNat,by omega⟩
  have hm:m<64:=by omega
  have:=h m hm
  rw[List.contains_iff_mem.2 ht]at this
  rw[has_nat _ hm]
  simpa using this
 ·intro h j hj
  by_cases hc:(trk (ro L i)).contains (j:Int)=true
  ·have:=h _ (List.contains_iff_mem.1 hc)
   rw[has_nat _ hj]at this
   rw[hc];simpa using this
  ·simp only[Bool.not_eq_true]at hc
   rw[hc];rfl
theorem nds_nodup{L:Ly}{i:Nat}(he:checkE L=0)(hi:i<L.r.length):((nds (ro L i)).map (·.1)).Nodup:=by
 have hf:=check_form he (List.getElem_mem hi)
 rw[←ro_eq hi]at hf
 simp only[formedB,badB,Bool.and_eq_true,Bool.not_eq_true',Bool.or_eq_false_iff,Bool.not_eq_false',decide_eq_true_eq]at hf
 exact hf.1.2
theorem side_mem{l:List (Int×Bool)}(hn:(l.map (·.1)).Nodup){p:Int}{b:Bool}:(p,b)∈l↔sideO p l=some b:=by
 induction l with
 |nil=>simp[sideO]
 |cons z l ih=>
  obtain⟨zp,zb⟩:=z
  simp only[List.map_cons,List.nodup_cons]at hn
  have ih:=ih hn.2
  by_cases e:zp=p
  ·subst e
   have hs:sideO zp ((zp,zb)::l)=some zb:=by simp[sideO]
   rw[hs]
   constructor
   ·intro h
    rcases List.mem_cons.1 h with h|h
    ·cases h;rfl
    ·exact absurd (List.mem_map.2 ⟨_,h,rfl⟩) hn.1
   ·intro h;cases h;exact List.mem_cons_self
  ·have hs:sideO p ((zp,zb)::l)=sideO p l:=by
    have:(zp==p)=false:=by simp[e]
    simp[sideO,this]
   rw[hs,←ih]
   constructor
   ·intro h
    rcases List.mem_cons.1 h with h|h
    ·cases h;exact absurd rfl e
    ·exact h
   ·intro h;exact List.mem_cons_of_mem _ h
theorem poD_side{l:List (Int×Bool)}(hn:(l.map (·.1)).Nodup)(h0:∀z∈l,0≤z.1)(f:Nat→Bool)(p:Nat):poD l f p=match sideO (p:Int) l with|some b=>b|none=>f p:=by
 induction l generalizing f with
 |nil=>rfl
 |cons z l ih=>
  obtain⟨zp,zb⟩:=z
  simp only[List.map_cons,List.nodup_cons]at hn
  have hz:=h0 (zp,zb) List.mem_cons_self
  obtain⟨m,rfl⟩:∃m:Nat,zp=(m:Int):=⟨zp.toNat,by simp only at hz;omega⟩
  have e1:poD (((m:Int),zb)::l) f=poD l (fun p=>if p=m then zb else f p):=by
   unfold poD;simp
  rw[e1,ih hn.2 (fun z hz=>h0 z (List.mem_cons_of_mem _ hz))]
  by_cases e:p=m
  ·subst e
   have hs:sideO (p:Int) (((p:Int),zb)::l)=some zb:=by simp[sideO]
   have hno:sideO (p:Int) l=none:=by
    unfold sideO
    have:l.find? (fun x=>x.1==(p:Int))=none:=List.find?_eq_none.2 (fun y hy he=>hn.1 (List.mem_map.2 ⟨y,hy,by simpa using he⟩))
    rw[this];rfl
   rw[hs,hno];simp
  ·have hs:sideO (p:Int) (((m:Int),zb)::l)=sideO (p:Int) l:=by
    have:((m:Int)==(p:Int))=false:=by simp;omega
    simp[sideO,this]
   rw[hs]
   cases sideO (p:Int) l<;>simp[e]
theorem turn_side{L:Ly}{i:Nat}(he:checkE L=0)(hi:i<L.r.length)(s:Sta)(p:Nat):turnP L s i p=match sideO (p:Int) (nds (ro L i))with|some b=>(s.po p != b)|none=>false:=by
 have hn:=nds_nodup he hi
 have e1:nor L i p=decide (sideO (p:Int) (nds (ro L i))=some false):=by
  unfold nor ndP
  rw[Bool.eq_iff_iff,List.contains_iff_mem,decide_eq_true_eq]
  exact side_mem hn
 have e2:rev L i p=decide (sideO (p:Int) (nds (ro L i))=some true):=by
  unfold rev ndP
  rw[Bool.eq_iff_iff,List.contains_iff_mem,decide_eq_true_eq]
  exact side_mem hn
 unfold turnP
 rw[e1,e2]
 cases sideO (p:Int) (nds (ro L i))with
 |none=>simp
 |some b=>cases b<;>cases s.po p<;>rfl
theorem po_turn{L:Ly}{i:Nat}(he:checkE L=0)(hi:i<L.r.length)(s:Sta)(p:Nat):(s.po p ^^ turnP L s i p)=poD (nds (ro L i)) s.po p:=by
 have hg:=check_good he (List.getElem_mem hi)
 rw[←ro_eq hi]at hg
 rw[turn_side he hi,poD_side (nds_nodup he hi) (fun z hz=>(hg.nd z hz).1)]
 cases sideO (p:Int) (nds (ro L i))with
 |none=>simp
 |some b=>cases b<;>cases s.po p<;>rfl
theorem lie_none{L:Ly}(hp:L.p.length≤32)(oc f:Nat→Bool):(none64 fun j=>oc j&&lieU L f j)=(List.range L.p.length).all fun p=> !(f p&&hasB oc (L.p.getD p ([],0)).2):=by
 rw[Bool.eq_iff_iff,n64_iff,List.all_eq_true]
 unfold lieU anyN
 constructor
 ·intro h p hpm
  have hpl:=List.mem_range.1 hpm
  have h1:=none_one oc (L.p.getD p ([],0)).2
  cases hf:f p with
  |false=>rfl
  |true=>
   have:none64 (fun j=>oneP (L.p.getD p ([],0)).2 j&&oc j)=true:=n64_iff.2 (fun j hj=>by
    have hj2:=h j hj
    cases ho:oc j with
    |false=>simp
    |true=>
     rw[ho]at hj2
     simp only[Bool.true_and]at hj2
     rw[List.any_eq_false]at hj2
     have:=hj2 p hpm
     have h32:p<32:=by omega
     simp[hf,h32,lieP]at this
     simp[this])
   rw[this]at h1
   simp only[Bool.true_and]
   exact h1.symm
 ·intro h j hj
  cases ho:oc j with
  |false=>rfl
  |true=>
   simp only[Bool.true_and]
   rw[List.any_eq_false]
   intro p hpm
   have hpl:=List.mem_range.1 hpm
   have:=h p hpm
   cases hf:f p with
   |false=>simp
   |true=>
    rw[hf]at this
    simp only[Bool.true_and,Bool.not_eq_true']at this
    have h1:=none_one oc (L.p.getD p ([],0)).2
    rw[this]at h1
    have:=n64_iff.1 h1 j hj
    rw[ho]at this
    simp only[Bool.and_true]at this
    have h2:lieP L p j=false:=this
    simp[h2]
theorem set_eq{L:Ly}{x:Inp}{i:Nat}(he:checkE L=0)(hi:i<L.r.length)(s:Sta):setC L x.oc s i=setD L x s i:=by
 have hg:=check_good he (List.getElem_mem hi)
 rw[←ro_eq hi]at hg
 have hL:=may_lim (check_may he)
 have lr:=hL.r
 have lp:=hL.p
 have hn:=nds_nodup he hi
 unfold setC setD
 have e1:(none64 fun j=>s.lo j&&(oneP (i:Nat) j||tabP L i j))=(!s.lo i&&(List.range L.r.length).all (fun k=> !(s.lo k&&cf L i k))):=by
  rw[Bool.eq_iff_iff,n64_iff,Bool.and_eq_true,List.all_eq_true]
  constructor
  ·intro h
   have h0:s.lo i=false:=by
    have:=h i (by omega)
    simpa[oneP]using this
   refine⟨by simp[h0],fun k hk=>?_⟩
   have hkl:=List.mem_range.1 hk
   by_cases e:k=i
   ·subst e;simp[h0]
   ·have:=h k (by omega)
    have e2:¬((k:Int)=(i:Int)):=by omega
    cases hlo:s.lo k with
    |false=>rfl
    |true=>
     simp[oneP,e2,tabP,hkl,e,hlo]at this
     simp[this]
  ·rintro⟨h0,h⟩ j hj
   cases hlo:s.lo j with
   |false=>rfl
   |true=>
    have hji:¬j=i:=fun e=>by subst e;rw[hlo]at h0;cases h0
    have e2:¬((j:Int)=(i:Int)):=by omega
    by_cases hjl:j<L.r.length
    ·have:=h j (List.mem_range.2 hjl)
     rw[hlo]at this
     simp at this
     simp[oneP,e2,tabP,this]
    ·simp[oneP,e2,tabP,hjl]
 have e2:(none64 fun j=>x.oc j&&(trP (ro L i) j||lieU L (turnP L s i) j))=(frD x (ro L i)&&(nds (ro L i)).all fun z=> !((s.po z.1.toNat != z.2)&&hasB x.oc (L.p.getD z.1.toNat ([],0)).2)):=by
  have:(fun j=>x.oc j&&(trP (ro L i) j||lieU L (turnP L s i) j))=fun j=>(trP (ro L i) j&&x.oc j)||(x.oc j&&lieU L (turnP L s i) j):=by
   funext j;cases x.oc j<;>simp
  rw[this,n64_and,free_eq he hi,lie_none lp]
  congr 1
  rw[Bool.eq_iff_iff,List.all_eq_true,List.all_eq_true]
  constructor
  ·intro h z hz
   obtain⟨zp,zb⟩:=z
   obtain⟨h0,h1⟩:=hg.nd _ hz
   obtain⟨m,rfl⟩:∃m:Nat,zp=(m:Int):=⟨zp.toNat,by simp only at h0;omega⟩
   have hml:m<L.p.length:=by simp only at h1;omega
   have:=h m (List.mem_range.2 hml)
   rw[turn_side he hi,(side_mem hn).1 hz]at this
   exact this
  ·intro h p hp
   rw[turn_side he hi]
   cases hs:sideO (p:Int) (nds (ro L i))with
   |none=>rfl
   |some b=>exact h _ ((side_mem hn).2 hs)
 rw[e1,e2]
 cases s.lo i<;>cases frD x (ro L i)<;>cases(List.range L.r.length).all (fun k=> !(s.lo k&&cf L i k))<;>rfl
theorem oneP_nat(i j:Nat):oneP (i:Nat) j=decide (j=i):=by unfold oneP;simp only[Int.ofNat_inj]
theorem canc_eq{L:Ly}{i:Nat}(hi:i<64)(s:Sta):cancC s i=((s.lo i&& !s.us i)&& !s.ca i):=by
 unfold cancC
 have:(fun j=>((oneP (i:Nat) j&&s.lo j)&& !s.us j)&& !s.ca j)=fun j=>oneP (i:Nat) j&&((s.lo j&& !s.us j)&& !s.ca j):=by
  funext j;cases oneP (i:Nat) j<;>simp
 rw[this,none_one (fun j=>(s.lo j&& !s.us j)&& !s.ca j),has_nat _ hi,Bool.not_not]
theorem any_need(L:Ly)(s:Sta)(p:Nat):(anyR L s.lo (nor L) p||anyR L s.lo (rev L) p)=needD L s (p:Int):=by
 unfold anyR needD nor rev ndP
 rw[Bool.eq_iff_iff]
 simp only[Bool.or_eq_true,List.any_eq_true,Bool.and_eq_true,List.contains_iff_mem,beq_iff_eq]
 constructor
 ·rintro(⟨i,hi,h1,h2⟩|⟨i,hi,h1,h2⟩)
  ·exact⟨i,hi,_,h2,h1,rfl⟩
  ·exact⟨i,hi,_,h2,h1,rfl⟩
 ·rintro⟨i,hi,⟨zp,zb⟩,h2,h1,h3⟩
  simp only at h3
  subst h3
  cases zb
  ·exact .inl ⟨i,hi,h1,h2⟩
  ·exact .inr ⟨i,hi,h1,h2⟩
theorem move_eq{L:Ly}{x:Inp}{n:Int}(he:checkE L=0)(s:Sta):moveC L x.oc s n=((decide (0≤n)&&decide (n<(L.p.length:Nat)))&&(!hasB x.oc (L.p.getD n.toNat ([],0)).2 && !needD L s n)):=by
 have hL:=may_lim (check_may he)
 have lp:=hL.p
 unfold moveC
 by_cases h:0≤n∧n<(L.p.length:Nat)
 ·obtain⟨i,rfl⟩:∃i:Nat,n=(i:Int):=⟨n.toNat,by omega⟩
  have hi:i<L.p.length:=by omega
  have e0:none64 (fun j=>decide (j+32<64)&&oneP (i:Int) (j+32))=true:=n64_iff.2 (fun j hj=>by
   have:¬j+32=i:=by omega
   rw[oneP_nat];simp[this])
  have e1:none32 (fun j=>ptP L (i:Int) j&& !(anyR L s.lo (nor L) j||anyR L s.lo (rev L) j))=needD L s (i:Int):=by
   rw[Bool.eq_iff_iff,n32_iff]
   constructor
   ·intro h
    have:=h i (by omega)
    rw[any_need]at this
    have hp:ptP L (i:Int) i=true:=by unfold ptP;rw[oneP_nat];simp[lowP,hi]
    rw[hp]at this
    simpa using this
   ·intro h j hj
    by_cases e:j=i
    ·subst e;rw[any_need,h];simp
    ·have hp:ptP L (i:Int) j=false:=by unfold ptP;rw[oneP_nat];simp[e]
     rw[hp];rfl
  have e2:none64 (fun j=>lieU L (ptP L (i:Int)) j&&x.oc j)= !hasB x.oc (L.p.getD i ([],0)).2 :=by
   rw[none_comm,lie_none lp,Bool.eq_iff_iff,List.all_eq_true]
   constructor
   ·intro h
    have:=h i (List.mem_range.2 hi)
    have hp:ptP L (i:Int) i=true:=by unfold ptP;rw[oneP_nat];simp[lowP,hi]
    rw[hp]at this
    simpa using this
   ·intro h p hp
    by_cases e:p=i
    ·subst e;cases ptP L (p:Int) p<;>simp at h ⊢;exact h
    ·have hp:ptP L (i:Int) p=false:=by unfold ptP;rw[oneP_nat];simp[e]
     rw[hp];rfl
  have e3:Int.toNat (i:Int)=i:=by omega
  rw[e0,e1,e2,e3]
  have d1:decide ((0:Int)≤(i:Int))=true:=by simp
  have d2:decide ((i:Int)<((L.p.length:Nat):Int))=true:=by simp;omega
  rw[d1,d2]
  cases needD L s (i:Int)<;>cases hasB x.oc (L.p.getD i ([],0)).2 <;>rfl
 ·have e1:none32 (fun j=>ptP L n j&& !(anyR L s.lo (nor L) j||anyR L s.lo (rev L) j))=true:=n32_iff.2 (fun j hj=>by
   have hp:ptP L n j=false:=by
    unfold ptP oneP lowP
    by_cases e:(j:Int)=n
    ·have:¬(j:Int)<(L.p.length:Nat):=by omega
     simp[this]
    ·simp[e]
   rw[hp];rfl)
  have d:(decide (0≤n)&&decide (n<((L.p.length:Nat):Int)))=false:=by
   rw[Bool.eq_false_iff];intro hh;simp at hh;exact h hh
  rw[e1,d];simp
theorem com_eq{L:Ly}{x:Inp}(he:checkE L=0)(s:Sta)(kd n:Int):comB L x.oc s kd n=comD L x s kd n:=by
 have hL:=may_lim (check_may he)
 have lr:=hL.r
 have lp:=hL.p
 unfold comB comD okC
 by_cases k1:kd=1
 ·subst k1
  rw[if_pos rfl]
  by_cases h:0≤n∧n<L.r.length
  ·rw[if_pos h]
   have d:((decide ((1:Int)≤1)&&decide ((1:Int)≤3))&&(decide (0≤n)&&decide (n<if(1:Int)=3 then((L.p.length:Nat):Int)else((L.r.length:Nat):Int))))=true:=by simp[h]
   rw[if_pos d]
   have hi:n.toNat<L.r.length:=by omega
   rw[set_eq he hi]
   cases hs:setD L x s n.toNat with
   |false=>simp
   |true=>
    rw[if_pos rfl,if_pos ⟨rfl,rfl⟩]
    unfold setS
    congr 1
    ·funext j;rw[oneP_nat]
    ·funext p;exact po_turn he hi s p
  ·rw[if_neg h,if_neg]
   intro hd
   simp at hd
   exact h ⟨hd.1,hd.2⟩
 ·rw[if_neg k1]
  by_cases k2:kd=2
  ·subst k2
   rw[if_pos rfl]
   by_cases h:0≤n∧n<L.r.length
   ·rw[if_pos h]
    have d:((decide ((1:Int)≤2)&&decide ((2:Int)≤3))&&(decide (0≤n)&&decide (n<if(2:Int)=3 then((L.p.length:Nat):Int)else((L.r.length:Nat):Int))))=true:=by simp[h]
    have z1:¬((2:Int)=1∧setD L x s n.toNat=true):=fun h=>by cases h.1
    rw[if_pos d,if_neg z1]
    have hi:n.toNat<L.r.length:=by omega
    rw[canc_eq (L:=L) (by omega)]
    cases hs:((s.lo n.toNat&& !s.us n.toNat)&& !s.ca n.toNat)with
    |false=>simp
    |true=>
     rw[if_pos rfl,if_pos ⟨rfl,rfl⟩]
     unfold cancS ahP
     rw[none_one]
     congr 1
     ·funext j;rw[oneP_nat]
     ·rw[Bool.not_not]
   ·rw[if_neg h,if_neg]
    intro hd
    simp at hd
    exact h ⟨hd.1,hd.2⟩
  ·rw[if_neg k2]
   by_cases k3:kd=3
   ·subst k3
    rw[if_pos rfl,move_eq he]
    by_cases h:0≤n∧n<(L.p.length:Nat)
    ·have d:((decide ((1:Int)≤3)&&decide ((3:Int)≤3))&&(decide (0≤n)&&decide (n<if(3:Int)=3 then((L.p.length:Nat):Int)else((L.r.length:Nat):Int))))=true:=by simp[h]
     have d2:(decide (0≤n)&&decide (n<((L.p.length:Nat):Int)))=true:=by simp[h]
     have z1:¬((3:Int)=1∧setD L x s n.toNat=true):=fun h=>by cases h.1
     have z2:¬((3:Int)=2∧((s.lo n.toNat&& !s.us n.toNat)&& !s.ca n.toNat)=true):=fun h=>by cases h.1
     rw[if_pos d,if_neg z1,if_neg z2,d2,Bool.true_and]
     cases hs:(!hasB x.oc (L.p.getD n.toNat ([],0)).2 && !needD L s n)with
     |false=>simp
     |true=>
      rw[if_pos rfl,if_pos ⟨rfl,rfl⟩]
      unfold moveS
      congr 1
      funext j
      congr 1
      obtain⟨i,rfl⟩:∃i:Nat,n=(i:Int):=⟨n.toNat,by omega⟩
      have e3:Int.toNat (i:Int)=i:=by omega
      unfold ptP
      rw[oneP_nat,e3]
      by_cases e:j=i
      ·subst e;simp[lowP];omega
      ·simp[e]
    ·have d:(decide (0≤n)&&decide (n<((L.p.length:Nat):Int)))=false:=by
      rw[Bool.eq_false_iff];intro hh;simp at hh;exact h hh
     rw[d,if_neg (by simp),if_neg]
     intro hd
     simp at hd
     exact h ⟨hd.1,hd.2⟩
   ·rw[if_neg k3,if_neg]
    intro hd
    simp at hd
    omega
theorem cmd_eq{L:Ly}{x:Inp}(he:checkE L=0):∀(cs:List (Int×Int)) (s:Sta),cmdB L x.oc s cs=cmdD L x s cs
 |[],s=>rfl
 |c::cs,s=>by
  show cmdB L x.oc (comB L x.oc s c.1 c.2) cs=cmdD L x (comD L x s c.1 c.2) cs
  rw[com_eq he,cmd_eq he cs]
end Go.AM.Fd

namespace Go.AM.Fd
open Go.Proofs Go.AM.F
structure SI (L:Ly) (us:Nat→Bool) (s:Sta):Prop where
 u:s.us=us
 ul:∀i,us i=true→s.lo i=true
 cl:∀i,s.ca i=true→s.lo i=true
 ln:∀i,s.lo i=true→i<L.r.length
theorem si_tidy(L:Ly)(s:Sta):SI L (tidyS L s).us (tidyS L s):=by
 refine⟨rfl,fun i h=>?_,fun i h=>?_,fun i h=>?_⟩
 ·have h':(s.us i&&(s.lo i&&lowP L.r.length i))=true:=h
  show(s.lo i&&lowP L.r.length i)=true
  simp only[Bool.and_eq_true]at h' ⊢;exact h'.2
 ·have h':(s.ca i&&(s.lo i&&lowP L.r.length i))=true:=h
  show(s.lo i&&lowP L.r.length i)=true
  simp only[Bool.and_eq_true]at h' ⊢;exact h'.2
 ·have h':(s.lo i&&lowP L.r.length i)=true:=h
  simp only[Bool.and_eq_true,lowP,decide_eq_true_eq]at h'
  omega
theorem si_com{L:Ly}{x:Inp}{us:Nat→Bool}{s:Sta}(h:SI L us s)(kd n:Int):SI L us (comD L x s kd n):=by
 unfold comD
 split
 ·rename_i hok
  simp only[okC,Bool.and_eq_true,decide_eq_true_eq]at hok
  split
  ·rename_i hk
   have hn:n.toNat<L.r.length:=by
    have:=hok.2.2
    rw[hk.1,if_neg (by omega)]at this
    omega
   refine⟨h.u,fun i hi=>?_,fun i hi=>?_,fun i hi=>?_⟩
   ·show(s.lo i||decide (i=n.toNat))=true
    rw[h.ul i hi];rfl
   ·show(s.lo i||decide (i=n.toNat))=true
    rw[h.cl i hi];rfl
   ·have hi':(s.lo i||decide (i=n.toNat))=true:=hi
    simp only[Bool.or_eq_true,decide_eq_true_eq]at hi'
    rcases hi' with h1|h1
    ·exact h.ln i h1
    ·omega
  ·split
   ·rename_i hk
    simp only[Bool.and_eq_true]at hk
    refine⟨h.u,h.ul,fun i hi=>?_,h.ln⟩
    have hi':(s.ca i||decide (i=n.toNat))=true:=hi
    simp only[Bool.or_eq_true,decide_eq_true_eq]at hi'
    rcases hi' with h1|h1
    ·exact h.cl i h1
    ·rw[h1];exact hk.2.1.1
   ·split
    ·exact⟨h.u,h.ul,h.cl,h.ln⟩
    ·exact h
 ·exact h
theorem si_cmd{L:Ly}{x:Inp}{us:Nat→Bool}:∀{cs:List (Int×Int)} {s:Sta},SI L us s→SI L us (cmdD L x s cs)
 |[],s,h=>h
 |c::cs,s,h=>si_cmd (cs:=cs) (si_com h c.1 c.2)
def at_eq(s t:Sta)(j:Nat):Prop:=s.lo j=t.lo j∧s.us j=t.us j∧s.ca j=t.ca j∧s.ti j=t.ti j
theorem at_refl(s:Sta)(j:Nat):at_eq s s j:=⟨rfl,rfl,rfl,rfl⟩
theorem at_trans{s t u:Sta}{j:Nat}(h:at_eq s t j)(k:at_eq t u j):at_eq s u j:=⟨h.1.trans k.1,h.2.1.trans k.2.1,h.2.2.1.trans k.2.2.1,h.2.2.2.trans k.2.2.2⟩
theorem ro_po(L:Ly)(x:Inp)(us:Nat→Bool)(s:Sta)(i:Nat):(roD L x us s i).po=s.po:=by
 unfold roD relS;repeat' split
 all_goals rfl
theorem ro_other(L:Ly)(x:Inp)(us:Nat→Bool)(s:Sta){i j:Nat}(h:j≠i):at_eq (roD L x us s i) s j:=by
 unfold roD relS at_eq upd
 repeat' split
 all_goals simp[h]
theorem ro_here(L:Ly)(x:Inp)(us:Nat→Bool){s t:Sta}{i:Nat}(h:at_eq s t i):at_eq (roD L x us s i) (roD L x us t i) i:=by
 obtain⟨h1,h2,h3,h4⟩:=h
 unfold roD relS at_eq upd
 rw[h3,h4]
 repeat' split
 all_goals simp[h1,h2,h3,h4]
theorem ros_at(L:Ly)(x:Inp)(us:Nat→Bool)(s:Sta)(j:Nat):∀k,at_eq (rosD L x us s k) (if j<k∧s.lo j=true then roD L x us s j else s) j∧(rosD L x us s k).po=s.po
 |0=>⟨by rw[if_neg (by omega)];exact at_refl _ _,rfl⟩
 |k+1=>by
  obtain⟨ih,ihp⟩:=ros_at L x us s j k
  rw[rosD_s]
  by_cases e:j=k
  ·subst e
   rw[if_neg (by omega)]at ih
   have hl:=ih.1
   cases hlo:s.lo j with
   |false=>
    rw[hlo]at hl
    rw[if_neg (by rw[hl];simp),if_neg (by simp)]
    exact⟨ih,ihp⟩
   |true=>
    rw[hlo]at hl
    rw[if_pos hl,if_pos ⟨by omega,rfl⟩]
    exact⟨ro_here L x us ih,by rw[ro_po];exact ihp⟩
  ·have ec:(j<k+1∧s.lo j=true)=(j<k∧s.lo j=true):=by
    apply propext
    exact⟨fun h=>⟨by omega,h.2⟩,fun h=>⟨by omega,h.2⟩⟩
   simp only[ec]
   split
   ·exact⟨at_trans (ro_other L x us _ e) ih,by rw[ro_po];exact ihp⟩
   ·exact⟨ih,ihp⟩
theorem sta_ext{s t:Sta}(h:∀j,at_eq s t j)(hp:s.po=t.po):s=t:=by
 obtain⟨a,b,c,d,e⟩:=s
 obtain⟨a',b',c',d',e'⟩:=t
 simp only at hp
 subst hp
 have h1:a=a':=funext fun j=>(h j).1
 have h2:b=b':=funext fun j=>(h j).2.1
 have h3:c=c':=funext fun j=>(h j).2.2.1
 have h4:d=d':=funext fun j=>(h j).2.2.2
 subst h1 h2 h3 h4;rfl
theorem end_eq{L:Ly}{x:Inp}(he:checkE L=0){us:Nat→Bool}{s:Sta}(h:SI L us s):endS L x us s=rosD L x us s L.r.length:=by
 refine sta_ext (fun j=>?_) (by rw[(ros_at L x us s 0 L.r.length).2];rfl)
 have hr:=(ros_at L x us s j L.r.length).1
 obtain⟨r1,r2,r3,r4⟩:=hr
 unfold at_eq
 rw[r1,r2,r3,r4]
 clear r1 r2 r3 r4
 have hu:s.us j=us j:=by rw[h.u]
 show(s.lo j&& !relB L x us s j)=_∧((s.lo j&& !relB L x us s j)&&(us j||entB L x j))=_∧(s.ca j&& !relB L x us s j)=_∧(if relB L x us s j then 0 else if waitB L x us s j&& !decide (s.ti j=0)then s.ti j-1 else s.ti j)=_
 cases hlo:s.lo j with
 |false=>
  have hus:us j=false:=by
   cases hx:us j with
   |false=>rfl
   |true=>have:=h.ul j hx;rw[hlo]at this;cases this
  have hca:s.ca j=false:=by
   cases hx:s.ca j with
   |false=>rfl
   |true=>have:=h.cl j hx;rw[hlo]at this;cases this
  rw[if_neg (by simp)]
  have hw:waitB L x us s j=false:=by unfold waitB;rw[hca];rfl
  have hrel:relB L x us s j=false:=by unfold relB;rw[hus,hw];simp
  rw[hrel,hw,hca,hlo,hu,hus];simp
 |true=>
  have hj:=h.ln j hlo
  rw[if_pos ⟨hj,rfl⟩]
  have hfree:freeB L x j=frD x (ro L j):=by unfold freeB;rw[free_eq he hj];simp[hj]
  have hent:=ent_eq (x:=x) hj
  unfold relB waitB roD relS upd
  rw[hfree,hent]
  cases hus:us j<;>cases hen:hasB x.oc ((ro L j).path.getD 0 0)<;>cases hfr:frD x (ro L j)<;>cases hca:s.ca j<;>by_cases ht:s.ti j=0<;>
   (have ht':(0<s.ti j)=(¬s.ti j=0):=by apply propext;omega
    rw[hus]at hu
    simp[hlo,hu,hca,ht,ht'])
theorem step_eq{L:Ly}(he:checkE L=0)(s:Sta)(x:Inp)(cs:List (Int×Int)):stepB L s x cs=stepD L s x cs:=by
 unfold stepB stepD
 rw[cmd_eq he]
 exact end_eq he (si_cmd (si_tidy L s))
theorem pr_eq{L:Ly}{x:Inp}(he:checkE L=0)(s:Sta)(i:Nat):prB L x s i=(decide (i<L.r.length)&&proD L x s i):=by
 unfold prB proD freeB detB
 by_cases hi:i<L.r.length
 ·rw[free_eq he hi]
  have hg:=check_good he (List.getElem_mem hi)
  rw[←ro_eq hi]at hg
  have lp:=(may_lim (check_may he)).p
  have e:((none32 fun p=>nor L i p&& !sideN x p)&&(none32 fun p=>rev L i p&& !sideR x p))=(nds (ro L i)).all fun z=>if z.2 then sideR x z.1.toNat else sideN x z.1.toNat:=by
   rw[Bool.eq_iff_iff,Bool.and_eq_true,n32_iff,n32_iff,List.all_eq_true]
   constructor
   ·rintro⟨h1,h2⟩ ⟨zp,zb⟩ hz
    obtain⟨g0,g1⟩:=hg.nd _ hz
    obtain⟨m,rfl⟩:∃m:Nat,zp=(m:Int):=⟨zp.toNat,by simp only at g0;omega⟩
    have hm:m<32:=by simp only at g1;omega
    have hmt:(Int.toNat (m:Int))=m:=by omega
    simp only[hmt]
    cases zb with
    |false=>
     have hc:nor L i m=true:=List.contains_iff_mem.2 hz
     have:=h1 m hm
     rw[hc]at this
     simpa using this
    |true=>
     have hc:rev L i m=true:=List.contains_iff_mem.2 hz
     have:=h2 m hm
     rw[hc]at this
     simpa using this
   ·intro h
    refine⟨fun p hp=>?_,fun p hp=>?_⟩
    ·cases hc:nor L i p with
     |false=>rfl
     |true=>
      have:=h _ (List.contains_iff_mem.1 (show(nds (ro L i)).contains ((p:Int),false)=true from hc))
      have hmt:(Int.toNat (p:Int))=p:=by omega
      simp only[hmt,Bool.false_eq_true,if_false]at this
      rw[this];rfl
    ·cases hc:rev L i p with
     |false=>rfl
     |true=>
      have:=h _ (List.contains_iff_mem.1 (show(nds (ro L i)).contains ((p:Int),true)=true from hc))
      have hmt:(Int.toNat (p:Int))=p:=by omega
      simp only[hmt,if_true]at this
      rw[this];rfl
  rw[e]
  simp only[hi,decide_true,Bool.true_and]
  cases s.lo i<;>cases s.us i<;>cases s.ca i<;>cases frD x (ro L i)<;>simp
 ·simp[hi]
end Go.AM.Fd

set_option maxRecDepth 100000
set_option maxHeartbeats 0
namespace Go.AM.F
def zclM:TypeId→List Value
 |83=>[(.int .u8 0),(.int .i64 0)]
 |46=>[(.int .u64 0),(.int .u32 0),(.int .u32 0),(.slice none 0 0)]
 |144=>[(.int .i64 0),(.int .i64 0),(.pointer none),(.pointer none),(.pointer none),(.bool false)]
 |49=>[(.int .i64 0),(.int .i64 0),(.int .u64 0),(.int .u32 0),(.int .u32 0),(.slice none 0 0)]
 |_=>[]
def zvlM:TypeId→Value
 |49=>(.agg #[(.int .i64 0),(.int .i64 0),(.int .u64 0),(.int .u32 0),(.int .u32 0),(.slice none 0 0)])
 |_=>undef
def zklM:TypeId→List Nat
 |83=>[1,1]
 |_=>[]
def zrlM:Nat→TypeId→List Value
 |0,83=>[]
 |_,_=>[]
noncomputable def f36:AFunc:=by
 refine(fun(_:Cz zclM zvlM zklM zrlM Go.Proofs.Tryz.prog 0 [0,1,2,3,4,5,6,8,9,41,43,44,45,46,50,51,55,66] 36 ?a)=>?a) ?h
 case h=>
 intro zc zv zk zr hc hv hk hr
 conv=>lhs;cbv;try simp only[hc,hv,hk,hr,zclM,zvlM,zklM,zrlM]
theorem f36_ok:compF Go.Proofs.Tryz.prog 0 [0,1,2,3,4,5,6,8,9,41,43,44,45,46,50,51,55,66] 36=some f36:=by kernel_rfl
theorem f36_n:argsOK Go.Proofs.Tryz.prog 36 2=true:=by kernel_rfl
noncomputable def f69:AFunc:=by
 refine(fun(_:Cz zclM zvlM zklM zrlM Go.Proofs.Tryz.prog 0 [0,1,4] 69 ?a)=>?a) ?h
 case h=>
 intro zc zv zk zr hc hv hk hr
 conv=>lhs;cbv;try simp only[hc,hv,hk,hr,zclM,zvlM,zklM,zrlM]
theorem f69_ok:compF Go.Proofs.Tryz.prog 0 [0,1,4] 69=some f69:=by kernel_rfl
theorem f69_n:argsOK Go.Proofs.Tryz.prog 69 2=true:=by kernel_rfl
noncomputable def f70:AFunc:=by
 refine(fun(_:Cz zclM zvlM zklM zrlM Go.Proofs.Tryz.prog 0 [0,1,4] 70 ?a)=>?a) ?h
 case h=>
 intro zc zv zk zr hc hv hk hr
 conv=>lhs;cbv;try simp only[hc,hv,hk,hr,zclM,zvlM,zklM,zrlM]
theorem f70_ok:compF Go.Proofs.Tryz.prog 0 [0,1,4] 70=some f70:=by kernel_rfl
theorem f70_n:argsOK Go.Proofs.Tryz.prog 70 2=true:=by kernel_rfl
noncomputable def f73:AFunc:=by
 refine(fun(_:Cz zclM zvlM zklM zrlM Go.Proofs.Tryz.prog 0 [0,1,2,3,4] 73 ?a)=>?a) ?h
 case h=>
 intro zc zv zk zr hc hv hk hr
 conv=>lhs;cbv;try simp only[hc,hv,hk,hr,zclM,zvlM,zklM,zrlM]
theorem f73_ok:compF Go.Proofs.Tryz.prog 0 [0,1,2,3,4] 73=some f73:=by kernel_rfl
theorem f73_n:argsOK Go.Proofs.Tryz.prog 73 2=true:=by kernel_rfl
noncomputable def f74:AFunc:=by
 refine(fun(_:Cz zclM zvlM zklM zrlM Go.Proofs.Tryz.prog 0 [0,1,2,3,4,5,26] 74 ?a)=>?a) ?h
 case h=>
 intro zc zv zk zr hc hv hk hr
 conv=>lhs;cbv;try simp only[hc,hv,hk,hr,zclM,zvlM,zklM,zrlM]
theorem f74_ok:compF Go.Proofs.Tryz.prog 0 [0,1,2,3,4,5,26] 74=some f74:=by kernel_rfl
theorem f74_n:argsOK Go.Proofs.Tryz.prog 74 2=true:=by kernel_rfl
noncomputable def f108:AFunc:=by
 refine(fun(_:Cz zclM zvlM zklM zrlM Go.Proofs.Tryz.prog 0 [0,2,4] 108 ?a)=>?a) ?h
 case h=>
 intro zc zv zk zr hc hv hk hr
 conv=>lhs;cbv;try simp only[hc,hv,hk,hr,zclM,zvlM,zklM,zrlM]
theorem f108_ok:compF Go.Proofs.Tryz.prog 0 [0,2,4] 108=some f108:=by kernel_rfl
theorem f108_n:argsOK Go.Proofs.Tryz.prog 108 1=true:=by kernel_rfl
noncomputable def f109:AFunc:=by
 refine(fun(_:Cz zclM zvlM zklM zrlM Go.Proofs.Tryz.prog 0 [0,1,4,5,6,11,12,13,14,15,24] 109 ?a)=>?a) ?h
 case h=>
 intro zc zv zk zr hc hv hk hr
 conv=>lhs;cbv;try simp only[hc,hv,hk,hr,zclM,zvlM,zklM,zrlM]
theorem f109_ok:compF Go.Proofs.Tryz.prog 0 [0,1,4,5,6,11,12,13,14,15,24] 109=some f109:=by kernel_rfl
theorem f109_n:argsOK Go.Proofs.Tryz.prog 109 2=true:=by kernel_rfl
noncomputable def f29:AFunc:=by
 refine(fun(_:Cz zclM zvlM zklM zrlM Go.Proofs.Tryz.prog 0 [0,2,8] 29 ?a)=>?a) ?h
 case h=>
 intro zc zv zk zr hc hv hk hr
 conv=>lhs;cbv;try simp only[hc,hv,hk,hr,zclM,zvlM,zklM,zrlM]
theorem f29_ok:compF Go.Proofs.Tryz.prog 0 [0,2,8] 29=some f29:=by kernel_rfl
theorem f29_n:argsOK Go.Proofs.Tryz.prog 29 1=true:=by kernel_rfl
noncomputable def f37:AFunc:=by
 refine(fun(_:Cz zclM zvlM zklM zrlM Go.Proofs.Tryz.prog 0 [0,1,2,5,6,7,8,9,10,14,57,66] 37 ?a)=>?a) ?h
 case h=>
 intro zc zv zk zr hc hv hk hr
 conv=>lhs;cbv;try simp only[hc,hv,hk,hr,zclM,zvlM,zklM,zrlM]
theorem f37_ok:compF Go.Proofs.Tryz.prog 0 [0,1,2,5,6,7,8,9,10,14,57,66] 37=some f37:=by kernel_rfl
theorem f37_n:argsOK Go.Proofs.Tryz.prog 37 3=true:=by kernel_rfl
noncomputable def f38:AFunc:=by
 refine(fun(_:Cz zclM zvlM zklM zrlM Go.Proofs.Tryz.prog 0 [0,1,4,5,6,7,9,26,28,36,60,72,73,84] 38 ?a)=>?a) ?h
 case h=>
 intro zc zv zk zr hc hv hk hr
 conv=>lhs;cbv;try simp only[hc,hv,hk,hr,zclM,zvlM,zklM,zrlM]
theorem f38_ok:compF Go.Proofs.Tryz.prog 0 [0,1,4,5,6,7,9,26,28,36,60,72,73,84] 38=some f38:=by kernel_rfl
theorem f38_n:argsOK Go.Proofs.Tryz.prog 38 2=true:=by kernel_rfl
noncomputable def f72:AFunc:=by
 refine(fun(_:Cz zclM zvlM zklM zrlM Go.Proofs.Tryz.prog 0 [0,1,3] 72 ?a)=>?a) ?h
 case h=>
 intro zc zv zk zr hc hv hk hr
 conv=>lhs;cbv;try simp only[hc,hv,hk,hr,zclM,zvlM,zklM,zrlM]
theorem f72_ok:compF Go.Proofs.Tryz.prog 0 [0,1,3] 72=some f72:=by kernel_rfl
theorem f72_n:argsOK Go.Proofs.Tryz.prog 72 2=true:=by kernel_rfl
noncomputable def f39:AFunc:=by
 refine(fun(_:Cz zclM zvlM zklM zrlM Go.Proofs.Tryz.prog 0 [0,2,3,25] 39 ?a)=>?a) ?h
 case h=>
 intro zc zv zk zr hc hv hk hr
 conv=>lhs;cbv;try simp only[hc,hv,hk,hr,zclM,zvlM,zklM,zrlM]
theorem f39_ok:compF Go.Proofs.Tryz.prog 0 [0,2,3,25] 39=some f39:=by kernel_rfl
theorem f39_n:argsOK Go.Proofs.Tryz.prog 39 1=true:=by kernel_rfl
noncomputable def f40:AFunc:=by
 refine(fun(_:Cz zclM zvlM zklM zrlM Go.Proofs.Tryz.prog 0 [0,2,4] 40 ?a)=>?a) ?h
 case h=>
 intro zc zv zk zr hc hv hk hr
 conv=>lhs;cbv;try simp only[hc,hv,hk,hr,zclM,zvlM,zklM,zrlM]
theorem f40_ok:compF Go.Proofs.Tryz.prog 0 [0,2,4] 40=some f40:=by kernel_rfl
theorem f40_n:argsOK Go.Proofs.Tryz.prog 40 1=true:=by kernel_rfl
noncomputable def f71:AFunc:=by
 refine(fun(_:Cz zclM zvlM zklM zrlM Go.Proofs.Tryz.prog 0 [0,1,2] 71 ?a)=>?a) ?h
 case h=>
 intro zc zv zk zr hc hv hk hr
 conv=>lhs;cbv;try simp only[hc,hv,hk,hr,zclM,zvlM,zklM,zrlM]
theorem f71_ok:compF Go.Proofs.Tryz.prog 0 [0,1,2] 71=some f71:=by kernel_rfl
theorem f71_n:argsOK Go.Proofs.Tryz.prog 71 1=true:=by kernel_rfl
end Go.AM.F

set_option maxRecDepth 100000
set_option maxHeartbeats 0
namespace Go.AM.F
def Z79N:List Value:=[(.int .i64 0),(.slice none 0 0),(.slice none 0 0),(.slice none 0 0),(.slice none 0 0),.nilIface,(.int .u64 0),(.int .u64 0),(.int .u64 0)]++List.replicate 64 (.int .u8 0)++[(.int .u32 0),(.int .i64 0),(.int .i64 0),(.pointer none),(.bool false),(.pointer none)]
def Z68N:List Value:=[(.int .u64 0),(.int .u64 0),(.int .u64 0)]++List.replicate 64 (.int .u8 0)++[(.int .u32 0)]
def O68N:List Nat:=List.replicate 68 1
def zclN:TypeId→List Value
 |9=>[(.string ByteArray.empty)]
 |89=>[(.string ByteArray.empty),(.int .i64 0)]
 |87=>[(.string ByteArray.empty),(.int .i64 0),(.slice none 0 0),(.slice none 0 0),(.slice none 0 0),(.slice none 0 0)]
 |27=>[(.slice none 0 0),(.slice none 0 0),(.slice none 0 0),(.slice none 0 0)]
 |99=>Z79N
 |49=>[(.int .i64 0),(.int .i64 0),(.int .u64 0),(.int .u32 0),(.int .u32 0),(.slice none 0 0)]
 |43=>Z68N
 |56=>[(.int .i64 0),(.int .i64 0),(.int .u64 0),(.int .u32 0)]
 |46=>[(.int .u64 0),(.int .u32 0),(.int .u32 0),(.slice none 0 0)]
 |54=>[(.int .u64 0),(.int .u32 0)]
 |83=>[(.int .u8 0),(.int .i64 0)]
 |_=>[]
def zvlN:TypeId→Value
 |49=>(.agg #[(.int .i64 0),(.int .i64 0),(.int .u64 0),(.int .u32 0),(.int .u32 0),(.slice none 0 0)])
 |_=>undef
def zklN:TypeId→List Nat
 |43=>O68N
 |56=>[1,1,1,1]
 |_=>[]
def zrlN:Nat→TypeId→List Value
 |1,83=>[(.int .u8 0),(.int .i64 0)]
 |_,_=>[]
noncomputable def f9:AFunc:=by
 refine(fun(_:Cz zclN zvlN zklN zrlN Go.Proofs.Tryz.prog 0 [0,1,3,4,5,6,7,8,14,22] 9 ?a)=>?a) ?h
 case h=>
 intro zc zv zk zr hc hv hk hr
 conv=>lhs;cbv;try simp only[hc,hv,hk,hr,zclN,zvlN,zklN,zrlN]
theorem f9_ok:compF Go.Proofs.Tryz.prog 0 [0,1,3,4,5,6,7,8,14,22] 9=some f9:=by kernel_rfl
theorem f9_n:argsOK Go.Proofs.Tryz.prog 9 2=true:=by kernel_rfl
noncomputable def f28:AFunc:=by
 refine(fun(_:Cz zclN zvlN zklN zrlN Go.Proofs.Tryz.prog 0 [0,1,3,4,5,6,7,8,9,11] 28 ?a)=>?a) ?h
 case h=>
 intro zc zv zk zr hc hv hk hr
 conv=>lhs;cbv;try simp only[hc,hv,hk,hr,zclN,zvlN,zklN,zrlN]
theorem f28_ok:compF Go.Proofs.Tryz.prog 0 [0,1,3,4,5,6,7,8,9,11] 28=some f28:=by kernel_rfl
theorem f28_n:argsOK Go.Proofs.Tryz.prog 28 2=true:=by kernel_rfl
noncomputable def f34:AFunc:=by
 refine(fun(_:Cz zclN zvlN zklN zrlN Go.Proofs.Tryz.prog 0 [0,2] 34 ?a)=>?a) ?h
 case h=>
 intro zc zv zk zr hc hv hk hr
 conv=>lhs;cbv;try simp only[hc,hv,hk,hr,zclN,zvlN,zklN,zrlN]
theorem f34_ok:compF Go.Proofs.Tryz.prog 0 [0,2] 34=some f34:=by kernel_rfl
theorem f34_n:argsOK Go.Proofs.Tryz.prog 34 1=true:=by kernel_rfl
noncomputable def f11:AFunc:=by
 refine(fun(_:Cz zclN zvlN zklN zrlN Go.Proofs.Tryz.prog 0 [0,1,2,3,5,8,9,12] 11 ?a)=>?a) ?h
 case h=>
 intro zc zv zk zr hc hv hk hr
 conv=>lhs;cbv;try simp only[hc,hv,hk,hr,zclN,zvlN,zklN,zrlN]
theorem f11_ok:compF Go.Proofs.Tryz.prog 0 [0,1,2,3,5,8,9,12] 11=some f11:=by kernel_rfl
theorem f11_n:argsOK Go.Proofs.Tryz.prog 11 4=true:=by kernel_rfl
noncomputable def f13:AFunc:=by
 refine(fun(_:Cz zclN zvlN zklN zrlN Go.Proofs.Tryz.prog 0 [0,1,2,5,6,7,8,9,10,14,46] 13 ?a)=>?a) ?h
 case h=>
 intro zc zv zk zr hc hv hk hr
 conv=>lhs;cbv;try simp only[hc,hv,hk,hr,zclN,zvlN,zklN,zrlN]
theorem f13_ok:compF Go.Proofs.Tryz.prog 0 [0,1,2,5,6,7,8,9,10,14,46] 13=some f13:=by kernel_rfl
theorem f13_n:argsOK Go.Proofs.Tryz.prog 13 3=true:=by kernel_rfl
noncomputable def f14:AFunc:=by
 refine(fun(_:Cz zclN zvlN zklN zrlN Go.Proofs.Tryz.prog 0 [0,1,4,5,6,8,24] 14 ?a)=>?a) ?h
 case h=>
 intro zc zv zk zr hc hv hk hr
 conv=>lhs;cbv;try simp only[hc,hv,hk,hr,zclN,zvlN,zklN,zrlN]
theorem f14_ok:compF Go.Proofs.Tryz.prog 0 [0,1,4,5,6,8,24] 14=some f14:=by kernel_rfl
theorem f14_n:argsOK Go.Proofs.Tryz.prog 14 2=true:=by kernel_rfl
noncomputable def f15:AFunc:=by
 refine(fun(_:Cz zclN zvlN zklN zrlN Go.Proofs.Tryz.prog 0 [0,2,3,4,5,6,7,8,10,28] 15 ?a)=>?a) ?h
 case h=>
 intro zc zv zk zr hc hv hk hr
 conv=>lhs;cbv;try simp only[hc,hv,hk,hr,zclN,zvlN,zklN,zrlN]
theorem f15_ok:compF Go.Proofs.Tryz.prog 0 [0,2,3,4,5,6,7,8,10,28] 15=some f15:=by kernel_rfl
theorem f15_n:argsOK Go.Proofs.Tryz.prog 15 1=true:=by kernel_rfl
noncomputable def f17:AFunc:=by
 refine(fun(_:Cz zclN zvlN zklN zrlN Go.Proofs.Tryz.prog 0 [0,2,3,6] 17 ?a)=>?a) ?h
 case h=>
 intro zc zv zk zr hc hv hk hr
 conv=>lhs;cbv;try simp only[hc,hv,hk,hr,zclN,zvlN,zklN,zrlN]
theorem f17_ok:compF Go.Proofs.Tryz.prog 0 [0,2,3,6] 17=some f17:=by kernel_rfl
theorem f17_n:argsOK Go.Proofs.Tryz.prog 17 1=true:=by kernel_rfl
noncomputable def f18:AFunc:=by
 refine(fun(_:Cz zclN zvlN zklN zrlN Go.Proofs.Tryz.prog 0 [0,2,4] 18 ?a)=>?a) ?h
 case h=>
 intro zc zv zk zr hc hv hk hr
 conv=>lhs;cbv;try simp only[hc,hv,hk,hr,zclN,zvlN,zklN,zrlN]
theorem f18_ok:compF Go.Proofs.Tryz.prog 0 [0,2,4] 18=some f18:=by kernel_rfl
theorem f18_n:argsOK Go.Proofs.Tryz.prog 18 1=true:=by kernel_rfl
noncomputable def f8:AFunc:=by
 refine(fun(_:Cz zclN zvlN zklN zrlN Go.Proofs.Tryz.prog 0 [0,1,2,3,4,5,8,9,10,12,14,15,16,17,19,20,50] 8 ?a)=>?a) ?h
 case h=>
 intro zc zv zk zr hc hv hk hr
 conv=>lhs;cbv;try simp only[hc,hv,hk,hr,zclN,zvlN,zklN,zrlN]
theorem f8_ok:compF Go.Proofs.Tryz.prog 0 [0,1,2,3,4,5,8,9,10,12,14,15,16,17,19,20,50] 8=some f8:=by kernel_rfl
theorem f8_n:argsOK Go.Proofs.Tryz.prog 8 0=true:=by kernel_rfl
end Go.AM.F

set_option maxRecDepth 8000
namespace Go.AM.Fd
open Nat (reduceAdd reduceEqDiff reduceLT reduceLeDiff reduceMul reduceSub)
open Go.Proofs Go.AM.F
theorem s_shr1(f:Nat→Bool):binA .shr (S64 f) (.int .u64 1)=some (S64 fun i=>decide (i+1<64)&&f (i+1)):=by
 have h:=s_shr f 1
 unfold S64 at h ⊢
 rw[b_shr .u64 _ ((1:Nat):Int) .i64 (by omega)]at h
 rw[b_shr .u64 _ 1 .u64 (by omega)]
 exact h
theorem p_shr1(f:Nat→Bool):binA .shr (S32 f) (.int .u64 1)=some (S32 fun i=>decide (i+1<32)&&f (i+1)):=by
 have h:=p_shr f 1
 unfold S32 at h ⊢
 rw[b_shr .u32 _ ((1:Nat):Int) .i64 (by omega)]at h
 rw[b_shr .u32 _ 1 .u64 (by omega)]
 exact h
theorem t69{H:AHeap}(f:Nat→Bool){n:Nat}(hn:n≤64):∃w H',ARun Tryz.prog 0 69 [S64 f,.int .i64 (n:Nat)] H w H'∧w=.bool (win64 f n)∧H'=H:=by
 refine walk2 f69_ok f69_n ?_
 intro Q hq1 hq2
 have hz:n=0→none64 f=win64 f n:=fun e=>by unfold win64;subst e;congr 1;funext i;simp
 by_cases h0:(0:Int)<(n:Int)
 ·have hw:IntKind.i64.wrap ((n:Int)-1)=((n-1:Nat):Int):=by rw[wrap_i64 (by omega) (by omega)];omega
  have e:(none64 fun i=>decide (i+1<64)&&(decide (i+1+(n-1)<64)&&f (i+1+(n-1))))=win64 f n:=by
   unfold win64
   rw[Bool.eq_iff_iff,n64_iff,n64_iff]
   constructor
   ·intro h j hj
    by_cases hjn:j<n
    ·simp[hjn]
    ·have:=h (j-n) (by omega)
     have e1:j-n+1+(n-1)=j:=by omega
     have e2:j-n+1<64:=by omega
     rw[e1]at this
     simp[e2,hj]at this
     simp[this]
   ·intro h i hi
    by_cases h1:i+1+(n-1)<64
    ·have:=h (i+1+(n-1)) h1
     have e1:¬i+1+(n-1)<n:=by omega
     simp[e1]at this
     simp[this]
    ·simp[h1]
  cases hA:win64 f n with
  |true=>
   rw[hA]at e
   simp(disch:=first|assumption|omega)only[f69,W_block,P3,seval,initFr,clsA,h0,hw,s_shr,s_shr1,s_eq0,e]
   exact hq2 _ _ ⟨.bool _,rfl,by rw[hA],rfl⟩
  |false=>
   rw[hA]at e
   have hf:none64 f=false:=by
    unfold win64 at hA
    rw[n64_not]at hA ⊢
    obtain⟨i,hi,h⟩:=hA
    exact⟨i,hi,by simp at h;exact h.1⟩
   simp(disch:=first|assumption|omega)only[f69,W_block,P3,seval,initFr,clsA,h0,hw,s_shr,s_shr1,s_eq0,e,hf]
   exact hq2 _ _ ⟨.bool _,rfl,by rw[hA],rfl⟩
 ·have hn0:n=0:=by omega
  simp(disch:=first|assumption|omega)only[f69,W_block,P3,seval,initFr,clsA,h0,s_eq0]
  exact hq2 _ _ ⟨.bool _,rfl,by rw[hz hn0],rfl⟩
theorem t70{H:AHeap}(f:Nat→Bool){n:Nat}(hn:n≤32):∃w H',ARun Tryz.prog 0 70 [S32 f,.int .i64 (n:Nat)] H w H'∧w=.bool (win32 f n)∧H'=H:=by
 refine walk2 f70_ok f70_n ?_
 intro Q hq1 hq2
 have hz:n=0→none32 f=win32 f n:=fun e=>by unfold win32;subst e;congr 1;funext i;simp
 by_cases h0:(0:Int)<(n:Int)
 ·have hw:IntKind.i64.wrap ((n:Int)-1)=((n-1:Nat):Int):=by rw[wrap_i64 (by omega) (by omega)];omega
  have e:(none32 fun i=>decide (i+1<32)&&(decide (i+1+(n-1)<32)&&f (i+1+(n-1))))=win32 f n:=by
   unfold win32
   rw[Bool.eq_iff_iff,n32_iff,n32_iff]
   constructor
   ·intro h j hj
    by_cases hjn:j<n
    ·simp[hjn]
    ·have:=h (j-n) (by omega)
     have e1:j-n+1+(n-1)=j:=by omega
     have e2:j-n+1<32:=by omega
     rw[e1]at this
     simp[e2,hj]at this
     simp[this]
   ·intro h i hi
    by_cases h1:i+1+(n-1)<32
    ·have:=h (i+1+(n-1)) h1
     have e1:¬i+1+(n-1)<n:=by omega
     simp[e1]at this
     simp[this]
    ·simp[h1]
  cases hA:win32 f n with
  |true=>
   rw[hA]at e
   simp(disch:=first|assumption|omega)only[f70,W_block,P3,seval,initFr,clsA,h0,hw,p_shr,p_shr1,p_eq0,e]
   exact hq2 _ _ ⟨.bool _,rfl,by rw[hA],rfl⟩
  |false=>
   rw[hA]at e
   have hf:none32 f=false:=by
    unfold win32 at hA
    rw[n32_not]at hA ⊢
    obtain⟨i,hi,h⟩:=hA
    exact⟨i,hi,by simp at h;exact h.1⟩
   simp(disch:=first|assumption|omega)only[f70,W_block,P3,seval,initFr,clsA,h0,hw,p_shr,p_shr1,p_eq0,e,hf]
   exact hq2 _ _ ⟨.bool _,rfl,by rw[hA],rfl⟩
 ·have hn0:n=0:=by omega
  simp(disch:=first|assumption|omega)only[f70,W_block,P3,seval,initFr,clsA,h0,p_eq0]
  exact hq2 _ _ ⟨.bool _,rfl,by rw[hz hn0],rfl⟩
end Go.AM.Fd

set_option maxRecDepth 8000
namespace Go.AM.Fd
open Nat (reduceAdd reduceEqDiff reduceLT reduceLeDiff reduceMul reduceSub)
open Go.Proofs Go.AM.F
structure LLen (u:V4) (ns np nr:Nat):Prop where
 s:isS u.s=true∧lenS u.s=ns
 p:isS u.p=true∧lenS u.p=np
 g:isS u.g=true
 r:isS u.r=true∧lenS u.r=nr
theorem isS_one{v:Value}(h:isS v=true):v.oneCell'=true:=by
 cases v with
 |slice a n k=>rfl
 |_=>cases h
set_option maxHeartbeats 4000000 in
theorem t36{H:AHeap}{u:V4}{ns np nr:Nat}{x:Inp}{cv:Value}{cs:List (Int×Int)}(h:LLen u ns np nr)(hc:CL H cv cs)(hcl:cs.length≤1000000):
 ∃w H',ARun Tryz.prog 0 36 [.agg u.l.toArray,.agg (inl x cv).toArray] H w H'∧w=.bool (inR ns np nr x cs)∧H'=H:=by
 refine gcb ?_
 refine walk2 f36_ok f36_n ?_
 intro Q hq1 hq2
 obtain⟨⟨is,ls⟩,⟨ip,lp⟩,ig,⟨ir,lr⟩⟩:=h
 have os:=isS_one is
 have op:=isS_one ip
 have og:=isS_one ig
 have or:=isS_one ir
 have isc:=Sl.is hc
 have onec:=Sl.one hc
 have clen:=hc.len
 have hul:u.l=[u.s,u.p,u.g,u.r]:=rfl
 have hinl:inl x cv=[S64 x.oc,S32 x.nr,S32 x.rv,cv]:=rfl
 obtain⟨K0,hK0⟩:∃X,X=(H.alloc (.cells true false 4 [u.s,u.p,u.g,u.r] 27)).alloc (.cells true false 4 (inl x cv) 46):=⟨_,rfl⟩
 have k0:Keeps H K0:=by rw[hK0];exact((Keeps.refl H).alloc _).alloc _
 have gl0:K0.get H.n=some (.cells true false 4 [u.s,u.p,u.g,u.r] 27):=by rw[hK0];exact((Keeps.refl _).alloc _).at_ (AHeap.get_alloc_new H _)
 have gi0:K0.get (H.n+1)=some (.cells true false 4 (inl x cv) 46):=by rw[hK0];exact AHeap.get_alloc_new (H.alloc _) _
 rw[hinl]at hK0 gi0
 have l0:=AHeap.get_lt gl0
 have l1:=AHeap.get_lt gi0
 have m1:min ((np:Nat):Int) 32=((min np 32:Nat):Int):=by omega
 have m2:min ((nr:Nat):Int) 64=((min nr 64:Nat):Int):=by omega
 have m3:min ((ns:Nat):Int) 64=((min ns 64:Nat):Int):=by omega
 have hr:inR ns np nr x cs=((win64 x.oc (min ns 64)&&win32 (fun p=>x.nr p||x.rv p) (min np 32))&&(decide (cs.length≤8)&&cs.all fun c=>inN (min np 32) (min nr 64) c.1 c.2)):=rfl
 have no:∀{fr:List Value} {K:AHeap},Keeps H K→inR ns np nr x cs=false→resO f36.res fr K=some (.bool false)→Q .ret fr K:=fun k e hr'=>hq2 _ _ ⟨_,hr',by rw[e],k⟩
 rw[hul,hinl]
 simp(disch:=first|assumption|omega|(simp only[LN]<;>omega)|(simp(disch:=first|assumption|omega|(simp only[LN]<;>omega))only[row_alloc,row_set];assumption))only[f36,W_block,P3,seval,initFr,clsA,os,op,og,or,onec,o_s64,o_s32,one_s64,one_s32,is,ip,ir,ls,lp,lr,a_mmn,m1,m2,m3]
 simp only[←hK0]
 refine callQ (t69 x.oc (by omega)) ?_
 cases h1:win64 x.oc (min ns 64)with
 |false=>
  rw[h1]at hr
  simp(disch:=first|assumption|omega)only[W_block,P3,seval,initFr,clsA]
  exact no k0 (by rw[hr];rfl) rfl
 |true=>
 rw[h1]at hr
 simp(disch:=first|assumption|omega)only[W_block,P3,seval,initFr,clsA,gi0,p_or]
 refine callQ (t70 _ (by omega)) ?_
 cases h2:win32 (fun p=>x.nr p||x.rv p) (min np 32)with
 |false=>
  rw[h2]at hr
  simp(disch:=first|assumption|omega)only[W_block,P3,seval,initFr,clsA]
  exact no k0 (by rw[hr];rfl) rfl
 |true=>
 rw[h2]at hr
 by_cases h3:(8:Int)<((cs.length:Nat):Int)
 ·have e3:decide (cs.length≤8)=false:=by rw[decide_eq_false_iff_not];omega
  rw[e3]at hr
  simp(disch:=first|assumption|omega)only[W_block,P3,seval,initFr,clsA,gi0,isc,clen,h3]
  exact no k0 (by rw[hr];rfl) rfl
 have e3:decide (cs.length≤8)=true:=by rw[decide_eq_true_eq];omega
 rw[e3]at hr
 have hcs:inR ns np nr x cs=cs.all fun c=>inN (min np 32) (min nr 64) c.1 c.2:=hr
 simp(disch:=first|assumption|omega)only[P3,seval,initFr,clsA,gi0,isc,clen,h3]
 rw[W_block]
 refine W_loop2 (fun q fr K=>∃i x7 x8 x13 x14 x15 x16 x17,fr=[.agg #[u.s,u.p,u.g,u.r],.agg #[S64 x.oc,S32 x.nr,S32 x.rv,cv],ptr H.n 0,ptr (H.n+1) 0,.bool false,.int .i64 ((min np 32:Nat):Int),.int .i64 ((min nr 64:Nat):Int),x7,x8,.bool false,cv,.int .i64 ((cs.length:Nat):Int),.int .i64 ((i:Nat):Int),x13,x14,x15,x16,x17]∧
  Keeps H K∧(cs.take i).all (fun c=>inN (min np 32) (min nr 64) c.1 c.2)=true∧i≤cs.length∧q=cs.length-i) cs.length
  ⟨0,_,_,_,_,_,_,_,rfl,k0,rfl,by omega,rfl⟩ ?_
 rintro Q' q fr K ⟨i,x7,x8,x13,x14,x15,x16,x17,rfl,kK,hall,hi,rfl⟩ hn' hx' hret
 by_cases hlt:i<cs.length
 ·obtain⟨na,ra⟩:=(hc.keeps kK).at_ hlt
  have e0:(0:Int)≤(i:Int):=by omega
  have e1:(i:Int)<((cs.length:Nat):Int):=by omega
  have hw:IntKind.i64.wrap ((i:Int)+1)=((i+1:Nat):Int):=by rw[wrap_i64 (by omega) (by omega)];simp
  have htk:cs.take (i+1)=cs.take i++[cs.getD i (0,0)]:=by rw[List.take_add_one,List.getElem?_eq_getElem hlt,List.getD_eq_getElem?_getD,List.getElem?_eq_getElem hlt];rfl
  have hmem:cs.getD i (0,0)∈cs:=by rw[List.getD_eq_getElem?_getD,List.getElem?_eq_getElem hlt];exact List.getElem_mem hlt
  generalize cs.getD i (0,0)=c at*
  obtain⟨kd,n⟩:=c
  have go:∀{fr:List Value} {K':AHeap},Keeps K K'→inN (min np 32) (min nr 64) kd n=true→(∃x7 x8 x13 x14 x15 x16 x17,fr=[.agg #[u.s,u.p,u.g,u.r],.agg #[S64 x.oc,S32 x.nr,S32 x.rv,cv],ptr H.n 0,ptr (H.n+1) 0,.bool false,.int .i64 ((min np 32:Nat):Int),.int .i64 ((min nr 64:Nat):Int),x7,x8,.bool false,cv,.int .i64 ((cs.length:Nat):Int),.int .i64 ((i+1:Nat):Int),x13,x14,x15,x16,x17])→Q' .normal fr K':=by
   rintro fr K' k' hin ⟨x7,x8,x13,x14,x15,x16,x17,rfl⟩
   exact hn' _ _ _ ⟨i+1,_,_,_,_,_,_,_,rfl,kK.trans k',by rw[htk,List.all_append,hall,List.all_cons,hin];rfl,by omega,rfl⟩ (by omega)
  have bad:inN (min np 32) (min nr 64) kd n=false→inR ns np nr x cs=false:=fun e=>by
   rw[hcs,List.all_eq_false];exact⟨_,hmem,by simp[e]⟩
  have kA:=(Keeps.refl K).alloc (.cells true false 2 [.int .u8 kd,.int .i64 n] 83)
  obtain⟨m,hm⟩:=inN_c (min np 32) (min nr 64) kd
  rw[inN_m hm]at go bad
  by_cases hn:n<0
  ·have hb:=bad (by rw[decide_eq_false (by omega)];rfl)
   rcases hm with⟨rfl|rfl,rfl⟩|⟨rfl,rfl⟩|⟨⟨h1,h2,h3⟩,rfl⟩
   all_goals
    first
    |simp(disch:=first|assumption|omega)only[W_block,P3,seval,initFr,clsA,e1,e0,na,ra,clen,a_loadnvf,hn]
     exact hret _ _ (no (kK.trans kA) hb rfl)
    |simp(disch:=first|assumption|omega|(simp only[LN]<;>omega)|(simp(disch:=first|assumption|omega|(simp only[LN]<;>omega))only[row_alloc,row_set];assumption))only[W_block,P3,seval,initFr,clsA,e1,e0,na,ra,clen,a_loadnvf,hn,h1,h2,h3]
     exact hret _ _ (no (kK.trans kA) hb rfl)
  by_cases hmn:(m:Int)≤n
  ·have hb:=bad (by rw[decide_eq_false (by omega:¬n<(m:Int))];simp)
   rcases hm with⟨rfl|rfl,rfl⟩|⟨rfl,rfl⟩|⟨⟨h1,h2,h3⟩,rfl⟩
   all_goals
    first
    |simp(disch:=first|assumption|omega)only[W_block,P3,seval,initFr,clsA,e1,e0,na,ra,clen,a_loadnvf,hn,hmn]
     exact hret _ _ (no (kK.trans kA) hb rfl)
    |simp(disch:=first|assumption|omega|(simp only[LN]<;>omega)|(simp(disch:=first|assumption|omega|(simp only[LN]<;>omega))only[row_alloc,row_set];assumption))only[W_block,P3,seval,initFr,clsA,e1,e0,na,ra,clen,a_loadnvf,hn,hmn,h1,h2,h3]
     exact hret _ _ (no (kK.trans kA) hb rfl)
  have hg:=fun{fr K'} k'=>@go fr K' k' (by rw[decide_eq_true (by omega:0≤n),decide_eq_true (by omega:n<(m:Int))];rfl)
  rcases hm with⟨rfl|rfl,rfl⟩|⟨rfl,rfl⟩|⟨⟨h1,h2,h3⟩,rfl⟩
  iterate 3
   simp(disch:=first|assumption|omega|(simp only[LN]<;>omega)|(simp(disch:=first|assumption|omega|(simp only[LN]<;>omega))only[row_alloc,row_set];assumption))only[W_block,P3,seval,initFr,clsA,e1,e0,na,ra,clen,a_loadnvf,hn,hmn,hw]
   exact hg kA ⟨_,_,_,_,_,_,_,rfl⟩
  omega
 ·have e1:¬(i:Int)<((cs.length:Nat):Int):=by omega
  have hil:i=cs.length:=by omega
  subst hil
  rw[List.take_length]at hall
  simp(disch:=first|assumption|omega)only[W_block,P3,seval,initFr,clsA,e1]
  refine hx' _ _ _ ?_
  simp(disch:=first|assumption|omega)only[W_block,P3,seval,initFr,clsA]
  exact hq2 _ _ ⟨.bool true,rfl,by rw[hcs,hall],kK⟩
end Go.AM.Fd

set_option maxRecDepth 8000
namespace Go.AM.Fd
open Nat (reduceAdd reduceEqDiff reduceLT reduceLeDiff reduceMul reduceSub)
open Go.Proofs Go.AM.F
def q64(f g:Nat→Bool):Bool:=((bitsN f 64:Nat):Int)==((bitsN g 64:Nat):Int)
def q32(f g:Nat→Bool):Bool:=((bitsN f 32:Nat):Int)==((bitsN g 32:Nat):Int)
theorem s_eql(f g:Nat→Bool):binA .eql (S64 f) (S64 g)=some (.bool (q64 f g)):=by unfold S64 q64;rw[b_eql]
theorem p_eql(f g:Nat→Bool):binA .eql (S32 f) (S32 g)=some (.bool (q32 f g)):=by unfold S32 q32;rw[b_eql]
def samI(x:Inp)(cs:List (Int×Int))(y:Inp)(ds:List (Int×Int)):Bool:=((q64 x.oc y.oc&&q32 x.nr y.nr)&&q32 x.rv y.rv)&&decide (cs=ds)
theorem a_eqc(a b c d:Int)(H:AHeap):asem (.eqs [1,1] true (.agg #[.int .u8 a,.int .i64 b]) (.agg #[.int .u8 c,.int .i64 d])) H=some (.bool (!decide ((a,b)=(c,d))),H):=by
 have:asem (.eqs [1,1] true (.agg #[.int .u8 a,.int .i64 b]) (.agg #[.int .u8 c,.int .i64 d])) H=some (.bool (!((a==c)&&((b==d)&&true))),H):=rfl
 rw[this]
 congr 3
 by_cases h1:a=c<;>by_cases h2:b=d<;>simp[h1,h2]
theorem ne_at{cs ds:List (Int×Int)}{i:Nat}(hi:i<cs.length)(hl:cs.length=ds.length)(h:cs.getD i (0,0)≠ds.getD i (0,0)):decide (cs=ds)=false:=by
 rw[decide_eq_false_iff_not];rintro rfl;exact h rfl
theorem eq_all{cs ds:List (Int×Int)}(hl:cs.length=ds.length)(h:∀i,i<cs.length→cs.getD i (0,0)=ds.getD i (0,0)):decide (cs=ds)=true:=by
 rw[decide_eq_true_eq]
 refine List.ext_getElem hl fun i h1 h2=>?_
 have:=h i h1
 rw[List.getD_eq_getElem?_getD,List.getD_eq_getElem?_getD,List.getElem?_eq_getElem h1,List.getElem?_eq_getElem h2]at this
 exact this
theorem t109{H:AHeap}{v w:Value}{cs ds:List (Int×Int)}(hc:CL H v cs)(hd:CL H w ds)(hcl:cs.length≤1000000)(hdl:ds.length≤1000000):
 ∃r H',ARun Tryz.prog 0 109 [v,w] H r H'∧r=.bool (decide (cs=ds))∧H'=H:=by
 refine gcb ?_
 refine walk2 f109_ok f109_n ?_
 intro Q hq1 hq2
 have ic:=Sl.is hc
 have id_:=Sl.is hd
 have lc:=hc.len
 have ld:=hd.len
 have no:decide (cs=ds)=false→∀{fr:List Value} {K:AHeap},Keeps H K→resO f109.res fr K=some (.bool false)→Q .ret fr K:=fun e fr K k hr=>hq2 _ _ ⟨_,hr,by rw[e],k⟩
 by_cases hl:cs.length=ds.length
 case neg=>
  have e:(((cs.length:Nat):Int) != ((ds.length:Nat):Int))=true:=by simp;omega
  simp(disch:=first|assumption|omega)only[f109,W_block,P3,seval,initFr,clsA,ic,id_,lc,ld,e]
  exact no (by rw[decide_eq_false_iff_not];rintro rfl;exact hl rfl) (Keeps.refl H) rfl
 case pos=>
 have e:(((cs.length:Nat):Int) != ((ds.length:Nat):Int))=false:=by simp;omega
 simp(disch:=first|assumption|omega)only[f109,P3,seval,initFr,clsA,ic,id_,lc,ld,e]
 rw[W_block]
 refine W_loop2 (fun q fr K=>∃i x3 x4 x9 x10,fr=[v,w,.bool false,x3,x4,.bool false,v,.int .i64 ((cs.length:Nat):Int),.int .i64 ((i:Nat):Int),x9,x10]∧Keeps H K∧(∀j,j<i→cs.getD j (0,0)=ds.getD j (0,0))∧i≤cs.length∧q=cs.length-i) cs.length
  ⟨0,_,_,_,_,rfl,Keeps.refl H,fun j hj=>absurd hj (by omega),by omega,rfl⟩ ?_
 rintro Q' q fr K ⟨i,x3,x4,x9,x10,rfl,kK,hall,hi,rfl⟩ hn' hx' hret
 by_cases hlt:i<cs.length
 ·have kA:=(Keeps.refl K).alloc (.cells true false 2 [.int .u8 (cs.getD i (0,0)).1,.int .i64 (cs.getD i (0,0)).2] 83)
  obtain⟨na,ra⟩:=(hc.keeps kK).at_ hlt
  obtain⟨nb,rb⟩:=((hd.keeps kK).keeps kA).at_ (i:=i) (by omega)
  have e0:(0:Int)≤(i:Int):=by omega
  have e1:(i:Int)<((cs.length:Nat):Int):=by omega
  have e2:(i:Int)<((ds.length:Nat):Int):=by omega
  have hw:IntKind.i64.wrap ((i:Int)+1)=((i+1:Nat):Int):=by rw[wrap_i64 (by omega) (by omega)];simp
  by_cases he:cs.getD i (0,0)=ds.getD i (0,0)
  ·have hne:decide ((((cs.getD i (0,0)).1,(cs.getD i (0,0)).2):Int×Int)=((ds.getD i (0,0)).1,(ds.getD i (0,0)).2))=true:=by rw[decide_eq_true_eq];exact he
   simp(disch:=first|assumption|omega|(simp only[LN]<;>omega)|(simp(disch:=first|assumption|omega|(simp only[LN]<;>omega))only[row_alloc,row_set];assumption))only[W_block,P3,seval,initFr,clsA,e1,e0,e2,na,ra,nb,rb,lc,ld,a_loadnvf,a_eqc,hne,hw]
   refine hn' _ _ _ ⟨i+1,_,_,_,_,rfl,kK.trans kA,fun j hj=>?_,by omega,rfl⟩ (by omega)
   rcases Nat.lt_or_ge j i with h|h
   ·exact hall j h
   ·have:j=i:=by omega
    subst this;exact he
  ·have hne:decide ((((cs.getD i (0,0)).1,(cs.getD i (0,0)).2):Int×Int)=((ds.getD i (0,0)).1,(ds.getD i (0,0)).2))=false:=by rw[decide_eq_false_iff_not];exact he
   simp(disch:=first|assumption|omega|(simp only[LN]<;>omega)|(simp(disch:=first|assumption|omega|(simp only[LN]<;>omega))only[row_alloc,row_set];assumption))only[W_block,P3,seval,initFr,clsA,e1,e0,e2,na,ra,nb,rb,lc,ld,a_loadnvf,a_eqc,hne]
   exact hret _ _ (no (ne_at hlt hl he) (kK.trans kA) rfl)
 ·have e1:¬(i:Int)<((cs.length:Nat):Int):=by omega
  have hil:i=cs.length:=by omega
  subst hil
  simp(disch:=first|assumption|omega)only[W_block,P3,seval,initFr,clsA,e1]
  refine hx' _ _ _ ?_
  simp(disch:=first|assumption|omega)only[W_block,P3,seval,initFr,clsA]
  exact hq2 _ _ ⟨.bool true,rfl,by rw[eq_all hl hall],kK⟩
theorem t73{H:AHeap}{x y:Inp}{v w:Value}{cs ds:List (Int×Int)}(hc:CL H v cs)(hd:CL H w ds)(hcl:cs.length≤1000000)(hdl:ds.length≤1000000):
 ∃r H',ARun Tryz.prog 0 73 [.agg (inl x v).toArray,.agg (inl y w).toArray] H r H'∧r=.bool (samI x cs y ds)∧H'=H:=by
 refine gcb ?_
 refine walk2 f73_ok f73_n ?_
 intro Q hq1 hq2
 have oc:=Sl.one hc
 have od:=Sl.one hd
 have k0:=((Keeps.refl H).alloc (.cells true false 4 (inl x v) 46)).alloc (.cells true false 4 (inl y w) 46)
 have e1:inl x v=[S64 x.oc,S32 x.nr,S32 x.rv,v]:=rfl
 have e2:inl y w=[S64 y.oc,S32 y.nr,S32 y.rv,w]:=rfl
 rw[e1,e2]at k0 ⊢
 have hs:samI x cs y ds=(((q64 x.oc y.oc&&q32 x.nr y.nr)&&q32 x.rv y.rv)&&decide (cs=ds)):=rfl
 rw[hs]at hq1 hq2
 cases h1:q64 x.oc y.oc with
 |false=>
  rw[h1]at hq2
  simp(disch:=first|assumption|omega|(simp only[LN]<;>omega)|(simp(disch:=first|assumption|omega|(simp only[LN]<;>omega))only[row_alloc,row_set];assumption))only[f73,W_block,P3,seval,initFr,clsA,oc,od,o_s64,o_s32,one_s64,one_s32,s_eql,h1]
  exact hq2 _ _ ⟨.bool false,rfl,rfl,k0⟩
 |true=>
 rw[h1]at hq2
 cases h2:q32 x.nr y.nr with
 |false=>
  rw[h2]at hq2
  simp(disch:=first|assumption|omega|(simp only[LN]<;>omega)|(simp(disch:=first|assumption|omega|(simp only[LN]<;>omega))only[row_alloc,row_set];assumption))only[f73,W_block,P3,seval,initFr,clsA,oc,od,o_s64,o_s32,one_s64,one_s32,s_eql,p_eql,h1,h2]
  exact hq2 _ _ ⟨.bool false,rfl,rfl,k0⟩
 |true=>
 rw[h2]at hq2
 cases h3:q32 x.rv y.rv with
 |false=>
  rw[h3]at hq2
  simp(disch:=first|assumption|omega|(simp only[LN]<;>omega)|(simp(disch:=first|assumption|omega|(simp only[LN]<;>omega))only[row_alloc,row_set];assumption))only[f73,W_block,P3,seval,initFr,clsA,oc,od,o_s64,o_s32,one_s64,one_s32,s_eql,p_eql,h1,h2,h3]
  exact hq2 _ _ ⟨.bool false,rfl,rfl,k0⟩
 |true=>
 rw[h3]at hq2
 have tA:=t109 (hc.keeps k0) (hd.keeps k0) hcl hdl
 simp(disch:=first|assumption|omega|(simp only[LN]<;>omega)|(simp(disch:=first|assumption|omega|(simp only[LN]<;>omega))only[row_alloc,row_set];assumption))only[f73,W_block,P3,seval,initFr,clsA,oc,od,o_s64,o_s32,one_s64,one_s32,s_eql,p_eql,h1,h2,h3]
 refine callK tA ?_
 rintro _ X ⟨rfl,hX⟩
 rw[hX]
 simp(disch:=first|assumption|omega)only[W_block,P3,seval,initFr,clsA]
 exact hq2 _ _ ⟨.bool _,rfl,by simp,k0⟩
theorem _root_.Go.AM.OW.slc{e z:Nat}{H K:AHeap}{v:Value}{rows:List (List Value)}(h:OW e z H K v rows):SlC K z v rows:=by
 refine⟨h.sl,?_⟩
 rcases h.ap with⟨rfl,_,_⟩|⟨b,room,rfl,_,h2⟩
 ·exact .inl rfl
 ·exact .inr (.inr ⟨b,_,_,_,_,_,_,rfl,Nat.le_refl _,h2⟩)
theorem SlC.chg{H K:AHeap}{z:Nat}{v:Value}{rows:List (List Value)}{S:List Nat}(h:SlC H z v rows)(k:Chg S H K)(hS:∀b,blk v=some b→b∉S):SlC K z v rows:=by
 refine⟨Sl.chg h.s k hS,?_⟩
 rcases h.c with e|e|⟨b,n,m,o,r,c,u,e1,e2,e3⟩
 ·exact .inl e
 ·exact .inr (.inl e)
 ·exact .inr (.inr ⟨b,n,m,o,r,c,u,e1,e2,k.at_ e3 (hS b (by rw[e1];rfl))⟩)
structure NewC (H K:AHeap) (v:Value) (cs:List (Int×Int)):Prop where
 k:Keeps H K
 c:SlC K 2 v (cs.map cRow)
 f:Fresh H.n v
theorem _root_.Go.AM.OW.newC{H K:AHeap}{v:Value}{cs:List (Int×Int)}{e:Nat}(h:OW e 2 H K v (cs.map cRow)):NewC H K v cs:=⟨h.k,h.slc,h.f⟩
theorem t108{H:AHeap}{v:Value}{cs:List (Int×Int)}(hc:CL H v cs)(hcl:cs.length≤1000000):∃w K,ARun Tryz.prog 0 108 [v] H w K∧NewC H K w cs:=by
 refine walk2 f108_ok f108_n ?_
 intro Q hq1 hq2
 obtain⟨a,k,rfl⟩:=hc.sh
 cases a with
 |none=>
  have:cs=[]:=by
   have:=hc.el
   simp only[elemsA,Option.some.injEq]at this
   have h2:=hc.len
   cases cs with
   |nil=>rfl
   |cons c r=>simp[cRow]at this
  subst this
  simp(disch:=first|assumption|omega)only[f108,W_block,P3,seval,initFr,clsA,a_eqv,eqA,Option.isNone_none]
  exact hq2 _ _ ⟨.slice none 0 0,rfl,Keeps.refl H,⟨Sl.nil _ _,.inl rfl⟩,fun b hb=>by cases hb⟩
 |some a=>
  have kA:=(Keeps.refl H).alloc (.cells true false 2 [] 83)
  have ow0:OW 83 2 H (H.alloc (.cells true false 2 [] 83)) (slc H.n 0 0 0) []:=⟨.inr ⟨_,_,rfl,rfl,AHeap.get_alloc_new H _⟩,by simp,kA,fun b hb=>by cases hb;exact Nat.le_refl _⟩
  have one:(Value.slice (some a) (cs.map cRow).length k).oneCell'=true:=rfl
  simp(disch:=first|assumption|omega)only[f108,W_block,P3,seval,initFr,clsA,a_eqv,eqA,Option.isNone_some]
  refine OW.appR ow0 (Sl.keeps hc kA) (by simp;omega) ?_
  intro v' K' ow' _
  simp(disch:=first|assumption|omega)only[W_block,P3,seval,initFr,clsA]
  exact hq2 _ _ ⟨_,rfl,OW.newC ow'⟩
theorem fillMg(a b c:Nat→Bool):fillA [.int .u64 0,.int .u32 0,.int .u32 0,.slice none 0 0] [(0,1,S64 a),(1,1,S32 b),(2,1,S32 c)]=some [S64 a,S32 b,S32 c,.slice none 0 0]:=rfl
def mrgX(x y:Inp):Inp:=⟨fun i=>x.oc i||y.oc i,fun i=>x.nr i&&y.nr i,fun i=>x.rv i&&y.rv i⟩
def mrgC(cs ds:List (Int×Int)):List (Int×Int):=if cs=ds then cs else[]
theorem t74{H:AHeap}{x y:Inp}{v w:Value}{cs ds:List (Int×Int)}(hc:CL H v cs)(hd:CL H w ds)(hcl:cs.length≤1000000)(hdl:ds.length≤1000000):
 ∃r K,ARun Tryz.prog 0 74 [.agg (inl x v).toArray,.agg (inl y w).toArray] H r K∧∃z,r=.agg (inl (mrgX x y) z).toArray∧NewC H K z (mrgC cs ds):=by
 refine walk2 f74_ok f74_n ?_
 intro Q hq1 hq2
 have oc:=Sl.one hc
 have od:=Sl.one hd
 obtain⟨K0,hK0⟩:∃X,X=(((H.alloc (.cells true false 4 (inl x v) 46)).alloc (.cells true false 4 (inl y w) 46)).alloc (.cells true false 4 [.int .u64 0,.int .u32 0,.int .u32 0,.slice none 0 0] 46)).alloc (.cells true false 4 (inl (mrgX x y) (.slice none 0 0)) 46):=⟨_,rfl⟩
 have k0:Keeps H K0:=by rw[hK0];exact((((Keeps.refl H).alloc _).alloc _).alloc _).alloc _
 have n0:K0.n=H.n+4:=by rw[hK0];rfl
 have g0:K0.get H.n=some (.cells true false 4 (inl x v) 46):=by rw[hK0];exact((((Keeps.refl _).alloc _).alloc _).alloc _).at_ (AHeap.get_alloc_new H _)
 have g1:K0.get (H.n+1)=some (.cells true false 4 (inl y w) 46):=by rw[hK0];exact(((Keeps.refl _).alloc _).alloc _).at_ (AHeap.get_alloc_new (H.alloc _) _)
 have g2:K0.get (H.n+2)=some (.cells true false 4 [.int .u64 0,.int .u32 0,.int .u32 0,.slice none 0 0] 46):=by rw[hK0];exact((Keeps.refl _).alloc _).at_ (AHeap.get_alloc_new ((H.alloc _).alloc _) _)
 have g3:K0.get (H.n+3)=some (.cells true false 4 (inl (mrgX x y) (.slice none 0 0)) 46):=by rw[hK0];exact AHeap.get_alloc_new (((H.alloc _).alloc _).alloc _) _
 have e1:inl x v=[S64 x.oc,S32 x.nr,S32 x.rv,v]:=rfl
 have e2:inl y w=[S64 y.oc,S32 y.nr,S32 y.rv,w]:=rfl
 have e3:∀z,inl (mrgX x y) z=[S64 fun i=>x.oc i||y.oc i,S32 fun i=>x.nr i&&y.nr i,S32 fun i=>x.rv i&&y.rv i,z]:=fun _=>rfl
 rw[e1]at g0 hK0
 rw[e2]at g1 hK0
 rw[e3]at g3 hK0
 rw[e1,e2]
 simp only[e3]at hq1 hq2
 have l2:=AHeap.get_lt g2
 have l3:=AHeap.get_lt g3
 have fin:∀{Y Z:AHeap} {z:Value} {es:List (Int×Int)} {fr:List Value},Keeps K0 Y→Chg [H.n+1+1,H.n+1+1+1] Y Z→SlC Y 2 z (es.map cRow)→Fresh K0.n z→es=mrgC cs ds→Z.get (H.n+1+1)=some (.cells true false 4 (inl (mrgX x y) z) 46)→fr[4]? =some (ptr (H.n+1+1) 0)→
  Q .ret fr Z:=by
  intro Y Z z es fr kY cZ hz fz he gZ hfr
  have hn:∀b,blk z=some b→K0.n≤b:=fz
  have hz2:=hz.chg cZ (fun b hb hm=>by have:=hn b hb;simp at hm;omega)
  refine hq2 _ _ ⟨_,?_,z,rfl,⟨(k0.trans kY).chg_trans cZ (by simp;omega),by rw[←he];exact hz2,fun b hb=>by have:=hn b hb;omega⟩⟩
  show resO [.cn 4 4] _ _=_
  have hgd:fr.getD 4 undef=ptr (H.n+1+1) 0:=by rw[List.getD_eq_getElem?_getD,hfr];rfl
  have hr4:∀c:List Value,c.length=4→rangeO (some (.cells true false 4 c 46)) 0 4=some c:=fun c h=>rng_full h
  rw[resC,hgd,cellnp,rangeA_e,gZ,hr4 _ rfl]
  rfl
 have tA:=t109 (hc.keeps k0) (hd.keeps k0) hcl hdl
 simp(disch:=first|assumption|omega|(simp only[LN]<;>omega)|(simp(disch:=first|assumption|omega|(simp only[LN]<;>omega))only[row_alloc,row_set];assumption))only[f74,W_block,P3,seval,initFr,clsA,oc,od,o_s64,o_s32,one_s64,one_s32,s_or,p_and,fillMg]
 rw[←hK0]
 refine callK tA ?_
 rintro _ X ⟨rfl,hX⟩
 rw[hX]
 by_cases hcd:cs=ds
 ·have hd':decide (cs=ds)=true:=by simp[hcd]
  have hm:mrgC cs ds=cs:=by unfold mrgC;rw[if_pos hcd]
  rw[hd']
  simp(disch:=first|assumption|omega)only[W_block,P3,seval,initFr,clsA,g0,g1]
  refine callK (t108 (hc.keeps k0) hcl) ?_
  rintro z Y nc
  have kY:=nc.k
  have gY2:=kY.at_ g2
  have gY3:=kY.at_ g3
  have lY2:=AHeap.get_lt gY2
  have lY3:=AHeap.get_lt gY3
  have oz:=Sl.one nc.c.s
  simp(disch:=first|assumption|omega|(simp only[LN]<;>omega)|(simp(disch:=first|assumption|omega|(simp only[LN]<;>omega))only[row_alloc,row_set];assumption))only[W_block,P3,seval,initFr,clsA,gY2,gY3,oz,o_s64,o_s32,one_s64,one_s32]
  refine fin kY ((Chg.set Y lY3 _).mono (by simp) |>.trans (Chg.set _ (by rw[set_n];exact lY2) _) (by simp)) nc.c nc.f hm.symm (AHeap.get_set_same ((AHeap.get_set_other Y (by omega) lY3 _).trans gY2) _) rfl
 ·have hd':decide (cs=ds)=false:=by simp[hcd]
  have hm:mrgC cs ds=[]:=by unfold mrgC;rw[if_neg hcd]
  rw[hd']
  simp(disch:=first|assumption|omega|(simp only[LN]<;>omega)|(simp(disch:=first|assumption|omega|(simp only[LN]<;>omega))only[row_alloc,row_set];assumption))only[W_block,P3,seval,initFr,clsA,g3,g2,o_s64,o_s32,one_s64,one_s32]
  exact fin (Keeps.refl _) ((Chg.set K0 l2 _).mono (by simp)) ⟨Sl.nil _ _,.inl rfl⟩ (fun b hb=>by cases hb) hm.symm (AHeap.get_set_same g2 _) rfl
structure Rd where
 ch:Int
 cy:Int
 x:Inp
 c:List (Int×Int)
def rdl(r:Rd)(v:Value):List Value:=[.int .i64 r.ch,.int .i64 r.cy,S64 r.x.oc,S32 r.x.nr,S32 r.x.rv,v]
theorem t71{H:AHeap}{r:Rd}{v:Value}(hc:CL H v r.c)(hcl:r.c.length≤1000000):
 ∃w K,ARun Tryz.prog 0 71 [.agg (rdl r v).toArray] H w K∧∃z,w=ptr H.n 0∧K.get H.n=some (.cells true false 6 (rdl r z) 49)∧NewC H K z r.c:=by
 refine walk2 f71_ok f71_n ?_
 intro Q hq1 hq2
 have oc:=Sl.one hc
 have e1:∀z,rdl r z=[.int .i64 r.ch,.int .i64 r.cy,S64 r.x.oc,S32 r.x.nr,S32 r.x.rv,z]:=fun _=>rfl
 simp only[e1]at hq1 hq2 ⊢
 have k0:=(Keeps.refl H).alloc (.cells true false 6 [.int .i64 r.ch,.int .i64 r.cy,S64 r.x.oc,S32 r.x.nr,S32 r.x.rv,v] 49)
 simp(disch:=first|assumption|omega)only[f71,W_block,P3,seval,initFr,clsA,oc,o_s64,o_s32,one_s64,one_s32]
 refine callK (t108 (hc.keeps k0) hcl) ?_
 intro z Y nc
 have hn:∀b,blk z=some b→H.n+1≤b:=nc.f
 have kY:=nc.k
 have g1:=kY.at_ (AHeap.get_alloc_new H (.cells true false 6 [.int .i64 r.ch,.int .i64 r.cy,S64 r.x.oc,S32 r.x.nr,S32 r.x.rv,v] 49))
 have l1:=AHeap.get_lt g1
 have oz:=Sl.one nc.c.s
 simp(disch:=first|assumption|omega)only[W_block,P3,seval,initFr,clsA,g1,oz]
 have c1:=Chg.set Y l1 (.cells true false 6 [.int .i64 r.ch,.int .i64 r.cy,S64 r.x.oc,S32 r.x.nr,S32 r.x.rv,z] 49)
 exact hq2 _ _ ⟨_,rfl,z,rfl,AHeap.get_set_same g1 _,⟨(k0.trans kY).chg_trans c1 (by simp),nc.c.chg c1 (fun b hb hm=>by have:=hn b hb;simp at hm;omega),fun b hb=>by have:=hn b hb;omega⟩⟩
end Go.AM.Fd

set_option maxRecDepth 8000
namespace Go.AM.Fd
open Nat (reduceAdd reduceEqDiff reduceLT reduceLeDiff reduceMul reduceSub)
open Go.Proofs Go.AM.F
def X0:Inp:=⟨fun _=>false,fun _=>false,fun _=>false⟩
def R0:Rd:=⟨0,0,X0,[]⟩
theorem inl_0(z:Value):inl X0 z=[.int .u64 0,.int .u32 0,.int .u32 0,z]:=by
 show[S64 _,S32 _,S32 _,z]=_
 rw[s_zero,p_zero];rfl
theorem rdl_0(z:Value):rdl R0 z=[.int .i64 0,.int .i64 0,.int .u64 0,.int .u32 0,.int .u32 0,z]:=by
 show[.int .i64 0,.int .i64 0,S64 _,S32 _,S32 _,z]=_
 rw[s_zero,p_zero];rfl
def OtR(H:AHeap)(S:List Nat):Prop:=∀b∈S,∀o r z C T,H.get b=some (.cells o r z C T)→z≠2∧T≠49
def RdB(H:AHeap)(v:Value)(r:Rd):Prop:=∃b z o rm,v=ptr b 0∧H.get b=some (.cells o rm 6 (rdl r z) 49)∧SlC H 2 z (r.c.map cRow)
theorem SlC.oth{H K:AHeap}{S:List Nat}{v:Value}{rows:List (List Value)}(h:SlC H 2 v rows)(k:Chg S H K)(hS:∀b∈S,∀o r z C T,H.get b=some (.cells o r z C T)→z≠2):SlC K 2 v rows:=by
 rcases h.c with e|⟨b',o,q,e⟩|⟨b',n,m,o,r,c,u,e1,e2,e3⟩
 ·exact h.chg k fun b hb=>by subst e;cases hb
 ·subst e
  have hl:=h.s.len
  have:rows=[]:=List.eq_nil_of_length_eq_zero hl.symm
  subst this
  exact⟨⟨⟨_,_,rfl⟩,by simp,by simp[elemsA]⟩,.inr (.inl ⟨_,_,_,rfl⟩)⟩
 ·exact h.chg k fun b hb hm=>by subst e1;cases hb;exact(hS _ hm _ _ _ _ _ e3) rfl
theorem RdB.oth{H K:AHeap}{S:List Nat}{v:Value}{r:Rd}(h:RdB H v r)(k:Chg S H K)(hS:OtR H S):RdB K v r:=by
 obtain⟨b,z,o,rm,rfl,g,hz⟩:=h
 exact⟨b,z,o,rm,rfl,k.at_ g (fun hm=>(hS b hm _ _ _ _ _ g).2 rfl),hz.oth k fun b hb o r z C T e=>(hS b hb o r z C T e).1⟩
theorem RdB.ne{H K:AHeap}{S:List Nat}{p:Nat}{r:Rd}(h:RdB H (ptr p 0) r)(k:Chg S H K)(hp:p∉S)(hS:∀b∈S,∀o r z C T,H.get b=some (.cells o r z C T)→z≠2):RdB K (ptr p 0) r:=by
 obtain⟨b,z,o,rm,e,g,hz⟩:=h
 cases e
 exact⟨p,z,o,rm,rfl,k.at_ g hp,hz.oth k hS⟩
def pR(H:AHeap)(v:Value)(o:Option Rd):Prop:=match o with
 |none=>v=.pointer none
 |some r=>RdB H v r
theorem pR.oth{H K:AHeap}{S:List Nat}{v:Value}{o:Option Rd}(h:pR H v o)(k:Chg S H K)(hS:OtR H S):pR K v o:=by
 cases o with
 |none=>exact h
 |some r=>exact RdB.oth h k hS
theorem pR.one{H:AHeap}{v:Value}{o:Option Rd}(h:pR H v o):v.oneCell'=true:=by
 cases o with
 |none=>rw[show v=_ from h];rfl
 |some r=>obtain⟨_,_,_,_,rfl,_⟩:=h;rfl
structure Sd where
 ch:Int
 cy:Int
 own:Option Rd
 other:Option Rd
 kept:Option Rd
 br:Bool
def ROk(r:Rd):Prop:=r.c.length≤1000∧∀c∈r.c,0≤c.1∧c.1<256
structure SOk (s:Sd):Prop where
 own:∀r,s.own=some r→ROk r
 other:∀r,s.other=some r→ROk r∧r.cy=s.cy
 kept:∀r,s.kept=some r→ROk r
def AgR(H:AHeap)(b:Nat)(s:Sd):Prop:=∃vo vt vk,H.get b=some (.cells true false 6 [.int .i64 s.ch,.int .i64 s.cy,vo,vt,vk,.bool s.br] 144)∧pR H vo s.own∧pR H vt s.other∧pR H vk s.kept
theorem AgR.oth{H K:AHeap}{S:List Nat}{b:Nat}{s:Sd}(h:AgR H b s)(k:Chg S H K)(hb:b∉S)(hS:OtR H S):AgR K b s:=by
 obtain⟨vo,vt,vk,g,a,c,d⟩:=h
 exact⟨vo,vt,vk,k.at_ g hb,a.oth k hS,c.oth k hS,d.oth k hS⟩
theorem AgR.keeps{H K:AHeap}{b:Nat}{s:Sd}(h:AgR H b s)(k:Keeps H K):AgR K b s:=h.oth (k.chg []) (by simp) (fun b hb=>by cases hb)
theorem AgR.otr{H:AHeap}{b:Nat}{s:Sd}(h:AgR H b s):OtR H [b]:=by
 obtain⟨vo,vt,vk,g,_⟩:=h
 intro c hc o r z C T e
 simp only[List.mem_cons,List.not_mem_nil,or_false]at hc
 subst hc;rw[g]at e;cases e
 exact⟨by decide,by decide⟩
def sd0(ch:Int):Sd:=⟨ch,0,none,none,none,false⟩
theorem sd0_ok(ch:Int):SOk (sd0 ch):=⟨by simp[sd0],by simp[sd0],by simp[sd0]⟩
theorem fillGa(ch:Int):fillA [.int .i64 0,.int .i64 0,.pointer none,.pointer none,.pointer none,.bool false] [(0,1,.int .i64 ch)]=some [.int .i64 ch,.int .i64 0,.pointer none,.pointer none,.pointer none,.bool false]:=rfl
theorem t29{H:AHeap}{ch:Int}(hc:ch=0∨ch=1):∃w K,ARun Tryz.prog 0 29 [.int .i64 ch] H w K∧w=ptr H.n 0∧Keeps H K∧AgR K H.n (sd0 ch):=by
 refine walk2 f29_ok f29_n ?_
 intro Q hq1 hq2
 rcases hc with rfl|rfl
 all_goals
  simp(disch:=first|assumption|omega)only[f29,W_block,P3,seval,initFr,clsA,fillGa]
  exact hq2 _ _ ⟨ptr H.n 0,rfl,rfl,(Keeps.refl H).alloc _,_,_,_,AHeap.get_alloc_new H _,rfl,rfl,rfl⟩
def begS(s:Sd)(cy:Int)(x:Inp)(cs:List (Int×Int)):Sd:=if cy≤s.cy then s else
 {s with cy:=cy,own:=some ⟨s.ch,cy,x,cs⟩,br:=false,other:=s.kept.filter fun k=>decide (k.cy=cy),kept:=s.kept.filter fun k=>decide (cy<k.cy)}
def begR(s:Sd)(cy:Int)(x:Inp)(cs:List (Int×Int)):Rd:=if cy≤s.cy then R0 else⟨s.ch,cy,x,cs⟩
def begE(s:Sd)(cy:Int):Int:=if cy≤s.cy then 2 else 0
theorem begS_ok{s:Sd}{cy:Int}{x:Inp}{cs:List (Int×Int)}(h:SOk s)(h1:cs.length≤1000)(h2:∀c∈cs,0≤c.1∧c.1<256):SOk (begS s cy x cs):=by
 unfold begS
 split
 ·exact h
 ·refine⟨fun r e=>by cases e;exact⟨h1,h2⟩,fun r e=>?_,fun r e=>?_⟩
  ·obtain⟨e1,e2⟩:=Option.filter_eq_some_iff.1 e
   exact⟨h.kept r e1,by simpa using e2⟩
  ·exact h.kept r (Option.filter_eq_some_iff.1 e).1
theorem fillRd(a b:Int)(c d e:Nat→Bool)(v:Value):fillA [.int .i64 0,.int .i64 0,.int .u64 0,.int .u32 0,.int .u32 0,.slice none 0 0] [(0,1,.int .i64 a),(1,1,.int .i64 b),(2,4,.agg #[S64 c,S32 d,S32 e,v])]=some [.int .i64 a,.int .i64 b,S64 c,S32 d,S32 e,v]:=rfl
theorem fillRz:fillA [.int .i64 0,.int .i64 0,.int .u64 0,.int .u32 0,.int .u32 0,.slice none 0 0] []=some [.int .i64 0,.int .i64 0,.int .u64 0,.int .u32 0,.int .u32 0,.slice none 0 0]:=rfl
theorem res_ct{K:AHeap}{fr:List Value}{n i j p T:Nat}{o r:Bool}{c:List Value}{w:Value}(g:K.get p=some (.cells o r n c T))(hl:c.length=n)(h1:fr.getD i undef=ptr p 0)(h2:fr.getD j undef=w):resO [.cn n i,.t j] fr K=some (.tuple #[.agg c.toArray,w]):=by
 simp only[resO,resVs,RX.get,h1,h2]
 rw[cellnp,rangeA_e,g,rng_full hl]
 rfl
set_option maxHeartbeats 1000000 in
theorem u37{B H:AHeap}{b:Nat}{s:Sd}{cy:Int}{x:Inp}{v:Value}{cs:List (Int×Int)}(h:AgR B b s)(kB:Keeps B H)(hv:SlC H 2 v (cs.map cRow))(hcl:cs.length≤1000):
 ∃w K,ARun Tryz.prog 0 37 [ptr b 0,.int .i64 cy,.agg (inl x v).toArray] H w K∧Chg [b] H K∧(∀S K',Chg S K K'→b∉S→(∀x∈S,B.n≤x∧x<H.n∧∀o r z C T,K.get x=some (.cells o r z C T)→z≠2)→AgR K' b (begS s cy x cs))∧∃z,w=.tuple #[.agg (rdl (begR s cy x cs) z).toArray,.int .i64 (begE s cy)]∧SlC K 2 z ((begR s cy x cs).c.map cRow):=by
 refine walk2 f37_ok f37_n ?_
 intro Q hq1 hq2
 have hbB:=h.otr
 have hb:=(h.keeps kB).otr
 obtain⟨vo,vt,vk,gB,po,pt,pk⟩:=h
 have g:=kB.at_ gB
 have lb:=AHeap.get_lt g
 have toB:∀{K K':AHeap} {S:List Nat},Chg [b] H K→Chg S K K'→(∀x∈S,B.n≤x∧x<H.n∧∀o r z C T,K.get x=some (.cells o r z C T)→z≠2)→Chg [b] B K':=fun c1 c2 hS=>((kB.chg [b]).trans c1 (by simp)).trans c2 fun x hx=>.inr (hS x hx).1
 have hc:CL H v cs:=hv.s
 have oc:=Sl.one hc
 have oo:=po.one
 have ot:=pt.one
 have ok:=pk.one
 have e1:inl x v=[S64 x.oc,S32 x.nr,S32 x.rv,v]:=rfl
 rw[e1]
 by_cases hle:cy≤s.cy
 ·have eS:begS s cy x cs=s:=by unfold begS;rw[if_pos hle]
  have eR:begR s cy x cs=R0:=by unfold begR;rw[if_pos hle]
  have eE:begE s cy=2:=by unfold begE;rw[if_pos hle]
  simp only[eS,eR,eE,rdl_0]at hq1 hq2
  simp(disch:=first|assumption|omega|(simp only[LN]<;>omega)|(simp(disch:=first|assumption|omega|(simp only[LN]<;>omega))only[row_alloc,row_set];assumption))only[f37,W_block,P3,seval,initFr,clsA,oc,o_s64,o_s32,one_s64,one_s32,g,hle,fillRz]
  have kA:=((Keeps.refl H).alloc (.cells true false 4 [S64 x.oc,S32 x.nr,S32 x.rv,v] 46)).alloc (.cells true false 6 [.int .i64 0,.int .i64 0,.int .u64 0,.int .u32 0,.int .u32 0,.slice none 0 0] 49)
  exact hq2 _ _ ⟨_,res_ct (p:=H.n+1) (AHeap.get_alloc_new (H.alloc _) _) rfl rfl rfl,kA.chg _,fun S K' c hbS hS=>⟨vo,vt,vk,c.at_ (kA.at_ g) hbS,po.oth (toB (kA.chg _) c hS) hbB,pt.oth (toB (kA.chg _) c hS) hbB,pk.oth (toB (kA.chg _) c hS) hbB⟩,.slice none 0 0,rfl,Sl.nil _ _,.inl rfl⟩
 have eR:begR s cy x cs=⟨s.ch,cy,x,cs⟩:=by unfold begR;rw[if_neg hle]
 have eE:begE s cy=0:=by unfold begE;rw[if_neg hle]
 have eS:begS s cy x cs={s with cy:=cy,own:=some ⟨s.ch,cy,x,cs⟩,br:=false,other:=s.kept.filter fun k=>decide (k.cy=cy),kept:=s.kept.filter fun k=>decide (cy<k.cy)}:=by unfold begS;rw[if_neg hle]
 simp only[eR,eE,eS]at hq1 hq2
 have er:∀z,rdl ⟨s.ch,cy,x,cs⟩ z=[.int .i64 s.ch,.int .i64 cy,S64 x.oc,S32 x.nr,S32 x.rv,z]:=fun _=>rfl
 obtain⟨K0,hK0⟩:∃X,X=((H.alloc (.cells true false 4 [S64 x.oc,S32 x.nr,S32 x.rv,v] 46)).alloc (.cells true false 6 [.int .i64 0,.int .i64 0,.int .u64 0,.int .u32 0,.int .u32 0,.slice none 0 0] 49)).alloc (.cells true false 6 (rdl ⟨s.ch,cy,x,cs⟩ v) 49):=⟨_,rfl⟩
 have k0:Keeps H K0:=by rw[hK0];exact(((Keeps.refl H).alloc _).alloc _).alloc _
 have n0:K0.n=H.n+3:=by rw[hK0];rfl
 have g1:K0.get (H.n+1)=some (.cells true false 6 [.int .i64 0,.int .i64 0,.int .u64 0,.int .u32 0,.int .u32 0,.slice none 0 0] 49):=by rw[hK0];exact((Keeps.refl _).alloc _).at_ (AHeap.get_alloc_new (H.alloc _) _)
 have g2:K0.get (H.n+2)=some (.cells true false 6 (rdl ⟨s.ch,cy,x,cs⟩ v) 49):=by rw[hK0];exact AHeap.get_alloc_new ((H.alloc _).alloc _) _
 have tC:=t71 (r:=⟨s.ch,cy,x,cs⟩) (hc.keeps k0) (by show cs.length≤_;omega)
 rw[er]at hK0 g2 tC
 refine W_part 5 (fun fr Z=>∃vt vk x7 x8 x9 x10 x11 Y,fr=[ptr b 0,.int .i64 cy,.agg #[S64 x.oc,S32 x.nr,S32 x.rv,v],ptr H.n 0,ptr (H.n+1) 0,.int .i64 0,ptr (H.n+2) 0,x7,x8,x9,x10,x11]∧Keeps K0 Y∧Chg [b] Y Z∧RdB Y (ptr (H.n+3) 0) ⟨s.ch,cy,x,cs⟩∧
  Z.get b=some (.cells true false 6 [.int .i64 s.ch,.int .i64 cy,ptr (H.n+3) 0,vt,vk,.bool false] 144)∧pR B vt (s.kept.filter fun k=>decide (k.cy=cy))∧pR B vk (s.kept.filter fun k=>decide (cy<k.cy))) (by kernel_rfl) ?_ ?_
 ·intro Q' hn _ _
  simp(disch:=first|assumption|omega|(simp only[LN]<;>omega)|(simp(disch:=first|assumption|omega|(simp only[LN]<;>omega))only[row_alloc,row_set];assumption))only[f37,cpre,W_block,P3,seval,initFr,clsA,oc,o_s64,o_s32,one_s64,one_s32,g,hle,fillRd]
  rw[←hK0]
  refine callK tC ?_
  rintro _ Y ⟨z,rfl,gz,nc⟩
  rw[n0]at gz
  have kY:=nc.k
  have gY:=(k0.trans kY).at_ g
  have lY:=AHeap.get_lt gY
  have rY:RdB Y (ptr (H.n+3) 0) ⟨s.ch,cy,x,cs⟩:=⟨_,z,_,_,rfl,by rw[er];exact gz,nc.c⟩
  have cY:=fun o=>Chg.set Y lY o
  cases hk:s.kept with
  |none=>
   rw[hk]at pk
   have:vk=.pointer none:=pk
   subst this
   rw[hk]at hn
   simp(disch:=first|assumption|omega)only[W_block,P3,seval,initFr,clsA,n0,gY,oo,ot]
   exact hn _ _ ⟨_,_,_,_,_,_,_,Y,rfl,kY,cY _,rY,AHeap.get_set_same gY _,rfl,rfl⟩
  |some k=>
   rw[hk]at pk
   have pk0:RdB B vk k:=pk
   obtain⟨bk,zk,ow,rm,rfl,gk,sk⟩:=pk0
   have hne:bk≠b:=fun e=>by subst e;exact(hbB bk (by simp) _ _ _ _ _ gk).2 rfl
   have gkY:=((kB.trans k0).trans kY).at_ gk
   have ek:rdl k zk=[.int .i64 k.ch,.int .i64 k.cy,S64 k.x.oc,S32 k.x.nr,S32 k.x.rv,zk]:=rfl
   rw[ek]at gkY
   rcases Int.lt_trichotomy cy k.cy with hlt|heq|hgt
   ·have h1:¬k.cy≤cy:=by omega
    have f1:(Option.filter (fun k:Rd=>decide (k.cy=cy)) (some k))=none:=by simp;omega
    have f2:(Option.filter (fun k:Rd=>decide (cy<k.cy)) (some k))=some k:=by simp;omega
    rw[hk,f1,f2]at hn
    simp(disch:=first|assumption|omega)only[W_block,P3,seval,initFr,clsA,n0,gY,oo,ot,gkY,hne,h1]
    exact hn _ _ ⟨_,_,_,_,_,_,_,Y,rfl,kY,cY _,rY,AHeap.get_set_same gY _,rfl,pk⟩
   ·have h1:k.cy≤cy:=by omega
    have h2:k.cy=cy:=by omega
    have f1:(Option.filter (fun k:Rd=>decide (k.cy=cy)) (some k))=some k:=by simp;omega
    have f2:(Option.filter (fun k:Rd=>decide (cy<k.cy)) (some k))=none:=by simp;omega
    rw[hk,f1,f2]at hn
    simp(disch:=first|assumption|omega)only[W_block,P3,seval,initFr,clsA,n0,gY,oo,ot,gkY,hne,h1,h2]
    exact hn _ _ ⟨_,_,_,_,_,_,_,Y,rfl,kY,cY _,rY,AHeap.get_set_same gY _,pk,rfl⟩
   ·have h1:k.cy≤cy:=by omega
    have h2:¬k.cy=cy:=by omega
    have f1:(Option.filter (fun k:Rd=>decide (k.cy=cy)) (some k))=none:=by simp;omega
    have f2:(Option.filter (fun k:Rd=>decide (cy<k.cy)) (some k))=none:=by simp;omega
    rw[hk,f1,f2]at hn
    simp(disch:=first|assumption|omega)only[W_block,P3,seval,initFr,clsA,n0,gY,oo,ot,gkY,hne,h1,h2]
    exact hn _ _ ⟨_,_,_,_,_,_,_,Y,rfl,kY,cY _,rY,AHeap.get_set_same gY _,rfl,rfl⟩
 ·rintro fr Z ⟨vt,vk,x7,x8,x9,x10,x11,Y,rfl,kY,cZ,rY,gZ,pt,pk⟩
  have g2Z:=cZ.at_ (kY.at_ g2) (by simp;omega)
  have g1Z:=cZ.at_ (kY.at_ g1) (by simp;omega)
  have hbY:OtR Y [b]:=fun c hm o r z C T e=>hb c hm o r z C T (by
   simp only[List.mem_cons,List.not_mem_nil,or_false]at hm
   subst hm;rwa [(k0.trans kY).get _ lb]at e)
  have cHZ:=(k0.trans kY).chg [b] |>.trans cZ (by simp)
  have hcZ:SlC Z 2 v (cs.map cRow):=hv.oth cHZ fun c hm o r z C T e=>(hb c hm o r z C T e).1
  have tD:=t71 (r:=⟨s.ch,cy,x,cs⟩) hcZ.s (by show cs.length≤_;omega)
  rw[er]at tD
  simp(disch:=first|assumption|omega|(simp only[LN]<;>omega)|(simp(disch:=first|assumption|omega|(simp only[LN]<;>omega))only[row_alloc,row_set];assumption))only[f37,cpost,W_block,P3,seval,initFr,clsA,g2Z]
  refine callK tD ?_
  rintro _ V ⟨z,rfl,gz,nc⟩
  rw[er]at gz
  have kV:=nc.k
  have g1V:=kV.at_ g1Z
  have l1V:=AHeap.get_lt g1V
  have oz:=Sl.one nc.c.s
  simp(disch:=first|assumption|omega|(simp only[LN]<;>omega)|(simp(disch:=first|assumption|omega|(simp only[LN]<;>omega))only[row_alloc,row_set];assumption))only[W_block,P3,seval,initFr,clsA,gz,g1V,oz,o_s64,o_s32,one_s64,one_s32]
  have cV:=Chg.set V l1V (.cells true false 6 [.int .i64 s.ch,.int .i64 cy,S64 x.oc,S32 x.nr,S32 x.rv,z] 49)
  have n1:=kY.n
  have n2:=cZ.n
  have n3:=kV.n
  have fz:∀b,blk z=some b→Z.n≤b:=nc.f
  have rZ:=rY.oth cZ hbY
  have cAll:=cHZ.trans (kV.chg [b]) (by simp) |>.trans (cV.mono (T:=[b,H.n+1]) (by simp)) (by simp)
  have cA:Chg [b] H (V.set (H.n+1) (.cells true false 6 [.int .i64 s.ch,.int .i64 cy,S64 x.oc,S32 x.nr,S32 x.rv,z] 49)):=⟨cAll.n,fun c h1 h2=>cAll.get c h1 (by simp at h2 ⊢;omega)⟩
  have o1:∀c∈[H.n+1],∀o r z C T,V.get c=some (.cells o r z C T)→z≠2:=fun c hm o r y C T e=>by
   simp only[List.mem_cons,List.not_mem_nil,or_false]at hm
   subst hm;rw[g1V]at e;cases e;decide
  have rF:=(rZ.oth (kV.chg []) (fun c h=>by cases h)).ne cV (by simp) o1
  have gF:=(AHeap.get_set_other V (by omega) l1V (.cells true false 6 [.int .i64 s.ch,.int .i64 cy,S64 x.oc,S32 x.nr,S32 x.rv,z] 49)).trans (kV.at_ gZ)
  exact hq2 _ _ ⟨_,res_ct (p:=H.n+1) (AHeap.get_set_same g1V _) rfl rfl rfl,cA,fun S K' c hbS hS=>⟨_,_,_,c.at_ gF hbS,rF.ne c (fun hm=>by have:=(hS _ hm).2.1;omega) (fun x hx=>(hS x hx).2.2),pt.oth (toB cA c hS) hbB,pk.oth (toB cA c hS) hbB⟩,z,rfl,nc.c.chg cV (fun c h1 h2=>by have:=fz c h1;simp at h2;omega)⟩
def merB(s:Sd):Bool:=s.own.isSome&&(s.other.isSome&& !s.br)
def merX(s:Sd):Inp:=match s.own,s.other,s.br with
 |some a,some c,false=>mrgX a.x c.x
 |_,_,_=>X0
def merC(s:Sd):List (Int×Int):=match s.own,s.other,s.br with
 |some a,some c,false=>mrgC a.c c.c
 |_,_,_=>[]
theorem fillI0:fillA [.int .u64 0,.int .u32 0,.int .u32 0,.slice none 0 0] []=some [.int .u64 0,.int .u32 0,.int .u32 0,.slice none 0 0]:=rfl
theorem t39{H:AHeap}{b:Nat}{s:Sd}(h:AgR H b s)(hs:SOk s):∃w K,ARun Tryz.prog 0 39 [ptr b 0] H w K∧∃z,w=.tuple #[.agg (inl (merX s) z).toArray,.bool (merB s)]∧NewC H K z (merC s):=by
 refine walk2 f39_ok f39_n ?_
 intro Q hq1 hq2
 obtain⟨vo,vt,vk,g,po,pt,pk⟩:=h
 have lb:=AHeap.get_lt g
 have kA:=(Keeps.refl H).alloc (.cells true false 4 [.int .u64 0,.int .u32 0,.int .u32 0,.slice none 0 0] 46)
 have gA:=AHeap.get_alloc_new H (.cells true false 4 [.int .u64 0,.int .u32 0,.int .u32 0,.slice none 0 0] 46)
 have no:merX s=X0→merC s=[]→merB s=false→∀{fr:List Value},fr.getD 1 undef=ptr H.n 0→fr.getD 2 undef=.bool false→Q .ret fr (H.alloc (.cells true false 4 [.int .u64 0,.int .u32 0,.int .u32 0,.slice none 0 0] 46)):=fun e1 e2 e3 fr h1 h2=>by
  simp only[e1,e2,e3,inl_0]at hq2
  exact hq2 _ _ ⟨_,res_ct (p:=H.n) gA rfl h1 h2,.slice none 0 0,rfl,kA,⟨Sl.nil _ _,.inl rfl⟩,fun b hb=>by cases hb⟩
 cases ho:s.own with
 |none=>
  rw[ho]at po
  have:vo=.pointer none:=po
  subst this
  simp(disch:=first|assumption|omega|(simp only[LN]<;>omega)|(simp(disch:=first|assumption|omega|(simp only[LN]<;>omega))only[row_alloc,row_set];assumption))only[f39,W_block,P3,seval,initFr,clsA,g,fillI0]
  exact no (by unfold merX;rw[ho]) (by unfold merC;rw[ho]) (by unfold merB;rw[ho];rfl) rfl rfl
 |some a=>
 rw[ho]at po
 obtain⟨ba,za,oa,ra,rfl,ga,sa⟩:=(show RdB H vo a from po)
 cases ht:s.other with
 |none=>
  rw[ht]at pt
  have:vt=.pointer none:=pt
  subst this
  simp(disch:=first|assumption|omega|(simp only[LN]<;>omega)|(simp(disch:=first|assumption|omega|(simp only[LN]<;>omega))only[row_alloc,row_set];assumption))only[f39,W_block,P3,seval,initFr,clsA,g,fillI0]
  exact no (by unfold merX;rw[ho,ht]) (by unfold merC;rw[ho,ht]) (by unfold merB;rw[ho,ht];rfl) rfl rfl
 |some c=>
 rw[ht]at pt
 obtain⟨bc,zc,oc,rc,rfl,gc,sc⟩:=(show RdB H vt c from pt)
 cases hbr:s.br with
 |true=>
  rw[hbr]at g
  simp(disch:=first|assumption|omega|(simp only[LN]<;>omega)|(simp(disch:=first|assumption|omega|(simp only[LN]<;>omega))only[row_alloc,row_set];assumption))only[f39,W_block,P3,seval,initFr,clsA,g,fillI0]
  exact no (by unfold merX;rw[ho,ht,hbr]) (by unfold merC;rw[ho,ht,hbr]) (by unfold merB;rw[ho,ht,hbr];rfl) rfl rfl
 |false=>
 rw[hbr]at g
 have e1:merX s=mrgX a.x c.x:=by unfold merX;rw[ho,ht,hbr]
 have e2:merC s=mrgC a.c c.c:=by unfold merC;rw[ho,ht,hbr]
 have e3:merB s=true:=by unfold merB;rw[ho,ht,hbr];rfl
 simp only[e1,e2,e3]at hq1 hq2
 have ga':=kA.at_ ga
 have gc':=kA.at_ gc
 have tM:=t74 (x:=a.x) (y:=c.x) (sa.keeps kA).s (sc.keeps kA).s (by have:=(hs.own a ho).1;omega) (by have:=(hs.other c ht).1.1;omega)
 have la:=AHeap.get_lt ga
 have lc:=AHeap.get_lt gc
 have ea:∀z,inl a.x z=[S64 a.x.oc,S32 a.x.nr,S32 a.x.rv,z]:=fun _=>rfl
 have ec:∀z,inl c.x z=[S64 c.x.oc,S32 c.x.nr,S32 c.x.rv,z]:=fun _=>rfl
 simp only[ea,ec]at tM
 have era:∀z,rdl a z=[.int .i64 a.ch,.int .i64 a.cy,S64 a.x.oc,S32 a.x.nr,S32 a.x.rv,z]:=fun _=>rfl
 have erc:∀z,rdl c z=[.int .i64 c.ch,.int .i64 c.cy,S64 c.x.oc,S32 c.x.nr,S32 c.x.rv,z]:=fun _=>rfl
 rw[era]at ga ga'
 rw[erc]at gc gc'
 simp(disch:=first|assumption|omega|(simp only[LN]<;>omega)|(simp(disch:=first|assumption|omega|(simp only[LN]<;>omega))only[row_alloc,row_set];assumption))only[f39,W_block,P3,seval,initFr,clsA,g,ga,gc,fillI0]
 refine callK tM ?_
 rintro _ V ⟨z,rfl,nc⟩
 have kV:=nc.k
 have gV:=kV.at_ gA
 have lV:=AHeap.get_lt gV
 have oz:=Sl.one nc.c.s
 have em:∀z,inl (mrgX a.x c.x) z=[S64 (mrgX a.x c.x).oc,S32 (mrgX a.x c.x).nr,S32 (mrgX a.x c.x).rv,z]:=fun _=>rfl
 simp only[em]at hq2 ⊢
 simp(disch:=first|assumption|omega|(simp only[LN]<;>omega)|(simp(disch:=first|assumption|omega|(simp only[LN]<;>omega))only[row_alloc,row_set];assumption))only[W_block,P3,seval,initFr,clsA,gV,oz,o_s64,o_s32,one_s64,one_s32]
 have fz:∀b,blk z=some b→H.n+1≤b:=nc.f
 have cV:=Chg.set V lV (.cells true false 4 [S64 (mrgX a.x c.x).oc,S32 (mrgX a.x c.x).nr,S32 (mrgX a.x c.x).rv,z] 46)
 exact hq2 _ _ ⟨_,res_ct (p:=H.n) (AHeap.get_set_same gV _) rfl rfl rfl,z,rfl,(kA.trans kV).chg_trans cV (by simp),nc.c.chg cV (fun b h1 h2=>by have:=fz b h1;simp at h2;omega),fun b h1=>by have:=fz b h1;omega⟩
theorem t40{H:AHeap}{b:Nat}{s:Sd}(h:AgR H b s):∃w K,ARun Tryz.prog 0 40 [ptr b 0] H w K∧w=.int .i64 s.cy∧K=H:=by
 refine walk2 f40_ok f40_n ?_
 intro Q hq1 hq2
 obtain⟨vo,vt,vk,g,po,pt,pk⟩:=h
 simp(disch:=first|assumption|omega)only[f40,W_block,P3,seval,initFr,clsA,g]
 exact hq2 _ _ ⟨.int .i64 s.cy,rfl,rfl,rfl⟩
theorem t72{H:AHeap}{v:Value}{a r:Rd}{p T:Nat}{z:Value}{o rm:Bool}(ha:RdB H v a)(g:H.get p=some (.cells o rm 6 (rdl r z) T))(hz:CL H z r.c)(la:a.c.length≤1000)(lr:r.c.length≤1000):
 ∃w K,ARun Tryz.prog 0 72 [v,ptr p 0] H w K∧w=.bool (decide (a.cy=r.cy)&&samI a.x a.c r.x r.c)∧K=H:=by
 refine walk2 f72_ok f72_n ?_
 intro Q hq1 hq2
 obtain⟨ba,za,oa,ra,rfl,ga,sa⟩:=ha
 have tS:=t73 (x:=a.x) (y:=r.x) sa.s hz (by omega) (by omega)
 have ea:∀z,inl a.x z=[S64 a.x.oc,S32 a.x.nr,S32 a.x.rv,z]:=fun _=>rfl
 have ec:∀z,inl r.x z=[S64 r.x.oc,S32 r.x.nr,S32 r.x.rv,z]:=fun _=>rfl
 simp only[ea,ec]at tS
 have era:∀z,rdl a z=[.int .i64 a.ch,.int .i64 a.cy,S64 a.x.oc,S32 a.x.nr,S32 a.x.rv,z]:=fun _=>rfl
 have erc:∀z,rdl r z=[.int .i64 r.ch,.int .i64 r.cy,S64 r.x.oc,S32 r.x.nr,S32 r.x.rv,z]:=fun _=>rfl
 rw[era]at ga
 rw[erc]at g
 by_cases e:a.cy=r.cy
 ·have hd:decide (a.cy=r.cy)=true:=by simp[e]
  simp(disch:=first|assumption|omega|(simp only[LN]<;>omega)|(simp(disch:=first|assumption|omega|(simp only[LN]<;>omega))only[row_alloc,row_set];assumption))only[f72,W_block,P3,seval,initFr,clsA,ga,g,e]
  refine callK tS ?_
  rintro _ X ⟨rfl,hX⟩
  rw[hX]
  simp(disch:=first|assumption|omega)only[W_block,P3,seval,initFr,clsA]
  exact hq2 _ _ ⟨.bool _,rfl,by rw[hd];simp,rfl⟩
 ·have hd:decide (a.cy=r.cy)=false:=by simp[e]
  simp(disch:=first|assumption|omega)only[f72,W_block,P3,seval,initFr,clsA,ga,g,e]
  exact hq2 _ _ ⟨.bool false,rfl,by rw[hd];rfl,rfl⟩
def heaE(s:Sd)(r:Rd):Int:=if r.ch≠IntKind.i64.wrap (1-s.ch)then 2 else if r.cy<s.cy then 190 else if s.cy<r.cy then
 (match s.kept with
 |none=>0
 |some k=>if k.cy<r.cy then 0 else if decide (k.cy=r.cy)&&samI k.x k.c r.x r.c then 0 else 4)
 else match s.other with
  |none=>0
  |some o=>if samI o.x o.c r.x r.c then 0 else 4
def heaS(s:Sd)(r:Rd):Sd:=if r.ch≠IntKind.i64.wrap (1-s.ch)then s else if r.cy<s.cy then s else if s.cy<r.cy then
 (match s.kept with
 |none=>{s with kept:=some r}
 |some k=>if k.cy<r.cy then{s with kept:=some r}else s)
 else match s.other with
  |none=>{s with other:=some r}
  |some o=>if samI o.x o.c r.x r.c then s else{s with br:=true}
theorem heaS_ok{s:Sd}{r:Rd}(h:SOk s)(hr:ROk r):SOk (heaS s r):=by
 unfold heaS
 split
 ·exact h
 split
 ·exact h
 split
 ·split
  ·exact⟨h.own,h.other,fun q e=>by cases e;exact hr⟩
  ·split
   ·exact⟨h.own,h.other,fun q e=>by cases e;exact hr⟩
   ·exact h
 ·rename_i h1 h2 h3
  split
  ·exact⟨h.own,fun q e=>by cases e;exact⟨hr,by show r.cy=s.cy;omega⟩,h.kept⟩
  ·split
   ·exact h
   ·exact⟨h.own,h.other,h.kept⟩
set_option maxHeartbeats 2000000 in
theorem t38{H:AHeap}{b:Nat}{s:Sd}{r:Rd}{v:Value}(h:AgR H b s)(hs:SOk s)(hr:ROk r)(hv:SlC H 2 v (r.c.map cRow)):
 ∃w K,ARun Tryz.prog 0 38 [ptr b 0,.iface 49 (.agg (rdl r v).toArray)] H w K∧w=.int .i64 (heaE s r)∧Chg [b] H K∧AgR K b (heaS s r):=by
 refine walk2 f38_ok f38_n ?_
 intro Q hq1 hq2
 have hb:=h.otr
 have hA:=h
 obtain⟨vo,vt,vk,g,po,pt,pk⟩:=h
 have lb:=AHeap.get_lt g
 have ov:=Sl.one hv.s
 have oo:=po.one
 have ot:=pt.one
 have ok:=pk.one
 have er:∀z,rdl r z=[.int .i64 r.ch,.int .i64 r.cy,S64 r.x.oc,S32 r.x.nr,S32 r.x.rv,z]:=fun _=>rfl
 obtain⟨K0,hK0⟩:∃X,X=H.alloc (.cells true false 6 (rdl r v) 49):=⟨_,rfl⟩
 have k0:Keeps H K0:=by rw[hK0];exact(Keeps.refl H).alloc _
 have n0:K0.n=H.n+1:=by rw[hK0];rfl
 have g0:K0.get H.n=some (.cells true false 6 (rdl r v) 49):=by rw[hK0];exact AHeap.get_alloc_new H _
 have gb0:=k0.at_ g
 have g0':=g0
 rw[er]at hK0 g0'
 have same:heaS s r=s→∀{fr:List Value} {e:Int} {K:AHeap},Keeps H K→heaE s r=e→fr.getD 2 undef=.int .i64 e→Q .ret fr K:=fun e1 fr e K k e2 h1=>by
  rw[e1,e2]at hq2
  exact hq2 _ _ ⟨.int .i64 e,by show some (tupV [fr.getD 2 undef])=_;rw[h1];rfl,rfl,k.chg _,hA.keeps k⟩
 have tC:=t71 (hv.keeps k0).s (by have:=hr.1;omega)
 rw[er]at tC
 have rdY:∀{Y:AHeap} {z:Value},Y.get K0.n=some (.cells true false 6 (rdl r z) 49)→NewC K0 Y z r.c→∀o,RdB (Y.set b o) (ptr K0.n 0) r:=fun{Y z} g nc o=>by
  have gY:=nc.k.at_ gb0
  have fz:∀b,blk z=some b→K0.n≤b:=nc.f
  exact⟨K0.n,z,_,_,rfl,(AHeap.get_set_other Y (by omega) (AHeap.get_lt gY) _).trans g,nc.c.chg (Chg.set Y (AHeap.get_lt gY) o) (fun c h1 h2=>by have:=fz c h1;simp at h2;omega)⟩
 have cY:∀{Y:AHeap},Keeps K0 Y→∀o,Chg [b] H (Y.set b o):=fun{Y} k o=>((k0.trans k).chg [b]).trans (Chg.set Y (AHeap.get_lt (k.at_ gb0)) o) (by simp)
 rw[er]
 by_cases h1:r.ch=IntKind.i64.wrap (1-s.ch)
 case neg=>
  have e1:heaS s r=s:=by unfold heaS;rw[if_pos h1]
  have e2:heaE s r=2:=by unfold heaE;rw[if_pos h1]
  simp(disch:=first|assumption|omega|(simp only[LN]<;>omega)|(simp(disch:=first|assumption|omega|(simp only[LN]<;>omega))only[row_alloc,row_set];assumption))only[f38,W_block,P3,seval,initFr,clsA,ov,o_s64,o_s32,one_s64,one_s32,g]
  rw[←hK0]
  exact same e1 k0 e2 rfl
 case pos=>
 have en:¬r.ch≠IntKind.i64.wrap (1-s.ch):=fun e=>e h1
 by_cases h2:r.cy<s.cy
 ·have e1:heaS s r=s:=by unfold heaS;rw[if_neg en,if_pos h2]
  have e2:heaE s r=190:=by unfold heaE;rw[if_neg en,if_pos h2]
  simp(disch:=first|assumption|omega|(simp only[LN]<;>omega)|(simp(disch:=first|assumption|omega|(simp only[LN]<;>omega))only[row_alloc,row_set];assumption))only[f38,W_block,P3,seval,initFr,clsA,ov,o_s64,o_s32,one_s64,one_s32,g,h2]
  rw[←hK0]
  exact same e1 k0 e2 rfl
 by_cases h3:s.cy<r.cy
 ·cases hk:s.kept with
  |none=>
   have e1:heaS s r={s with kept:=some r}:=by unfold heaS;rw[if_neg en,if_neg h2,if_pos h3,hk]
   have e2:heaE s r=0:=by unfold heaE;rw[if_neg en,if_neg h2,if_pos h3,hk]
   rw[hk]at pk
   have:vk=.pointer none:=pk
   subst this
   simp(disch:=first|assumption|omega|(simp only[LN]<;>omega)|(simp(disch:=first|assumption|omega|(simp only[LN]<;>omega))only[row_alloc,row_set];assumption))only[f38,W_block,P3,seval,initFr,clsA,ov,o_s64,o_s32,one_s64,one_s32,g,h2,h3]
   rw[←hK0]
   refine callK tC ?_
   rintro _ Y ⟨z,rfl,gz,nc⟩
   have gY:=nc.k.at_ gb0
   have lY:=AHeap.get_lt gY
   simp(disch:=first|assumption|omega)only[W_block,P3,seval,initFr,clsA,gY,oo,ot]
   exact hq2 _ _ ⟨.int .i64 0,rfl,by rw[e2],cY nc.k _,by rw[e1];exact⟨_,_,_,AHeap.get_set_same gY _,po.oth (cY nc.k _) hb,pt.oth (cY nc.k _) hb,rdY gz nc _⟩⟩
  |some k=>
   rw[hk]at pk
   obtain⟨bk,zk,ow,rm,rfl,gk,sk⟩:=(show RdB H vk k from pk)
   have gk0:=k0.at_ gk
   have ek:rdl k zk=[.int .i64 k.ch,.int .i64 k.cy,S64 k.x.oc,S32 k.x.nr,S32 k.x.rv,zk]:=rfl
   rw[ek]at gk gk0
   have lk:=AHeap.get_lt gk
   by_cases h4:k.cy<r.cy
   ·have e1:heaS s r={s with kept:=some r}:=by unfold heaS;rw[if_neg en,if_neg h2,if_pos h3,hk];simp only[h4,if_true]
    have e2:heaE s r=0:=by unfold heaE;rw[if_neg en,if_neg h2,if_pos h3,hk];simp only[h4,if_true]
    simp(disch:=first|assumption|omega|(simp only[LN]<;>omega)|(simp(disch:=first|assumption|omega|(simp only[LN]<;>omega))only[row_alloc,row_set];assumption))only[f38,W_block,P3,seval,initFr,clsA,ov,o_s64,o_s32,one_s64,one_s32,g,h2,h3,gk,h4]
    rw[←hK0]
    refine callK tC ?_
    rintro _ Y ⟨z,rfl,gz,nc⟩
    have gY:=nc.k.at_ gb0
    have lY:=AHeap.get_lt gY
    simp(disch:=first|assumption|omega)only[W_block,P3,seval,initFr,clsA,gY,oo,ot]
    exact hq2 _ _ ⟨.int .i64 0,rfl,by rw[e2],cY nc.k _,by rw[e1];exact⟨_,_,_,AHeap.get_set_same gY _,po.oth (cY nc.k _) hb,pt.oth (cY nc.k _) hb,rdY gz nc _⟩⟩
   ·have e1:heaS s r=s:=by unfold heaS;rw[if_neg en,if_neg h2,if_pos h3,hk];simp only[h4,if_false]
    have e2:heaE s r=if decide (k.cy=r.cy)&&samI k.x k.c r.x r.c then 0 else 4:=by unfold heaE;rw[if_neg en,if_neg h2,if_pos h3,hk];simp only[h4,if_false]
    have tH:=t72 (a:=k) (RdB.oth pk (k0.chg []) (fun c hc=>by cases hc)) g0 (hv.keeps k0).s (hs.kept k hk).1 hr.1
    simp(disch:=first|assumption|omega|(simp only[LN]<;>omega)|(simp(disch:=first|assumption|omega|(simp only[LN]<;>omega))only[row_alloc,row_set];assumption))only[f38,W_block,P3,seval,initFr,clsA,ov,o_s64,o_s32,one_s64,one_s32,g,h2,h3,gk,h4]
    rw[←hK0]
    refine callK tH ?_
    rintro _ X ⟨rfl,hX⟩
    rw[hX]
    cases hB:(decide (k.cy=r.cy)&&samI k.x k.c r.x r.c)with
    |true=>
     rw[hB]at e2
     simp(disch:=first|assumption|omega)only[W_block,P3,seval,initFr,clsA]
     exact same e1 k0 e2 rfl
    |false=>
     rw[hB]at e2
     simp(disch:=first|assumption|omega)only[W_block,P3,seval,initFr,clsA]
     exact same e1 k0 e2 rfl
 ·cases ht:s.other with
  |none=>
   have e1:heaS s r={s with other:=some r}:=by unfold heaS;rw[if_neg en,if_neg h2,if_neg h3,ht]
   have e2:heaE s r=0:=by unfold heaE;rw[if_neg en,if_neg h2,if_neg h3,ht]
   rw[ht]at pt
   have:vt=.pointer none:=pt
   subst this
   simp(disch:=first|assumption|omega|(simp only[LN]<;>omega)|(simp(disch:=first|assumption|omega|(simp only[LN]<;>omega))only[row_alloc,row_set];assumption))only[f38,W_block,P3,seval,initFr,clsA,ov,o_s64,o_s32,one_s64,one_s32,g,h2,h3]
   rw[←hK0]
   refine callK tC ?_
   rintro _ Y ⟨z,rfl,gz,nc⟩
   have gY:=nc.k.at_ gb0
   have lY:=AHeap.get_lt gY
   simp(disch:=first|assumption|omega)only[W_block,P3,seval,initFr,clsA,gY,oo,ok]
   exact hq2 _ _ ⟨.int .i64 0,rfl,by rw[e2],cY nc.k _,by rw[e1];exact⟨_,_,_,AHeap.get_set_same gY _,po.oth (cY nc.k _) hb,rdY gz nc _,pk.oth (cY nc.k _) hb⟩⟩
  |some k=>
   rw[ht]at pt
   obtain⟨bk,zk,ow,rm,rfl,gk,sk⟩:=(show RdB H vt k from pt)
   have ecy:decide (k.cy=r.cy)=true:=by have:=(hs.other k ht).2;simp;omega
   have tH:=t72 (a:=k) (RdB.oth pt (k0.chg []) (fun c hc=>by cases hc)) g0 (hv.keeps k0).s (hs.other k ht).1.1 hr.1
   simp(disch:=first|assumption|omega|(simp only[LN]<;>omega)|(simp(disch:=first|assumption|omega|(simp only[LN]<;>omega))only[row_alloc,row_set];assumption))only[f38,W_block,P3,seval,initFr,clsA,ov,o_s64,o_s32,one_s64,one_s32,g,h2,h3]
   rw[←hK0]
   refine callK tH ?_
   rintro _ X ⟨rfl,hX⟩
   rw[hX,ecy,Bool.true_and]
   cases hB:samI k.x k.c r.x r.c with
   |true=>
    have e1:heaS s r=s:=by unfold heaS;rw[if_neg en,if_neg h2,if_neg h3,ht];simp only[hB,if_true]
    have e2:heaE s r=0:=by unfold heaE;rw[if_neg en,if_neg h2,if_neg h3,ht];simp only[hB,if_true]
    simp(disch:=first|assumption|omega)only[W_block,P3,seval,initFr,clsA]
    exact same e1 k0 e2 rfl
   |false=>
    have e1:heaS s r={s with br:=true}:=by unfold heaS;rw[if_neg en,if_neg h2,if_neg h3,ht];simp[hB]
    have e2:heaE s r=4:=by unfold heaE;rw[if_neg en,if_neg h2,if_neg h3,ht];simp[hB]
    have l0:=AHeap.get_lt gb0
    simp(disch:=first|assumption|omega)only[W_block,P3,seval,initFr,clsA,gb0,oo,ok]
    exact hq2 _ _ ⟨.int .i64 4,rfl,by rw[e2],cY (Keeps.refl _) _,by rw[e1];exact⟨_,_,_,AHeap.get_set_same gb0 _,po.oth (cY (Keeps.refl _) _) hb,by rw[ht];exact pt.oth (cY (Keeps.refl _) _) hb,pk.oth (cY (Keeps.refl _) _) hb⟩⟩
end Go.AM.Fd

set_option maxRecDepth 8000
namespace Go.AM.Fd
open Go.Proofs Go.AM.F
theorem sd_inv{P:Program}{ng:Nat}{H:AHeap}{fr tm:List Value}{KF:List Value→AHeap→Prop}{tr:List TE}(d:D)(un:List Nat)(rd:List (AOper×List Nat)){t:TypeId}{nm:String}{g:FuncId}(h:methT P t nm=some g)(v:Value)(xs:List Value):
 stD P ng (.inv nm (.iface t v) xs) d un rd fr tm H tr KF=callD P ng g (v::xs) d un rd fr tm H tr KF:=by
 show(match methT P t nm with
  |some g=>∃v' H',ARun P ng g (v::xs) H v' H'∧_
  |none=>False)=_
 rw[h];rfl
structure Chv where
 wh:Int
 ls:Value
 lp:Value
 lr:Value
 iv:Value
 ep:Int
 fl:Int
 sb:Nat
 tk:Bool
 nx:Value
def chl(c:Chv)(s:Sta):List Value:=[.int .i64 c.wh,c.ls,c.lp,.slice none 0 0,c.lr,c.iv]++(stl s++[.int .i64 c.ep,.int .i64 c.fl,ptr c.sb 0,.bool c.tk,c.nx])
theorem chl_len(c:Chv)(s:Sta):(chl c s).length=79:=by simp[chl,stl_len]
section
variable (c:Chv) (s:Sta)
theorem chl_0:(chl c s)[0]? =some (.int .i64 c.wh):=rfl
theorem chl_5:(chl c s)[5]? =some c.iv:=rfl
theorem chl_e(i:Nat)(h:i<5):(chl c s)[74+i]? =[Value.int .i64 c.ep,.int .i64 c.fl,ptr c.sb 0,.bool c.tk,c.nx][i]? :=by
 unfold chl
 rw[List.getElem?_append_right (by simp;omega),List.getElem?_append_right (by rw[stl_len];simp;omega),stl_len]
 congr 1
 simp
 omega
theorem chl_74:(chl c s)[74]? =some (.int .i64 c.ep):=chl_e c s 0 (by omega)
theorem chl_75:(chl c s)[75]? =some (.int .i64 c.fl):=chl_e c s 1 (by omega)
theorem chl_76:(chl c s)[76]? =some (ptr c.sb 0):=chl_e c s 2 (by omega)
theorem chl_77:(chl c s)[77]? =some (.bool c.tk):=chl_e c s 3 (by omega)
theorem chl_78:(chl c s)[78]? =some c.nx:=chl_e c s 4 (by omega)
theorem chl_l:((chl c s).drop 1).take 4=[c.ls,c.lp,.slice none 0 0,c.lr]:=rfl
theorem chl_s:((chl c s).drop 6).take 68=stl s:=by
 show(stl s++_).take 68=_
 rw[List.take_append_of_le_length (by rw[stl_len];omega),List.take_of_length_le (by rw[stl_len];omega)]
theorem chl_es(i:Nat)(h:i<5)(x:Value):(chl c s).set (74+i) x=[.int .i64 c.wh,c.ls,c.lp,.slice none 0 0,c.lr,c.iv]++(stl s++[Value.int .i64 c.ep,.int .i64 c.fl,ptr c.sb 0,.bool c.tk,c.nx].set i x):=by
 unfold chl
 rw[List.set_append_right _ _ (by simp;omega),List.set_append_right _ _ (by rw[stl_len];simp;omega),stl_len]
 congr 3
 simp
 omega
theorem chl_s77(b:Bool):(chl c s).set 77 (.bool b)=chl {c with tk:=b} s:=chl_es c s 3 (by omega) _
theorem chl_s78(v:Value):(chl c s).set 78 v=chl {c with nx:=v} s:=chl_es c s 4 (by omega) _
theorem chl_sS(t:Sta):(chl c s).take 6++stl t++(chl c s).drop (6+68)=chl c t:=by
 have h1:(chl c s).take 6=[.int .i64 c.wh,c.ls,c.lp,.slice none 0 0,c.lr,c.iv]:=rfl
 have h2:(chl c s).drop (6+68)=[.int .i64 c.ep,.int .i64 c.fl,ptr c.sb 0,.bool c.tk,c.nx]:=by
  show(stl s++_).drop 68=_
  rw[List.drop_append_of_le_length (by rw[stl_len];omega),List.drop_of_length_le (by rw[stl_len];omega)];rfl
 rw[h1,h2,List.append_assoc];rfl
end
theorem chl_one{c:Chv}(s:Sta)(hi:∃t x,c.iv=.iface t x)(ha:isS c.ls=true)(hb:isS c.lp=true)(hc:isS c.lr=true)(hn:c.nx.oneCell'=true):(chl c s).all Value.oneCell'=true:=by
 obtain⟨wh,ls,lp,lr,iv,ep,fl,sb,tk,nx⟩:=c
 obtain⟨t,x,hi⟩:=hi
 simp only at hi ha hb hc hn
 subst hi
 simp only[chl,List.all_append,stl_one,List.all_cons,List.all_nil,one_isS ha,one_isS hb,one_isS hc,hn]
 rfl
def nR(H:AHeap)(v:Value)(o:Option Sta):Prop:=match o with
 |none=>v=.pointer none
 |some t=>∃b own rm,v=ptr b 0∧H.get b=some (.cells own rm 68 (stl t) 43)
theorem nR.oth{H K:AHeap}{S:List Nat}{v:Value}{o:Option Sta}(h:nR H v o)(k:Chg S H K)(hS:∀b∈S,∀o r z C T,H.get b=some (.cells o r z C T)→z≠68):nR K v o:=by
 cases o with
 |none=>exact h
 |some t=>
  obtain⟨b,ow,rm,rfl,g⟩:=h
  exact⟨b,ow,rm,rfl,k.at_ g fun hm=>hS b hm _ _ _ _ _ g rfl⟩
def MaM(H:AHeap)(v:Value)(L:Ly):Prop:=(∃b,v=.iface 35 (ptr b 0)∧MaA H b L)∨∃b,v=.iface 139 (ptr b 0)∧MaR H b L
structure Ch where
 s:Sta
 ep:Int
 fl:Int
 sd:Sd
 tk:Bool
 nx:Option Sta
structure Wd where
 B:AHeap
 S:List Nat
def Wd.ok(W:Wd)(b:Nat):Prop:=b∈W.S∨W.B.n≤b
structure ChV (W:Wd) (H:AHeap) (c sb:Nat) (wh:Int) (L:Ly) (v:Chv) (C:Ch):Prop where
 e:v.wh=wh∧v.sb=sb∧v.ep=C.ep∧v.fl=C.fl∧v.tk=C.tk
 g:H.get c=some (.cells true false 79 (chl v C.s) 99)
 l:LLen ⟨v.ls,v.lp,.slice none 0 0,v.lr⟩ L.s.length L.p.length L.r.length
 n:nR H v.nx C.nx
 m:∀K,Chg W.S W.B K→MaM K v.iv L
 sd:AgR H sb C.sd
 ok:SOk C.sd
 ch:C.sd.ch=wh
 w:Chg W.S W.B H
 wc:W.ok c
 ws:W.ok sb
def ChR(W:Wd)(H:AHeap)(c sb:Nat)(wh:Int)(L:Ly)(C:Ch):Prop:=∃v,ChV W H c sb wh L v C
theorem ChV.ms{W:Wd}{H:AHeap}{c sb:Nat}{wh:Int}{L:Ly}{v:Chv}{C:Ch}(h:ChV W H c sb wh L v C):MaM H v.iv L:=h.m H h.w
theorem ChV.ne{W:Wd}{H:AHeap}{c sb:Nat}{wh:Int}{L:Ly}{v:Chv}{C:Ch}(h:ChV W H c sb wh L v C):c≠sb:=by
 obtain⟨_,_,_,g,_⟩:=h.sd
 intro e;subst e;rw[h.g]at g;cases g
theorem ChV.o68{W:Wd}{H:AHeap}{c sb:Nat}{wh:Int}{L:Ly}{v:Chv}{C:Ch}(h:ChV W H c sb wh L v C):∀b∈[c,sb],∀o r z C T,H.get b=some (.cells o r z C T)→z≠68∧z≠2∧T≠49:=by
 obtain⟨_,_,_,g,_⟩:=h.sd
 intro b hb o r z C T e
 simp only[List.mem_cons,List.not_mem_nil,or_false]at hb
 rcases hb with rfl|rfl
 ·rw[h.g]at e;cases e;decide
 ·rw[g]at e;cases e;decide
theorem ChV.up{W:Wd}{H K:AHeap}{c sb:Nat}{wh:Int}{L:Ly}{v:Chv}{C:Ch}(h:ChV W H c sb wh L v C)(k:Chg [c,sb] H K):Chg W.S W.B K:=
 h.w.trans k fun x hx=>by
  simp only[List.mem_cons,List.not_mem_nil,or_false]at hx
  rcases hx with rfl|rfl
  ·exact h.wc
  ·exact h.ws
theorem ChV.oth{W:Wd}{H K:AHeap}{c sb:Nat}{wh:Int}{L:Ly}{v:Chv}{C:Ch}{S:List Nat}(h:ChV W H c sb wh L v C)(k:Chg S H K)(hc:c∉S)(hs:sb∉S)(hW:∀x∈S,x∈W.S∨W.B.n≤x)
 (hS:∀b∈S,∀o r z C T,H.get b=some (.cells o r z C T)→z≠68∧z≠2∧T≠49):ChV W K c sb wh L v C:=
 ⟨h.e,k.at_ h.g hc,h.l,h.n.oth k fun b hb o r z C T e=>(hS b hb o r z C T e).1,h.m,h.sd.oth k hs fun b hb o r z C T e=>(hS b hb o r z C T e).2,h.ok,h.ch,h.w.trans k hW,h.wc,h.ws⟩
theorem ChV.keeps{W:Wd}{H K:AHeap}{c sb:Nat}{wh:Int}{L:Ly}{v:Chv}{C:Ch}(h:ChV W H c sb wh L v C)(k:Keeps H K):ChV W K c sb wh L v C:=h.oth (k.chg []) (by simp) (by simp) (by simp) (by simp)
theorem ChR.keeps{W:Wd}{H K:AHeap}{c sb:Nat}{wh:Int}{L:Ly}{C:Ch}(h:ChR W H c sb wh L C)(k:Keeps H K):ChR W K c sb wh L C:=by
 obtain⟨v,h⟩:=h;exact⟨v,h.keeps k⟩
end Go.AM.Fd

set_option maxRecDepth 8000
namespace Go.AM.Fd
open Nat (reduceAdd reduceEqDiff reduceLT reduceLeDiff reduceMul reduceSub)
open Go.Proofs Go.AM.F
theorem t34{H:AHeap}(n:Int):∃w K,ARun Tryz.prog 0 34 [.int .i64 n] H w K∧w=.bool (decide (0≤n)&&decide (n≤1099511627776))∧K=H:=by
 refine walk2 f34_ok f34_n ?_
 intro Q hq1 hq2
 by_cases h1:0≤n
 ·simp(disch:=first|assumption|omega)only[f34,W_block,P3,seval,initFr,clsA,h1]
  exact hq2 _ _ ⟨.bool _,rfl,by simp[h1],rfl⟩
 ·simp(disch:=first|assumption|omega)only[f34,W_block,P3,seval,initFr,clsA,h1]
  exact hq2 _ _ ⟨.bool false,rfl,by simp[h1],rfl⟩
theorem t28{H:AHeap}{u:V4}{xs:List RV}{L:Ly}{wh:Int}(hw:wh=0∨wh=1)(h:LyR H u xs L)(hf:LyIn 9223372036854775807 L):
 ∃w K,ARun Tryz.prog 0 28 [.int .i64 wh,.agg u.l.toArray] H w K∧Keeps H K∧∃iv,w=.tuple #[iv,.int .i64 (checkE L)]∧(∃t x,iv=.iface t x)∧
  (checkE L=0→∀S K',Chg S K K'→(∀b∈S,(b<H.n∨K.n≤b)∧∀o r z c T,K.get b=some (.cells o r z c T)→¬(z=1∨z=2∨z=4∨z=5))→MaM K' iv L):=by
 refine walk2 f28_ok f28_n ?_
 intro Q hq1 hq2
 have os:=Sl.one h.s
 have op:=Sl.one h.p
 have og:=Sl.one h.g
 have or:=Sl.one h.r
 have hul:u.l=[u.s,u.p,u.g,u.r]:=rfl
 have kA:=(Keeps.refl H).alloc (.cells true false 4 [u.s,u.p,u.g,u.r] 27)
 rcases hw with rfl|rfl
 ·by_cases he:checkE L=0
  ·have tN:=t10 (h.keeps kA) hf he
   simp only[hul]at tN ⊢
   simp(disch:=first|assumption|omega|(simp only[LN]<;>omega)|(simp(disch:=first|assumption|omega|(simp only[LN]<;>omega))only[row_alloc,row_set];assumption))only[f28,W_block,P3,seval,initFr,clsA,os,op,og,or]
   refine callK tN ?_
   rintro _ K ⟨k,b,rfl,m⟩
   simp(disch:=first|assumption|omega)only[W_block,P3,seval,initFr,clsA]
   refine hq2 _ _ ⟨.tuple #[.iface 35 (ptr b 0),.int .i64 0],rfl,kA.trans k,_,by rw[he],⟨_,_,rfl⟩,fun _ S K' c hS=>.inl ⟨b,rfl,m.chg c fun z hz b hb o r C T g=>(hS b hb).2 _ _ _ _ _ g hz⟩⟩
  ·have tN:=u10 (h.keeps kA) hf he
   simp only[hul]at tN ⊢
   simp(disch:=first|assumption|omega|(simp only[LN]<;>omega)|(simp(disch:=first|assumption|omega|(simp only[LN]<;>omega))only[row_alloc,row_set];assumption))only[f28,W_block,P3,seval,initFr,clsA,os,op,og,or]
   refine callK tN ?_
   rintro _ K ⟨k,rfl⟩
   simp(disch:=first|assumption|omega)only[W_block,P3,seval,initFr,clsA]
   exact hq2 _ _ ⟨.tuple #[.iface 35 (.pointer none),.int .i64 (checkE L)],rfl,kA.trans k,_,rfl,⟨_,_,rfl⟩,fun e=>absurd e he⟩
 ·have tN:=t60 (h.keeps kA) hf
  simp only[hul]at tN ⊢
  simp(disch:=first|assumption|omega|(simp only[LN]<;>omega)|(simp(disch:=first|assumption|omega|(simp only[LN]<;>omega))only[row_alloc,row_set];assumption))only[f28,W_block,P3,seval,initFr,clsA,os,op,og,or]
  refine callK tN ?_
  rintro _ K ⟨k,e1,e2⟩
  by_cases he:checkE L=0
  ·obtain⟨b,rfl,m⟩:=e2 he
   simp(disch:=first|assumption|omega)only[W_block,P3,seval,initFr,clsA]
   exact hq2 _ _ ⟨.tuple #[.iface 139 (ptr b 0),.int .i64 0],rfl,kA.trans k,_,by rw[he],⟨_,_,rfl⟩,fun _ S K' c hS=>.inr ⟨b,rfl,(m.same fun d h1 h2=>c.get d h2 fun hm=>by
    have:=(hS d hm).1
    simp only[alloc_n]at h1
    omega).r⟩⟩
  ·rw[e1 he]
   simp(disch:=first|assumption|omega)only[W_block,P3,seval,initFr,clsA]
   exact hq2 _ _ ⟨.tuple #[.iface 139 (.pointer none),.int .i64 (checkE L)],rfl,kA.trans k,_,rfl,⟨_,_,rfl⟩,fun e=>absurd e he⟩
theorem fillCh(wh:Int)(a b c iv:Value)(sb:Nat)(hi:∃t x,iv=.iface t x)(ha:isS a=true)(hb:isS b=true)(hc:isS c=true):fillA Z79N [(0,1,.int .i64 wh),(1,4,.agg #[a,b,.slice none 0 0,c]),(5,1,iv),(76,1,ptr sb 0)]=some (chl ⟨wh,a,b,c,iv,0,0,sb,false,.pointer none⟩ Sta0):=by
 have e:chl ⟨wh,a,b,c,iv,0,0,sb,false,.pointer none⟩ Sta0=[.int .i64 wh,a,b,.slice none 0 0,c,iv,.int .u64 0,.int .u64 0,.int .u64 0]++List.replicate 64 (.int .u8 0)++[.int .u32 0,.int .i64 0,.int .i64 0,ptr sb 0,.bool false,.pointer none]:=by
  unfold chl
  rw[←stl_zero];rfl
 rw[e]
 obtain⟨t,x,rfl⟩:=hi
 obtain⟨_,_,_,rfl⟩:=isS_inv ha
 obtain⟨_,_,_,rfl⟩:=isS_inv hb
 obtain⟨_,_,_,rfl⟩:=isS_inv hc
 rfl
theorem mk_n(H:AHeap){e esz b n:Nat}{z:List Value}(hz:z.length=esz)(ho:z.all Value.oneCell'=true)(h1:n*b≤140737488355328)(h2:n≤1000000):asem (.mksl e esz b z (.int .i64 ((n:Nat):Int)) (.int .i64 ((n:Nat):Int))) H=some (slc H.n 0 n n,H.alloc (.cells true false esz (List.replicate n z).flatten e)):=by
 have h4:((n*b:Nat):Int)≤140737488355328:=by omega
 have h3:((n:Nat):Int)*(b:Int)≤140737488355328:=by simpa using h4
 have h5:(b:Int)*((n:Nat):Int)≤140737488355328:=by rw[Int.mul_comm];exact h3
 simp only[asem]
 rw[if_pos ⟨by omega,by omega,by first|exact h3|exact h5|omega,by first|exact h3|exact h5|omega,hz,ho⟩,Int.toNat_natCast]
theorem t9{H:AHeap}{u:V4}{xs:List RV}{L:Ly}{wh:Int}(h:LyR H u xs L)(hf:LyIn 9223372036854775807 L):
 ∃w K,ARun Tryz.prog 0 9 [.int .i64 wh,.agg u.l.toArray] H w K∧Keeps H K∧(¬(wh=0∨wh=1)→w=.tuple #[.pointer none,.int .i64 2])∧(wh=0∨wh=1→(checkE L≠0→w=.tuple #[.pointer none,.int .i64 (checkE L)])∧
  (checkE L=0→∃c sb,∃v:Chv,w=.tuple #[ptr c 0,.int .i64 0]∧(v.wh=wh∧v.sb=sb∧v.ep=0∧v.fl=0∧v.tk=false∧v.nx=.pointer none)∧K.get c=some (.cells true false 79 (chl v Sta0) 99)∧
   LLen ⟨v.ls,v.lp,.slice none 0 0,v.lr⟩ L.s.length L.p.length L.r.length∧AgR K sb (sd0 wh)∧H.n≤c∧H.n≤sb∧
   ∀S K',Chg S K K'→(∀b∈S,(b<H.n∨b=c∨b=sb∨K.n≤b)∧∀o r z c T,K.get b=some (.cells o r z c T)→¬(z=1∨z=2∨z=4∨z=5))→MaM K' v.iv L)):=by
 refine walk2 f9_ok f9_n ?_
 intro Q hq1 hq2
 have os:=Sl.one h.s
 have op:=Sl.one h.p
 have og:=Sl.one h.g
 have or:=Sl.one h.r
 have is:=Sl.is h.s
 have ip:=Sl.is h.p
 have ir:=Sl.is h.r
 have ls:=h.s.len
 have lp:=h.p.len
 have lr:=h.r.len
 rw[h.rlen]at lr
 have hul:u.l=[u.s,u.p,u.g,u.r]:=rfl
 have kA:=(Keeps.refl H).alloc (.cells true false 4 [u.s,u.p,u.g,u.r] 27)
 have gA:=AHeap.get_alloc_new H (.cells true false 4 [u.s,u.p,u.g,u.r] 27)
 by_cases hw:wh=0∨wh=1
 case neg=>
  have h0:¬wh=0:=fun e=>hw (.inl e)
  have h1:¬wh=1:=fun e=>hw (.inr e)
  simp only[hul]
  simp(disch:=first|assumption|omega)only[f9,W_block,P3,seval,initFr,clsA,os,op,og,or]
  exact hq2 _ _ ⟨.tuple #[.pointer none,.int .i64 2],rfl,kA,fun _=>rfl,fun e=>absurd e hw⟩
 have tN:=t28 hw (h.keeps kA) hf
 simp only[hul]at tN ⊢
 by_cases he:checkE L=0
 case neg=>
  have ne:(checkE L != 0)=true:=by simp[he]
  rcases hw with rfl|rfl
  all_goals
   simp(disch:=first|assumption|omega|(simp only[LN]<;>omega)|(simp(disch:=first|assumption|omega|(simp only[LN]<;>omega))only[row_alloc,row_set];assumption))only[f9,W_block,P3,seval,initFr,clsA,os,op,og,or]
   refine callK tN ?_
   rintro _ K ⟨k,iv,rfl,_,_⟩
   simp(disch:=first|assumption|omega)only[W_block,P3,seval,initFr,clsA,ne]
   exact hq2 _ _ ⟨.tuple #[.pointer none,.int .i64 (checkE L)],rfl,kA.trans k,fun e=>absurd (by simp) e,fun _=>⟨fun _=>rfl,fun e=>absurd e he⟩⟩
 case pos=>
 have ne:(checkE L != 0)=false:=by simp[he]
 have hL:=may_lim (check_may he)
 have hLs:=hL.s
 have hLp:=hL.p
 have hLr:=hL.r
 have tG:∀K,∃w V,ARun Tryz.prog 0 29 [.int .i64 wh] K w V∧w=ptr K.n 0∧Keeps K V∧AgR V K.n (sd0 wh):=fun K=>t29 hw
 have m1:=fun K=>mk_n K (e:=9) (esz:=1) (b:=16) (n:=L.s.length) (z:=[.string ByteArray.empty]) rfl rfl (by omega) (by omega)
 have m2:=fun K=>mk_n K (e:=89) (esz:=2) (b:=24) (n:=L.p.length) (z:=[.string ByteArray.empty,.int .i64 0]) rfl rfl (by omega) (by omega)
 have m3:=fun K=>mk_n K (e:=87) (esz:=6) (b:=120) (n:=L.r.length) (z:=[.string ByteArray.empty,.int .i64 0,.slice none 0 0,.slice none 0 0,.slice none 0 0,.slice none 0 0]) rfl rfl (by omega) (by omega)
 have fl:∀a b c d e f g h i,fillA [.slice none 0 0,.slice none 0 0,.slice none 0 0,.slice none 0 0] [(0,1,slc a 0 b c),(1,1,slc d 0 e f),(3,1,slc g 0 h i)]=some [slc a 0 b c,slc d 0 e f,.slice none 0 0,slc g 0 h i]:=fun _ _ _ _ _ _ _ _ _=>rfl
 refine W_part 2 (fun fr Z=>∃x8 x9,fr=[.int .i64 wh,.agg #[u.s,u.p,u.g,u.r],ptr H.n 0,.pointer none,.int .i64 0,undef,undef,undef,x8,x9]∧Z=H.alloc (.cells true false 4 [u.s,u.p,u.g,u.r] 27)) (by kernel_rfl) ?_ ?_
 ·intro Q' hn _ _
  rcases hw with rfl|rfl
  all_goals
   simp(disch:=first|assumption|omega)only[f9,cpre,W_block,P3,seval,initFr,clsA,os,op,og,or]
   exact hn _ _ ⟨_,_,rfl,rfl⟩
 rintro fr Z ⟨x8,x9,rfl,rfl⟩
 simp(disch:=first|assumption|omega|(simp only[LN]<;>omega)|(simp(disch:=first|assumption|omega|(simp only[LN]<;>omega))only[row_alloc,row_set];assumption))only[f9,cpost,W_block,P3,seval,initFr,clsA]
 refine callK tN ?_
 rintro _ K ⟨k,iv,rfl,hiv,hm⟩
 have gK:=k.at_ gA
 have oiv:iv.oneCell'=true:=by obtain⟨_,_,rfl⟩:=hiv;rfl
 have lK:=AHeap.get_lt gK
 simp(disch:=first|assumption|omega|(simp only[LN]<;>omega)|(simp(disch:=first|assumption|omega|(simp only[LN]<;>omega))only[row_alloc,row_set];assumption))only[W_block,P3,seval,initFr,clsA,ne,gK,ls,lp,lr,is,ip,ir,m1,m2,m3,fl,oiv]
 obtain⟨K4,hK4⟩:∃X,X=(((K.alloc (.cells true false 1 (List.replicate L.s.length [.string ByteArray.empty]).flatten 9)).alloc (.cells true false 2 (List.replicate L.p.length [.string ByteArray.empty,.int .i64 0]).flatten 89)).alloc (.cells true false 6 (List.replicate L.r.length [.string ByteArray.empty,.int .i64 0,.slice none 0 0,.slice none 0 0,.slice none 0 0,.slice none 0 0]).flatten 87)).alloc (.cells true false 4 [slc K.n 0 L.s.length L.s.length,slc (K.n+1) 0 L.p.length L.p.length,.slice none 0 0,slc (K.n+1+1) 0 L.r.length L.r.length] 27):=⟨_,rfl⟩
 have k4:Keeps K K4:=by rw[hK4];exact((((Keeps.refl K).alloc _).alloc _).alloc _).alloc _
 have n4:K4.n=K.n+4:=by rw[hK4];rfl
 rw[←hK4]
 refine callK (tG _) ?_
 rintro _ V ⟨rfl,kV,ag⟩
 have fc:=fillCh wh (slc K.n 0 L.s.length L.s.length) (slc (K.n+1) 0 L.p.length L.p.length) (slc (K.n+1+1) 0 L.r.length L.r.length) iv K4.n hiv rfl rfl rfl
 have on:=chl_one (c:=⟨wh,slc K.n 0 L.s.length L.s.length,slc (K.n+1) 0 L.p.length L.p.length,slc (K.n+1+1) 0 L.r.length L.r.length,iv,0,0,K4.n,false,.pointer none⟩) Sta0 hiv rfl rfl rfl rfl
 have ln:=chl_len ⟨wh,slc K.n 0 L.s.length L.s.length,slc (K.n+1) 0 L.p.length L.p.length,slc (K.n+1+1) 0 L.r.length L.r.length,iv,0,0,K4.n,false,.pointer none⟩ Sta0
 simp(disch:=first|assumption|omega)only[W_block,P3,seval,initFr,clsA,fc,on,ln]
 have nV:=kV.n
 have kN:=(k4.trans kV).alloc (.cells true false 79 (chl ⟨wh,slc K.n 0 L.s.length L.s.length,slc (K.n+1) 0 L.p.length L.p.length,slc (K.n+1+1) 0 L.r.length L.r.length,iv,0,0,K4.n,false,.pointer none⟩ Sta0) 99)
 refine⟨by simp;exact kV.get _ (by omega),hq2 _ _ ⟨.tuple #[ptr V.n 0,.int .i64 0],rfl,(kA.trans k).trans kN,fun e=>absurd hw e,fun _=>⟨fun e=>absurd he e,fun _=>⟨V.n,K4.n,_,rfl,⟨rfl,rfl,rfl,rfl,rfl,rfl⟩,AHeap.get_alloc_new V _,⟨⟨rfl,rfl⟩,⟨rfl,rfl⟩,rfl,⟨rfl,rfl⟩⟩,ag.keeps ((Keeps.refl V).alloc _),by omega,by omega,?_⟩⟩⟩⟩
 intro S K' c hS
 refine hm he S K' ((kN.chg S).trans c (fun x h=>.inl h)) fun b hb=>⟨?_,fun o r z C T g=>(hS b hb).2 o r z C T (kN.at_ g)⟩
 have:=(hS b hb).1
 simp only[alloc_n]at this ⊢
 omega
end Go.AM.Fd

set_option maxRecDepth 20000
namespace Go.AM.Fd
open Go.Proofs Go.AM.F
theorem rgt_eq{L:Ly}(he:checkE L=0)(s:Sta):rgtB L s=rgtD L s:=by
 have hL:=may_lim (check_may he)
 have lr:=hL.r
 have lp:=hL.p
 unfold rgtB rgtD
 congr 1
 rw[Bool.eq_iff_iff]
 simp only[Bool.and_eq_true,none64,none32,List.all_eq_true,List.mem_range,Bool.not_eq_true',Bool.and_eq_false_iff,iOK,kOK,nOK,Bool.or_eq_true,Bool.not_eq_false']
 constructor
 ·rintro⟨⟨h1,h2⟩,h3⟩ i hi
  refine⟨?_,?_⟩
  ·cases hlo:s.lo i with
   |false=>exact .inl rfl
   |true=>
    right
    intro k hk
    by_cases hik:i=k
    ·left;left;simp[hik]
    ·by_cases hlk:s.lo k=true
     ·right
      rcases h1 k (by omega)with h|h
      ·have:(s.lo i&&tabP L i k)=false:=by
        have:=h
        unfold anyR at this
        rw[List.any_eq_false]at this
        simpa using this i (List.mem_range.2 hi)
       rw[hlo]at this
       have hki:¬k=i:=fun e=>hik e.symm
       simp[tabP,hk,hki]at this
       exact this
      ·rw[hlk]at h;cases h
     ·left;right;simpa using hlk
  ·intro x hx
   cases hlo:s.lo i with
   |false=>exact .inl rfl
   |true=>
    right
    have hg:=(check_good he (List.getElem_mem hi)).nd x (by rw[←ro_eq hi];exact hx)
    obtain⟨xp,xb⟩:=x
    obtain⟨m,rfl⟩:∃m:Nat,xp=(m:Int):=⟨xp.toNat,by have:=hg.1;simp only at this;omega⟩
    have hm:m<32:=by have:=hg.2;simp only at this;omega
    show(s.po m != xb)=false
    cases xb with
    |false=>
     rcases h2 m hm with h|h
     ·have:(s.lo i&&nor L i m)=false:=by
       unfold anyR at h
       rw[List.any_eq_false]at h
       simpa using h i (List.mem_range.2 hi)
      rw[hlo]at this
      have hc:nor L i m=true:=List.contains_iff_mem.2 hx
      rw[hc]at this;cases this
     ·rw[h];rfl
    |true=>
     rcases h3 m hm with h|h
     ·have:(s.lo i&&rev L i m)=false:=by
       unfold anyR at h
       rw[List.any_eq_false]at h
       simpa using h i (List.mem_range.2 hi)
      rw[hlo]at this
      have hc:rev L i m=true:=List.contains_iff_mem.2 hx
      rw[hc]at this;cases this
     ·rw[h];rfl
 ·intro h
  refine⟨⟨?_,?_⟩,?_⟩
  ·intro k hk
   by_cases hlk:s.lo k=true
   ·left
    unfold anyR
    rw[List.any_eq_false]
    intro i hi
    have hi':=List.mem_range.1 hi
    cases hlo:s.lo i with
    |false=>simp
    |true=>
     rcases(h i hi').1 with h1|h1
     ·rw[hlo]at h1;cases h1
     ·by_cases hkn:k<L.r.length
      ·rcases h1 k hkn with(h2|h2)|h2
       ·have e:i=k:=by simpa using h2
        subst e
        simp[tabP]
       ·rw[hlk]at h2;cases h2
       ·simp[tabP,h2]
      ·simp[tabP,hkn]
   ·right;simpa using hlk
  ·intro p hp
   by_cases hpo:s.po p=true
   ·left
    unfold anyR
    rw[List.any_eq_false]
    intro i hi
    have hi':=List.mem_range.1 hi
    cases hlo:s.lo i with
    |false=>simp
    |true=>
     simp only[Bool.true_and]
     intro hc
     have hx:=List.contains_iff_mem.1 (show(nds (ro L i)).contains ((p:Int),false)=true from hc)
     rcases(h i hi').2 _ hx with h2|h2
     ·rw[hlo]at h2;cases h2
     ·have h2':(s.po p != false)=false:=h2
      rw[hpo]at h2';cases h2'
   ·right;simpa using hpo
  ·intro p hp
   by_cases hpo:s.po p=false
   ·left
    unfold anyR
    rw[List.any_eq_false]
    intro i hi
    have hi':=List.mem_range.1 hi
    cases hlo:s.lo i with
    |false=>simp
    |true=>
     simp only[Bool.true_and]
     intro hc
     have hx:=List.contains_iff_mem.1 (show(nds (ro L i)).contains ((p:Int),true)=true from hc)
     rcases(h i hi').2 _ hx with h2|h2
     ·rw[hlo]at h2;cases h2
     ·have h2':(s.po p != true)=false:=h2
      rw[hpo]at h2';cases h2'
   ·right;simpa using hpo
theorem ly_ones{H:AHeap}{u:V4}{xs:List RV}{L:Ly}(h:LyR H u xs L):u.l.all Value.oneCell'=true:=by
 have os:=Sl.one h.s
 have op:=Sl.one h.p
 have og:=Sl.one h.g
 have or:=Sl.one h.r
 simp only[V4.l,List.all_cons,List.all_nil,os,op,og,or];rfl
end Go.AM.Fd

set_option maxRecDepth 8000
namespace Go.AM.Fd
open Nat (reduceAdd reduceEqDiff reduceLT reduceLeDiff reduceMul reduceSub)
open Go.Proofs Go.AM.F
theorem m_Right{H:AHeap}{iv:Value}{L:Ly}(h:MaM H iv L)(he:checkE L=0):∃t v g,iv=.iface t v∧methT Tryz.prog t "Right" =some g∧∀K,Keeps H K→∀s:Sta,∃w K',ARun Tryz.prog 0 g [v,.agg (stl s).toArray] K w K'∧w=.bool (rgtD L s)∧K'=K:=by
 have hL:=(may_lim (check_may he)).r
 rcases h with⟨b,rfl,m⟩|⟨b,rfl,m⟩
 ·exact⟨_,_,16,rfl,by kernel_rfl,fun K k s=>t16 (m.keeps k) he s⟩
 ·refine⟨_,_,170,rfl,by kernel_rfl,fun K k s=>?_⟩
  have:=t170 (m.keeps k) hL s
  rw[rgt_eq he]at this
  exact this
def otl(L:Ly)(x:Inp)(s:Sta):List Value:=[S64 fun i=>decide (i<L.r.length)&&proD L x s i,S32 s.po]
theorem m_Step{H:AHeap}{iv:Value}{L:Ly}(h:MaM H iv L)(he:checkE L=0):∃t v g,iv=.iface t v∧methT Tryz.prog t "Step" =some g∧∀K,Keeps H K→∀(s:Sta) (x:Inp) (z:Value) (cs:List (Int×Int)),SlC K 2 z (cs.map cRow)→cs.length≤1000000→(∀c∈cs,0≤c.1∧c.1<256)→
 ∃w K',ARun Tryz.prog 0 g [v,.agg (stl s).toArray,.agg (inl x z).toArray] K w K'∧w=.tuple #[.agg (stl (stepD L s x cs)).toArray,.agg (otl L x (stepD L s x cs)).toArray]∧K'=K:=by
 rcases h with⟨b,rfl,m⟩|⟨b,rfl,m⟩
 ·exact⟨_,_,156,rfl,by kernel_rfl,fun K k s x z cs h1 h2 h3=>t156 (m.keeps k) he h1 h2 h3⟩
 ·refine⟨_,_,171,rfl,by kernel_rfl,fun K k s x z cs h1 h2 h3=>?_⟩
  have:=t171 (s:=s) (x:=x) (m.keeps k) (may_lim (check_may he)) h1.s h2
  rw[step_eq he s x cs]at this
  have e:(fun i=>prB L x (stepD L s x cs) i)=fun i=>decide (i<L.r.length)&&proD L x (stepD L s x cs) i:=funext fun i=>pr_eq he _ i
  rw[show prB L x (stepD L s x cs)=_ from e]at this
  exact this
theorem set_cm{H:AHeap}{b b':Nat}(h:b≠b')(h1:b<H.n)(h2:b'<H.n)(o o':AO):(H.set b o).set b' o'=(H.set b' o').set b o:=by
 simp only[AHeap.set]
 rw[List.set_comm _ _ (by omega)]
def numB(n:Int):Bool:=decide (0≤n)&&decide (n≤1099511627776)
def rstB(L:Ly)(s:Sta)(ep cy:Int):Bool:=rgtD L s&&(numB ep&&numB cy)
def rstS(L:Ly)(C:Ch)(wh:Int)(s:Sta)(ep cy:Int):Ch:=if rstB L s ep cy then⟨s,ep,cy,sd0 wh,false,none⟩else C
def rstE(L:Ly)(s:Sta)(ep cy:Int):Int:=if rstB L s ep cy then 0 else 2
theorem fillB{B:List Value}{m:Nat}(hB:B.length=m)(i:Nat)(E:List Value)(x:Value)(hx:x.cells.toList=[x])(hi:i<E.length)(r:List (Nat×Nat×Value)):fillA (B++E) ((m+i,1,x)::r)=fillA (B++E.set i x) r:=by
 have hl:m+i<(B++E).length:=by rw[List.length_append,hB];omega
 rw[fill_cons,hx,if_pos ⟨rfl,hl⟩]
 congr 1
 have h1:=List.set_eq_take_append_cons_drop (l:=B++E) (i:=m+i) (a:=x)
 rw[if_pos hl,List.set_append_right _ _ (by omega),hB]at h1
 rw[show m+i-m=i by omega]at h1
 rw[h1,List.append_assoc];rfl
theorem fillE{B:List Value}(hB:B.length=74)(e0 e1 e2 e3 e4:Value)(a b:Int)(sb:Nat):fillA (B++[e0,e1,e2,e3,e4]) [(74,1,.int .i64 a),(75,1,.int .i64 b),(76,1,ptr sb 0)]=some (B++[.int .i64 a,.int .i64 b,ptr sb 0,e3,e4]):=by
 refine(fillB hB 0 _ _ rfl (by simp) _).trans ?_
 refine(fillB hB 1 _ _ rfl (by simp) _).trans ?_
 exact fillB hB 2 _ _ rfl (by simp) _
theorem fillRs(wh ep cy:Int)(a b c iv:Value)(s:Sta)(sb:Nat)(hi:∃t x,iv=.iface t x)(ha:isS a=true)(hb:isS b=true)(hc:isS c=true):fillA Z79N [(0,1,.int .i64 wh),(1,4,.agg #[a,b,.slice none 0 0,c]),(5,1,iv),(6,68,.agg (stl s).toArray),(74,1,.int .i64 ep),(75,1,.int .i64 cy),(76,1,ptr sb 0)]=some (chl ⟨wh,a,b,c,iv,ep,cy,sb,false,.pointer none⟩ s):=by
 have e:fillA Z79N [(0,1,.int .i64 wh),(1,4,.agg #[a,b,.slice none 0 0,c]),(5,1,iv),(6,68,.agg (stl s).toArray),(74,1,.int .i64 ep),(75,1,.int .i64 cy),(76,1,ptr sb 0)]=fillA (([.int .i64 wh,a,b,.slice none 0 0,c,iv]++stl s)++[.int .i64 0,.int .i64 0,.pointer none,.bool false,.pointer none]) [(74,1,.int .i64 ep),(75,1,.int .i64 cy),(76,1,ptr sb 0)]:=by
  obtain⟨t,x,rfl⟩:=hi
  obtain⟨_,_,_,rfl⟩:=isS_inv ha
  obtain⟨_,_,_,rfl⟩:=isS_inv hb
  obtain⟨_,_,_,rfl⟩:=isS_inv hc
  rfl
 rw[e,fillE (by simp[stl_len])]
 unfold chl
 rw[List.append_assoc]
set_option maxHeartbeats 1000000 in
theorem t11{W:Wd}{H:AHeap}{c sb:Nat}{wh:Int}{L:Ly}{C:Ch}(h:ChR W H c sb wh L C)(hw:wh=0∨wh=1)(he:checkE L=0)(s:Sta)(ep cy:Int):
 ∃w K,ARun Tryz.prog 0 11 [ptr c 0,.agg (stl s).toArray,.int .i64 ep,.int .i64 cy] H w K∧w=.int .i64 (rstE L s ep cy)∧Chg [c,sb] H K∧∃sb',(sb'=sb∨H.n≤sb')∧ChR W K c sb' wh L (rstS L C wh s ep cy):=by
 refine walk2 f11_ok f11_n ?_
 intro Q hq1 hq2
 obtain⟨v,hv⟩:=h
 obtain⟨t,mv,g,eiv,hme,hrun⟩:=m_Right hv.ms he
 have gc:=hv.g
 have lc:=AHeap.get_lt gc
 have ks:=(Keeps.refl H).alloc (.cells true false 68 (stl s) 43)
 have gs:=AHeap.get_alloc_new H (.cells true false 68 (stl s) 43)
 have m5:=chl_5 v C.s
 rw[eiv]at m5
 have bad:rstB L s ep cy=false→∀{fr:List Value} {K:AHeap},Keeps H K→fr.getD 5 undef=.int .i64 2→Q .ret fr K:=fun e fr K k hf=>by
  have e1:rstE L s ep cy=2:=by unfold rstE;rw[e];rfl
  have e2:rstS L C wh s ep cy=C:=by unfold rstS;rw[e];rfl
  exact hq2 _ _ ⟨.int .i64 2,by show some (tupV [fr.getD 5 undef])=_;rw[hf];rfl,by rw[e1],k.chg _,sb,.inl rfl,by rw[e2];exact⟨v,hv.keeps k⟩⟩
 have len:=chl_len v C.s
 simp(disch:=first|assumption|omega)only[f11,W_block,P3,seval,initFr,clsA,stl_one,stl_len,gc,m5,rng68,sd_inv (h:=hme)]
 refine callQ (hrun _ ks s) ?_
 have hb:rstB L s ep cy=(rgtD L s&&(numB ep&&numB cy)):=rfl
 cases h1:rgtD L s with
 |false=>
  simp(disch:=first|assumption|omega)only[W_block,P3,seval,initFr,clsA]
  exact bad (by rw[hb,h1];rfl) ks rfl
 |true=>
 simp(disch:=first|assumption|omega)only[W_block,P3,seval,initFr,clsA]
 refine callQ (t34 _) ?_
 cases h2:numB ep with
 |false=>
  have h2':=h2
  unfold numB at h2'
  rw[h2']
  simp(disch:=first|assumption|omega)only[W_block,P3,seval,initFr,clsA]
  exact bad (by rw[hb,h1,h2];rfl) ks rfl
 |true=>
 have h2':=h2
 unfold numB at h2'
 rw[h2']
 simp(disch:=first|assumption|omega)only[W_block,P3,seval,initFr,clsA]
 refine callQ (t34 _) ?_
 cases h3:numB cy with
 |false=>
  have h3':=h3
  unfold numB at h3'
  rw[h3']
  simp(disch:=first|assumption|omega)only[W_block,P3,seval,initFr,clsA]
  exact bad (by rw[hb,h1,h2,h3];rfl) ks rfl
 |true=>
 have h3':=h3
 unfold numB at h3'
 rw[h3']
 have m0:=chl_0 v C.s
 have ml:=chl_l v C.s
 have gcs:=ks.at_ gc
 have tG:=fun K=>t29 (H:=K) hw
 obtain⟨e1,e2,e3,e4,e5⟩:=hv.e
 rw[e1]at m0
 simp(disch:=first|assumption|omega)only[W_block,P3,seval,initFr,clsA,stl_one,stl_len,gc,m0,m5,ml,len,rng68]
 refine callK (tG _) ?_
 rintro _ V ⟨rfl,kV,ag⟩
 have fr:=fillRs wh ep cy v.ls v.lp v.lr (.iface t mv) s (H.n+1) ⟨_,_,rfl⟩ hv.l.s.1 hv.l.p.1 hv.l.r.1
 have gV:=(ks.trans kV).at_ gc
 have lV:=AHeap.get_lt gV
 have gsV:=kV.at_ gs
 obtain⟨v',hv'⟩:∃v':Chv,v'=⟨wh,v.ls,v.lp,v.lr,.iface t mv,ep,cy,H.n+1,false,.pointer none⟩:=⟨_,rfl⟩
 rw[←hv']at fr
 have on:(chl v' s).all Value.oneCell'=true:=by rw[hv'];exact chl_one s ⟨_,_,rfl⟩ hv.l.s.1 hv.l.p.1 hv.l.r.1 rfl
 have ln:=chl_len v' s
 have e1':rstE L s ep cy=0:=by unfold rstE;rw[hb,h1,h2,h3];rfl
 have e2':rstS L C wh s ep cy=⟨s,ep,cy,sd0 wh,false,none⟩:=by unfold rstS;rw[hb,h1,h2,h3];rfl
 simp(disch:=first|assumption|omega)only[W_block,P3,seval,initFr,clsA,fr,gV,gc,gsV,on,ln]
 have cS:=((ks.trans kV).chg [c,sb]).trans ((Chg.set V lV (.cells true false 79 (chl v' s) 99)).mono (T:=[c,sb]) (by simp)) (by simp)
 have nS:V.n=(V.set c (.cells true false 79 (chl v' s) 99)).n:=(set_n ..).symm
 have agS:AgR (V.set c (.cells true false 79 (chl v' s) 99)) (H.n+1) (sd0 wh):=ag.oth (Chg.set V lV _) (by simp only[alloc_n,List.mem_cons,List.not_mem_nil,or_false];omega) fun b hb o r z C T e=>by
  simp only[List.mem_cons,List.not_mem_nil,or_false]at hb
  subst hb;rw[gV]at e;cases e;decide
 have lB:=hv.w.n
 refine⟨by simp,hq2 _ _ ⟨.int .i64 0,rfl,by rw[e1'],cS,H.n+1,.inr (Nat.le_succ _),by
  rw[e2']
  exact⟨v',⟨by rw[hv'];exact⟨rfl,rfl,rfl,rfl,rfl⟩,AHeap.get_set_same gV _,by rw[hv'];exact hv.l,by rw[hv'];rfl,by rw[hv'];exact eiv ▸ hv.m,agS,sd0_ok wh,rfl,hv.up cS,hv.wc,.inr (Nat.le_succ_of_le lB)⟩⟩⟩⟩
def bgB(L:Ly)(C:Ch)(cy:Int)(x:Inp)(cs:List (Int×Int)):Bool:= !decide (1099511627776<cy)&&(!decide (cy≤C.fl)&&inR L.s.length L.p.length L.r.length x cs)
def bgS(L:Ly)(C:Ch)(cy:Int)(x:Inp)(cs:List (Int×Int)):Ch:=if bgB L C cy x cs then(if cy≤C.sd.cy then C else{C with sd:=begS C.sd cy x cs,tk:=false,nx:=none})else C
def bgR(L:Ly)(C:Ch)(cy:Int)(x:Inp)(cs:List (Int×Int)):Rd:=if bgB L C cy x cs then begR C.sd cy x cs else R0
def bgE(L:Ly)(C:Ch)(cy:Int)(x:Inp)(cs:List (Int×Int)):Int:=if bgB L C cy x cs then begE C.sd cy else 2
set_option maxHeartbeats 1000000 in
theorem t13{W:Wd}{H:AHeap}{c sb:Nat}{wh:Int}{L:Ly}{C:Ch}{x:Inp}{z:Value}{cs:List (Int×Int)}(h:ChR W H c sb wh L C)(cy:Int)(hz:SlC H 2 z (cs.map cRow))(hcl:cs.length≤1000)(hk:∀c∈cs,0≤c.1∧c.1<256):
 ∃w K,ARun Tryz.prog 0 13 [ptr c 0,.int .i64 cy,.agg (inl x z).toArray] H w K∧Chg [c,sb] H K∧ChR W K c sb wh L (bgS L C cy x cs)∧∃y,w=.tuple #[.agg (rdl (bgR L C cy x cs) y).toArray,.int .i64 (bgE L C cy x cs)]∧SlC K 2 y ((bgR L C cy x cs).c.map cRow):=by
 refine walk2 f13_ok f13_n ?_
 intro Q hq1 hq2
 obtain⟨v,hv⟩:=h
 have gc:=hv.g
 have lc:=AHeap.get_lt gc
 have oz:=Sl.one hz.s
 have e1:inl x z=[S64 x.oc,S32 x.nr,S32 x.rv,z]:=rfl
 obtain⟨K0,hK0⟩:∃X,X=(H.alloc (.cells true false 4 [S64 x.oc,S32 x.nr,S32 x.rv,z] 46)).alloc (.cells true false 6 [.int .i64 0,.int .i64 0,.int .u64 0,.int .u32 0,.int .u32 0,.slice none 0 0] 49):=⟨_,rfl⟩
 have k0:Keeps H K0:=by rw[hK0];exact((Keeps.refl H).alloc _).alloc _
 have n0:K0.n=H.n+2:=by rw[hK0];rfl
 have g0:K0.get H.n=some (.cells true false 4 [S64 x.oc,S32 x.nr,S32 x.rv,z] 46):=by rw[hK0];exact((Keeps.refl _).alloc _).at_ (AHeap.get_alloc_new H _)
 have g1:K0.get (H.n+1)=some (.cells true false 6 [.int .i64 0,.int .i64 0,.int .u64 0,.int .u32 0,.int .u32 0,.slice none 0 0] 49):=by rw[hK0];exact AHeap.get_alloc_new (H.alloc _) _
 have gc0:=k0.at_ gc
 have m75:=chl_75 v C.s
 have m76:=chl_76 v C.s
 have ml:=chl_l v C.s
 have len:=chl_len v C.s
 obtain⟨v1,v2,v3,v4,v5⟩:=hv.e
 rw[v4]at m75
 rw[v2]at m76
 have hB:bgB L C cy x cs=(!decide (1099511627776<cy)&&(!decide (cy≤C.fl)&&inR L.s.length L.p.length L.r.length x cs)):=rfl
 have bad:bgB L C cy x cs=false→∀{fr:List Value} {K:AHeap},Keeps H K→K.get (H.n+1)=some (.cells true false 6 [.int .i64 0,.int .i64 0,.int .u64 0,.int .u32 0,.int .u32 0,.slice none 0 0] 49)→fr.getD 4 undef=ptr (H.n+1) 0→fr.getD 5 undef=.int .i64 2→Q .ret fr K:=fun e fr K k0 g1 h1 h2=>by
  have r1:bgS L C cy x cs=C:=by unfold bgS;rw[e];rfl
  have r2:bgR L C cy x cs=R0:=by unfold bgR;rw[e];rfl
  have r3:bgE L C cy x cs=2:=by unfold bgE;rw[e];rfl
  simp only[r1,r2,r3,rdl_0]at hq2
  exact hq2 _ _ ⟨_,res_ct g1 rfl h1 h2,k0.chg _,⟨v,hv.keeps k0⟩,.slice none 0 0,rfl,Sl.nil _ _,.inl rfl⟩
 rw[e1]
 have tR:=t36 (x:=x) (cv:=z) (cs:=cs) hv.l (hz.keeps k0).s (by omega)
 simp only[V4.l,e1]at tR
 by_cases c1:1099511627776<cy
 ·simp(disch:=first|assumption|omega|(simp only[LN]<;>omega)|(simp(disch:=first|assumption|omega|(simp only[LN]<;>omega))only[row_alloc,row_set];assumption))only[f13,W_block,P3,seval,initFr,clsA,oz,o_s64,o_s32,one_s64,one_s32,c1,fillRz]
  rw[←hK0]
  exact bad (by rw[hB,decide_eq_true c1];rfl) k0 g1 rfl rfl
 by_cases c2:cy≤C.fl
 ·simp(disch:=first|assumption|omega|(simp only[LN]<;>omega)|(simp(disch:=first|assumption|omega|(simp only[LN]<;>omega))only[row_alloc,row_set];assumption))only[f13,W_block,P3,seval,initFr,clsA,oz,o_s64,o_s32,one_s64,one_s32,c1,c2,gc,m75,fillRz]
  rw[←hK0]
  exact bad (by rw[hB,decide_eq_true c2];simp) k0 g1 rfl rfl
 rw[decide_eq_false c1,decide_eq_false c2]at hB
 simp(disch:=first|assumption|omega|(simp only[LN]<;>omega)|(simp(disch:=first|assumption|omega|(simp only[LN]<;>omega))only[row_alloc,row_set];assumption))only[f13,W_block,P3,seval,initFr,clsA,oz,o_s64,o_s32,one_s64,one_s32,c1,c2,gc,m75,ml,len]
 rw[←hK0]
 refine callK tR ?_
 rintro _ X ⟨rfl,hX⟩
 rw[hX]
 cases hr:inR L.s.length L.p.length L.r.length x cs with
 |false=>
  have l1:=AHeap.get_lt g1
  simp(disch:=first|assumption|omega|(simp only[LN]<;>omega)|(simp(disch:=first|assumption|omega|(simp only[LN]<;>omega))only[row_alloc,row_set];assumption))only[W_block,P3,seval,initFr,clsA,g1,fillRz]
  exact bad (by rw[hB,hr];rfl) (k0.set (by omega) l1 _) (AHeap.get_set_same g1 _) rfl rfl
 |true=>
 rw[hr]at hB
 have hB1:bgB L C cy x cs=true:=hB
 have tB:=u37 (cy:=cy) (x:=x) hv.sd k0 (hz.keeps k0) hcl
 simp only[e1]at tB
 have gb:=fun(K:AHeap) (k:Chg [sb] K0 K)=>k.at_ gc0 (by have:=hv.ne;simpa using this)
 simp(disch:=first|assumption|omega|(simp only[LN]<;>omega)|(simp(disch:=first|assumption|omega|(simp only[LN]<;>omega))only[row_alloc,row_set];assumption))only[W_block,P3,seval,initFr,clsA,gc0,m76,g0,o_s64,o_s32,one_s64,one_s32]
 refine callK tB ?_
 rintro _ K ⟨cK,aK,y,rfl,hy⟩
 have gK:=gb K cK
 have l1:=AHeap.get_lt g1
 have g1K:=cK.at_ g1 (by have:=hv.sd;obtain⟨_,_,_,g,_⟩:=this;have:=AHeap.get_lt g;simp;omega)
 have l1K:=AHeap.get_lt g1K
 have lK:=AHeap.get_lt gK
 have nK:=cK.n
 have oy:=Sl.one hy.s
 have hne:=hv.ne
 have lsb:sb<H.n:=by obtain⟨_,_,_,g,_⟩:=hv.sd;exact AHeap.get_lt g
 have o1:∀x∈[H.n+1],H.n≤x∧x<K0.n∧∀o r z C T,K.get x=some (.cells o r z C T)→z≠2:=fun x hx=>by
  simp only[List.mem_cons,List.not_mem_nil,or_false]at hx
  subst hx
  exact⟨by omega,by omega,fun o r z C T e=>by rw[g1K]at e;cases e;decide⟩
 have fin:∀{Z:AHeap},Chg [H.n+1] K Z→∀o,Chg [c,sb] H (Z.alloc o):=fun{Z} c2 o=>by
  have a:=(((k0.chg [sb]).trans cK (by simp)).mono (T:=[c,sb]) (by simp)).trans c2 (by simp)
  exact a.trans (((Keeps.refl Z).alloc o).chg []) (by simp)
 by_cases c3:cy≤C.sd.cy
 ·have er:begR C.sd cy x cs=R0:=by unfold begR;rw[if_pos c3]
  have ee:begE C.sd cy=2:=by unfold begE;rw[if_pos c3]
  have es:begS C.sd cy x cs=C.sd:=by unfold begS;rw[if_pos c3]
  rw[er]at hy
  rw[es]at aK
  rw[er,ee,rdl_0]
  simp(disch:=first|assumption|omega|(simp only[LN]<;>omega)|(simp(disch:=first|assumption|omega|(simp only[LN]<;>omega))only[row_alloc,row_set];assumption))only[W_block,P3,seval,initFr,clsA,oy,g1K,stn_full]
  have r1:bgS L C cy x cs=C:=by unfold bgS;rw[hB1,if_pos rfl,if_pos c3]
  have r2:bgR L C cy x cs=R0:=by unfold bgR;rw[hB1,if_pos rfl,er]
  have r3:bgE L C cy x cs=2:=by unfold bgE;rw[hB1,if_pos rfl,ee]
  simp only[r1,r2,r3,rdl_0]at hq2
  have c2:=Chg.set K l1K (.cells true false 6 [.int .i64 0,.int .i64 0,.int .u64 0,.int .u32 0,.int .u32 0,y] 49)
  have aZ:=aK _ _ c2 (by simp;omega) o1
  have kZ:=(Keeps.refl (K.set (H.n+1) (.cells true false 6 [.int .i64 0,.int .i64 0,.int .u64 0,.int .u32 0,.int .u32 0,y] 49))).alloc (.cells true false 6 [.int .i64 0,.int .i64 0,.int .u64 0,.int .u32 0,.int .u32 0,y] 49)
  have cF:=fin c2
  have gZ:=kZ.at_ ((AHeap.get_set_other K (by omega) l1K (.cells true false 6 [.int .i64 0,.int .i64 0,.int .u64 0,.int .u32 0,.int .u32 0,y] 49)).trans gK)
  exact hq2 _ _ ⟨_,res_ct (p:=H.n+1) (kZ.at_ (AHeap.get_set_same g1K _)) rfl rfl rfl,cF _,⟨v,hv.e,gZ,hv.l,hv.n.oth (cF _) (fun b hb o r z C T e=>(hv.o68 b hb o r z C T e).1),hv.m,aZ.keeps kZ,hv.ok,hv.ch,hv.up (cF _),hv.wc,hv.ws⟩,y,rfl,(SlC.oth hy c2 (fun b hb o r z C T e=>(o1 b hb).2.2 o r z C T e)).keeps kZ⟩
 ·have er:begR C.sd cy x cs=⟨C.sd.ch,cy,x,cs⟩:=by unfold begR;rw[if_neg c3]
  have ee:begE C.sd cy=0:=by unfold begE;rw[if_neg c3]
  have erd:∀z,rdl ⟨C.sd.ch,cy,x,cs⟩ z=[.int .i64 C.sd.ch,.int .i64 cy,S64 x.oc,S32 x.nr,S32 x.rv,z]:=fun _=>rfl
  have s78:=chl_s78 v C.s (.pointer none)
  have s77:=chl_s77 {v with nx:=.pointer none} C.s false
  have len2:=chl_len {v with nx:=.pointer none} C.s
  rw[er]at hy
  rw[er,ee,erd]
  simp(disch:=first|assumption|omega|(simp only[LN]<;>omega)|(simp(disch:=first|assumption|omega|(simp only[LN]<;>omega))only[row_alloc,row_set];assumption))only[W_block,P3,seval,initFr,clsA,oy,g1K,gK,o_s64,o_s32,one_s64,one_s32,s78,s77,len,len2]
  have r1:bgS L C cy x cs={C with sd:=begS C.sd cy x cs,tk:=false,nx:=none}:=by unfold bgS;rw[hB1,if_pos rfl,if_neg c3]
  have r2:bgR L C cy x cs=⟨C.sd.ch,cy,x,cs⟩:=by unfold bgR;rw[hB1,if_pos rfl,er]
  have r3:bgE L C cy x cs=0:=by unfold bgE;rw[hB1,if_pos rfl,ee]
  simp only[r1,r2,r3,erd]at hq2
  rw[set_cm (by omega) lK l1K]
  obtain⟨R2,hR2⟩:∃o:AO,o=.cells true false 6 [.int .i64 C.sd.ch,.int .i64 cy,S64 x.oc,S32 x.nr,S32 x.rv,y] 49:=⟨_,rfl⟩
  rw[←hR2]
  have c2:=Chg.set K l1K R2
  have g1Z:=AHeap.get_set_same g1K R2
  have gcZ:=(AHeap.get_set_other K (show c≠H.n+1 by omega) l1K R2).trans gK
  have lZ:=AHeap.get_lt gcZ
  have aZ:=aK _ _ c2 (by simp;omega) o1
  obtain⟨A2,hA2⟩:∃o:AO,o=.cells true false 79 (chl {v with nx:=.pointer none,tk:=false} C.s) 99:=⟨_,rfl⟩
  rw[show AO.cells true false 79 (chl _ C.s) 99=A2 from hA2.symm]
  have c4:=Chg.set (K.set (H.n+1) R2) lZ A2
  have aF:=aZ.oth c4 (by simp;omega) fun b hb o r z C T e=>by
   simp only[List.mem_cons,List.not_mem_nil,or_false]at hb
   subst hb;rw[gcZ]at e;cases e;decide
  have kF:=(Keeps.refl ((K.set (H.n+1) R2).set c A2)).alloc R2
  have hy4:SlC ((K.set (H.n+1) R2).set c A2) 2 y (cs.map cRow):=(SlC.oth hy c2 (fun b hb o r z C T e=>(o1 b hb).2.2 o r z C T e)).oth c4 fun b hb o r z C T e=>by
   simp only[List.mem_cons,List.not_mem_nil,or_false]at hb
   subst hb;rw[gcZ]at e;cases e;decide
  have cF:Chg [c,sb] H (((K.set (H.n+1) R2).set c A2).alloc R2):=(((((k0.chg [sb]).trans cK (by simp)).mono (T:=[c,sb]) (by simp)).trans c2 (by simp)).trans (c4.mono (T:=[c,sb]) (by simp)) (by simp)).trans (kF.chg []) (by simp)
  refine hq2 _ _ ⟨_,res_ct (p:=H.n+1) (kF.at_ ((AHeap.get_set_other _ (by omega) lZ A2).trans (g1Z.trans (by rw[hR2])))) rfl rfl rfl,cF,⟨{v with nx:=.pointer none,tk:=false},⟨v1,v2,v3,v4,rfl⟩,kF.at_ ((AHeap.get_set_same gcZ A2).trans (by rw[hA2])),hv.l,rfl,hv.m,aF.keeps kF,begS_ok hv.ok hcl hk,?_,hv.up cF,hv.wc,hv.ws⟩,y,rfl,hy4.keeps kF⟩
  show(begS C.sd cy x cs).ch=wh
  unfold begS
  rw[if_neg c3]
  exact hv.ch
end Go.AM.Fd
