/- Part of the proof. -/
import Derived.Test.YtpfnjeiiajeigaaGreatGCK05
set_option maxRecDepth 100000
set_option maxHeartbeats 0
set_option linter.unusedSimpArgs false
set_option linter.unusedVariables false
namespace Go.AM.Fd
open Nat (reduceAdd reduceEqDiff reduceLT reduceLeDiff reduceMul reduceSub)
open Go.Proofs Go.AM.F
def agl(ch cy:Int)(bo:Bool)(xo:Inp)(vo:Value)(bt:Bool)(xt:Inp)(vt:Value)(bk:Bool)(k:Rd)(vk:Value)(br:Bool):List Value:=
 [.int .i64 ch,.int .i64 cy,.bool bo,S64 xo.oc,S32 xo.nr,S32 xo.rv,vo,.bool bt,S64 xt.oc,S32 xt.nr,S32 xt.rv,vt,.bool bk,.int .i64 k.ch,.int .i64 k.cy,S64 k.x.oc,S32 k.x.nr,S32 k.x.rv,vk,.bool br]
structure kR (H:Aaa) (o:Option Rd) (k:Rd) (v:Value):Prop where
 s:isS v=true
 r:∀r,o=some r->r=k/\SlC H 2 v (r.c.map Aer)
structure iR (H:Aaa) (o:Option Rd) (x:Inp) (v:Value):Prop where
 s:isS v=true
 r:∀r,o=some r->r.x=x/\SlC H 2 v (r.c.map Aer)
def Ot2(H:Aaa)(S:List Nat):Prop:=∀b∈S,∀o r z C T,H.get b=some (.cells o r z C T)->z≠2
theorem kR.oth{H K:Aaa}{S:List Nat}{o:Option Rd}{k:Rd}{v:Value}(h:kR H o k v)(c:Chg S H K)(hS:Ot2 H S):kR K o k v:=⟨h.s,fun r e=>⟨(h.r r e).1,(h.r r e).2.oth c hS⟩⟩
theorem iR.oth{H K:Aaa}{S:List Nat}{o:Option Rd}{x:Inp}{v:Value}(h:iR H o x v)(c:Chg S H K)(hS:Ot2 H S):iR K o x v:=⟨h.s,fun r e=>⟨(h.r r e).1,(h.r r e).2.oth c hS⟩⟩
def AgD(H:Aaa)(b:Nat)(s:Sd):Prop:=∃xo vo xt vt k vk,H.get b=some (.cells true false 20 (agl s.ch s.cy s.own.isSome xo vo s.other.isSome xt vt s.kept.isSome k vk s.br) 136)/\iR H s.own xo vo/\iR H s.other xt vt/\kR H s.kept k vk
theorem AgD.oth{H K:Aaa}{S:List Nat}{b:Nat}{s:Sd}(h:AgD H b s)(k:Chg S H K)(hb:b∉S)(hS:Ot2 H S):AgD K b s:=by
 obtain⟨xo,vo,xt,vt,q,vk,g,a,c,d⟩:=h
 exact⟨xo,vo,xt,vt,q,vk,k.at_ g hb,a.oth k hS,c.oth k hS,d.oth k hS⟩
theorem AgD.keeps{H K:Aaa}{b:Nat}{s:Sd}(h:AgD H b s)(k:Aac H K):AgD K b s:=h.oth (k.chg []) (by simp) (fun b hb=>by cases hb)
theorem AgD.ot{H:Aaa}{b:Nat}{s:Sd}(h:AgD H b s):Ot2 H [b]:=by
 obtain⟨xo,vo,xt,vt,q,vk,g,_⟩:=h
 intro c hc o r z C T e
 simp only[List.mem_cons,List.not_mem_nil,or_false]at hc
 subst hc;rw[g]at e;cases e
 decide
theorem A4p(ch:Int):agl ch 0 false X0 (.slice none 0 0) false X0 (.slice none 0 0) false R0 (.slice none 0 0) false=[.int .i64 ch,.int .i64 0,.bool false,.int .u64 0,.int .u32 0,.int .u32 0,.slice none 0 0,.bool false,.int .u64 0,.int .u32 0,.int .u32 0,.slice none 0 0,.bool false,.int .i64 0,.int .i64 0,.int .u64 0,.int .u32 0,.int .u32 0,.slice none 0 0,.bool false]:=by
 unfold agl R0 X0
 simp only[<-Acs,<-Ae5]
theorem A4q(ch:Int):Aau Beo [(0,1,.int .i64 ch)]=some (agl ch 0 false X0 (.slice none 0 0) false X0 (.slice none 0 0) false R0 (.slice none 0 0) false):=by
 rw[A4p];rfl
theorem t49(H:Aaa)(ch:Int):∃w K,Aaq Tryz.prog 0 49 [.int .i64 ch] H w K/\w=ptr H.n 0/\Aac H K/\AgD K H.n (sd0 ch):=by
 refine Aam f49 ?_
 intro Q hq1 hq2
 have al:(agl ch 0 false X0 (.slice none 0 0) false X0 (.slice none 0 0) false R0 (.slice none 0 0) false).all Value.oneCell'=true:=by rw[A4p];rfl
 have ll:(agl ch 0 false X0 (.slice none 0 0) false X0 (.slice none 0 0) false R0 (.slice none 0 0) false).length=20:=rfl
 simp(disch:=first|assumption|omega)only[f49,P4,seval,A4q,al,ll]
 have i0:∀K x,iR K none x (.slice none 0 0):=fun K x=>⟨rfl,fun r e=>by cases e⟩
 have k0:∀K k,kR K none k (.slice none 0 0):=fun K x=>⟨rfl,fun r e=>by cases e⟩
 exact hq2 _ _ ⟨ptr H.n 0,rfl,rfl,(Aac.refl H).alloc _,X0,.slice none 0 0,X0,.slice none 0 0,R0,.slice none 0 0,Aaa.Bfd H _,i0 _ _,i0 _ _,k0 _ _⟩
theorem t87{H:Aaa}{b:Nat}{s:Sd}{cy:Int}{x:Inp}{v:Value}{cs:List (Int×Int)}(h:AgD H b s)(hv:SlC H 2 v (cs.map Aer))(hcl:cs.length<=1000):
 ∃w K,Aaq Tryz.prog 0 87 [ptr b 0,.int .i64 cy,.agg (inl x v).toArray] H w K/\Chg [b] H K/\AgD K b (Ai8 s cy x cs)/\∃z,w=.tuple #[.agg (rdl (Ait s cy x cs) z).toArray,.int .i64 (Ajx s cy)]/\SlC K 2 z ((Ait s cy x cs).c.map Aer):=by
 refine Aam f87 ?_
 intro Q hq1 hq2
 have hb:=h.ot
 have hA:=h
 obtain⟨xo,vo,xt,vt,k,vk,g,po,pt,pk⟩:=h
 have lb:=Aaa.Bfg g
 have hc:CL H v cs:=hv.s
 have oc:=Sl.one hc
 have oo:=Aap po.s
 have ot:=Aap pt.s
 have ok:=Aap pk.s
 have e1:inl x v=[S64 x.oc,S32 x.nr,S32 x.rv,v]:=rfl
 rw[e1]
 unfold agl at g
 by_cases hle:cy<=s.cy
 ·have eS:Ai8 s cy x cs=s:=by unfold Ai8;rw[if_pos hle]
  have eR:Ait s cy x cs=R0:=by unfold Ait;rw[if_pos hle]
  have eE:Ajx s cy=2:=by unfold Ajx;rw[if_pos hle]
  simp only[eS,eR,eE,Alu]at hq1 hq2
  simp(disch:=first|assumption|omega|(simp only[LN]<;>omega)|(simp(disch:=first|assumption|omega|(simp only[LN]<;>omega))only[Aab,Aad];assumption))only[f87,P4,seval,oc,O4,g,hle,Agp]
  have kA:=((Aac.refl H).alloc (.cells true false 4 [S64 x.oc,S32 x.nr,S32 x.rv,v] 46)).alloc (.cells true false 6 [.int .i64 0,.int .i64 0,.int .u64 0,.int .u32 0,.int .u32 0,.slice none 0 0] 126)
  exact hq2 _ _ ⟨_,Adj (p:=H.n+1) (Aaa.Bfd (H.alloc _) _) rfl rfl rfl,kA.chg _,hA.keeps kA,.slice none 0 0,rfl,Sl.nil _ _,.inl rfl⟩
 have eR:Ait s cy x cs=⟨s.ch,cy,x,cs⟩:=by unfold Ait;rw[if_neg hle]
 have eE:Ajx s cy=0:=by unfold Ajx;rw[if_neg hle]
 have eS:Ai8 s cy x cs={s with cy:=cy,own:=some ⟨s.ch,cy,x,cs⟩,br:=false,other:=s.kept.filter fun k=>decide (k.cy=cy),kept:=s.kept.filter fun k=>decide (cy<k.cy)}:=by unfold Ai8;rw[if_neg hle]
 simp only[eR,eE,eS]at hq1 hq2
 have er:∀z,rdl ⟨s.ch,cy,x,cs⟩ z=[.int .i64 s.ch,.int .i64 cy,S64 x.oc,S32 x.nr,S32 x.rv,z]:=fun _=>rfl
 obtain⟨A0,hA0⟩:∃o:AO,o=.cells true false 20 [.int .i64 s.ch,.int .i64 cy,.bool true,S64 xo.oc,S32 xo.nr,S32 xo.rv,vo,.bool s.other.isSome,S64 xt.oc,S32 xt.nr,S32 xt.rv,vt,.bool s.kept.isSome,.int .i64 k.ch,.int .i64 k.cy,S64 k.x.oc,S32 k.x.nr,S32 k.x.rv,vk,.bool s.br] 136:=⟨_,rfl⟩
 obtain⟨K0,hK0⟩:∃X,X=((H.set b A0).alloc (.cells true false 4 [S64 x.oc,S32 x.nr,S32 x.rv,v] 46)).alloc (.cells true false 6 [.int .i64 0,.int .i64 0,.int .u64 0,.int .u32 0,.int .u32 0,.slice none 0 0] 126):=⟨_,rfl⟩
 have cK:Chg [b] H K0:=by rw[hK0];exact(Chg.set H lb _).trans ((((Aac.refl _).alloc _).alloc _).chg []) (by simp)
 have n0:K0.n=H.n+2:=by rw[hK0];rfl
 have g0:K0.get H.n=some (.cells true false 4 [S64 x.oc,S32 x.nr,S32 x.rv,v] 46):=by rw[hK0];exact((Aac.refl _).alloc _).at_ (Aaa.Bfd (H.set b _) _)
 have g1:K0.get (H.n+1)=some (.cells true false 6 [.int .i64 0,.int .i64 0,.int .u64 0,.int .u32 0,.int .u32 0,.slice none 0 0] 126):=by rw[hK0];exact Aaa.Bfd ((H.set b _).alloc _) _
 have gb:K0.get b=some A0:=by rw[hK0];exact(((Aac.refl _).alloc _).alloc _).at_ (Aaa.Bfe g A0)
 rw[hA0]at hK0 gb
 have tC:=A7r (x:=x) (hv.oth cK hb).s (by omega)
 simp only[e1]at tC
 have e1z:∀z,inl x z=[S64 x.oc,S32 x.nr,S32 x.rv,z]:=fun _=>rfl
 simp only[e1z]at tC
 have i0:∀K x,iR K none x (.slice none 0 0):=fun K x=>⟨rfl,fun r e=>by cases e⟩
 have z64:S64 X0.oc=.int .u64 0:=Acs.symm
 have z32n:S32 X0.nr=.int .u32 0:=Ae5.symm
 have z32r:S32 X0.rv=.int .u32 0:=Ae5.symm
 refine Aco 10 (fun fr Z=>∃x6 x7,fr=[ptr b 0,.int .i64 cy,.agg #[S64 x.oc,S32 x.nr,S32 x.rv,v],ptr H.n 0,ptr (H.n+1) 0,.int .i64 0,x6,x7]/\Chg [b] H Z/\K0.n<=Z.n/\Z.get H.n=some (.cells true false 4 [S64 x.oc,S32 x.nr,S32 x.rv,v] 46)∧
  Z.get (H.n+1)=some (.cells true false 6 [.int .i64 0,.int .i64 0,.int .u64 0,.int .u32 0,.int .u32 0,.slice none 0 0] 126)/\AgD Z b {s with cy:=cy,own:=some ⟨s.ch,cy,x,cs⟩,br:=false,other:=s.kept.filter fun k=>decide (k.cy=cy),kept:=s.kept.filter fun k=>decide (cy<k.cy)}) (by kernel_rfl) ?_ ?_
 ·intro Q' hn _ _
  simp(disch:=first|assumption|omega|(simp only[LN]<;>omega)|(simp(disch:=first|assumption|omega|(simp only[LN]<;>omega))only[Aab,Aad];assumption))only[f87,Aeu,P4,seval,oc,O4,g,hle,oo,ot,ok]
  rw[<-hK0]
  refine Aae tC ?_
  rintro _ Y ⟨z,rfl,nc⟩
  have gY:=nc.k.at_ gb
  have lY:=Aaa.Bfg gY
  have isz:=Sl.is nc.c.s
  have oz:=Sl.one nc.c.s
  have nY:=nc.k.n
  have fz:∀b,blk z=some b->K0.n<=b:=nc.f
  have cY:∀o,Chg [b] H (Y.set b o):=fun o=>(cK.trans (nc.k.chg [b]) (by simp)).trans (Chg.set Y lY o) (by simp)
  have fin:∀(fr:List Value) (o t:Option Rd) (xt:Inp) (vt:Value),(∃x6 x7,fr=[ptr b 0,.int .i64 cy,.agg #[S64 x.oc,S32 x.nr,S32 x.rv,v],ptr H.n 0,ptr (H.n+1) 0,.int .i64 0,x6,x7])→
   (s.kept.filter fun k=>decide (k.cy=cy))=o->(s.kept.filter fun k=>decide (cy<k.cy))=t->iR H o xt vt->(∀r,t=some r->s.kept=some r)→
   Q' .normal fr (Y.set b (.cells true false 20 (agl s.ch cy true x z o.isSome xt vt t.isSome k vk false) 136)):=by
   rintro fr o t xt vt hfr rfl rfl ho ht
   obtain⟨x6,x7,rfl⟩:=hfr
   refine hn _ _ ⟨x6,x7,rfl,cY _,nY,(Aaa.Bff Y (by omega) lY _).trans (nc.k.at_ g0),(Aaa.Bff Y (by omega) lY _).trans (nc.k.at_ g1),x,z,_,_,k,vk,Aaa.Bfe gY _,⟨isz,fun r e=>by cases e;exact⟨rfl,nc.c.chg (Chg.set Y lY _) (fun c h1 h2=>by have:=fz c h1;simp at h2;omega)⟩⟩,ho.oth (cY _) hb,⟨pk.s,fun r e=>?_⟩⟩
   obtain⟨a1,a2⟩:=pk.r r (ht r e)
   exact⟨a1,a2.oth (cY _) hb⟩
  cases hk:s.kept with
  |none=>
   rw[hk]at fin
   simp only[hk,Option.isSome_none]at gY
   simp(disch:=first|assumption|omega|(simp only[LN]<;>omega)|(simp(disch:=first|assumption|omega|(simp only[LN]<;>omega))only[Aab,Aad];assumption))only[P4,seval,gY,isz,oz,oo,ot,ok,O4,Aep]
   have f:=fin _ none none X0 (.slice none 0 0) ⟨.bool false,.bool false,rfl⟩ rfl rfl (i0 _ _) (fun r e=>by cases e)
   simp only[agl,z64,z32n,z32r,Option.isSome_none]at f
   exact f
  |some q=>
   rw[hk]at fin
   obtain⟨rfl,_⟩:=pk.r q hk
   simp only[hk,Option.isSome_some]at gY
   rcases Int.lt_trichotomy cy q.cy with hlt|heq|hgt
   ·have h1:¬q.cy=cy:=by omega
    have f1:(Option.filter (fun k:Rd=>decide (k.cy=cy)) (some q))=none:=by simp;omega
    have f2:(Option.filter (fun k:Rd=>decide (cy<k.cy)) (some q))=some q:=by simp;omega
    simp(disch:=first|assumption|omega|(simp only[LN]<;>omega)|(simp(disch:=first|assumption|omega|(simp only[LN]<;>omega))only[Aab,Aad];assumption))only[P4,seval,gY,isz,oz,oo,ot,ok,O4,Aep,h1,hlt]
    have f:=fin _ none (some q) X0 (.slice none 0 0) ⟨.bool false,.bool false,rfl⟩ f1 f2 (i0 _ _) (fun r e=>e)
    simp only[agl,z64,z32n,z32r,Option.isSome_none,Option.isSome_some]at f
    exact f
   ·have h1:q.cy=cy:=by omega
    have h2:¬cy<q.cy:=by omega
    have f1:(Option.filter (fun k:Rd=>decide (k.cy=cy)) (some q))=some q:=by simp;omega
    have f2:(Option.filter (fun k:Rd=>decide (cy<k.cy)) (some q))=none:=by simp;omega
    simp(disch:=first|assumption|omega|(simp only[LN]<;>omega)|(simp(disch:=first|assumption|omega|(simp only[LN]<;>omega))only[Aab,Aad];assumption))only[P4,seval,gY,isz,oz,oo,ot,ok,O4,Aep,h1,h2]
    have f:=fin _ (some q) none q.x vk ⟨.bool false,.bool true,rfl⟩ f1 f2 ⟨pk.s,fun r e=>by cases e;exact⟨rfl,(pk.r q hk).2⟩⟩ (fun r e=>by cases e)
    simp only[agl,h1,Option.isSome_none,Option.isSome_some]at f
    exact f
   ·have h1:¬q.cy=cy:=by omega
    have h2:¬cy<q.cy:=by omega
    have f1:(Option.filter (fun k:Rd=>decide (k.cy=cy)) (some q))=none:=by simp;omega
    have f2:(Option.filter (fun k:Rd=>decide (cy<k.cy)) (some q))=none:=by simp;omega
    simp(disch:=first|assumption|omega|(simp only[LN]<;>omega)|(simp(disch:=first|assumption|omega|(simp only[LN]<;>omega))only[Aab,Aad];assumption))only[P4,seval,gY,isz,oz,oo,ot,ok,O4,Aep,h1,h2]
    have f:=fin _ none none X0 (.slice none 0 0) ⟨.bool false,.bool false,rfl⟩ f1 f2 (i0 _ _) (fun r e=>by cases e)
    simp only[agl,z64,z32n,z32r,Option.isSome_none]at f
    exact f
 ·rintro fr Z ⟨x6,x7,rfl,cZ,nZ,gi,gr,ag⟩
  have agZ:=ag
  obtain⟨_,_,_,_,_,_,gZ,_⟩:=ag
  unfold agl at gZ
  have tD:=A7r (x:=x) (hv.oth cZ hb).s (by omega)
  simp only[e1z]at tD
  have lZ:=Aaa.Bfg gZ
  simp(disch:=first|assumption|omega|(simp only[LN]<;>omega)|(simp(disch:=first|assumption|omega|(simp only[LN]<;>omega))only[Aab,Aad];assumption))only[f87,Ab1,P4,seval,gi,gZ]
  refine Aae tD ?_
  rintro _ V ⟨z,rfl,nc⟩
  have kV:=nc.k
  have grV:=kV.at_ gr
  have lV:=Aaa.Bfg grV
  have oz:=Sl.one nc.c.s
  have fz:∀b,blk z=some b->Z.n<=b:=nc.f
  have gbV:=kV.get b lZ
  simp(disch:=first|assumption|omega|(simp only[LN]<;>omega)|(simp(disch:=first|assumption|omega|(simp only[LN]<;>omega))only[Aab,Aad];assumption))only[P4,seval,grV,oz,O4,Aoc,gbV]
  refine⟨by simp,?_⟩
  have cV:=Chg.set V lV (.cells true false 6 [.int .i64 s.ch,.int .i64 cy,S64 x.oc,S32 x.nr,S32 x.rv,z] 126)
  have o6:Ot2 V [H.n+1]:=fun c hm o r y C T e=>by
   simp only[List.mem_cons,List.not_mem_nil,or_false]at hm
   subst hm;rw[grV]at e;cases e;decide
  have cAll:=(cZ.trans (kV.chg [b]) (by simp)).trans (cV.mono (T:=[b,H.n+1]) (by simp)) (by simp)
  have cA:Chg [b] H (V.set (H.n+1) (.cells true false 6 [.int .i64 s.ch,.int .i64 cy,S64 x.oc,S32 x.nr,S32 x.rv,z] 126)):=⟨cAll.n,fun c h1 h2=>cAll.get c h1 (by simp at h2 ⊢;omega)⟩
  exact hq2 _ _ ⟨_,Adj (p:=H.n+1) (Aaa.Bfe grV _) rfl rfl rfl,cA,(agZ.keeps kV).oth cV (by simp;omega) o6,z,rfl,nc.c.chg cV (fun c h1 h2=>by have:=fz c h1;simp at h2;omega)⟩
theorem t24{H:Aaa}{b:Nat}{s:Sd}(h:AgD H b s)(hs:SOk s):∃w K,Aaq Tryz.prog 0 24 [ptr b 0] H w K/\∃z,w=.tuple #[.agg (inl (Aby s) z).toArray,.bool (Ai9 s)]/\Ap0 H K z (Aja s):=by
 refine Aam f24 ?_
 intro Q hq1 hq2
 obtain⟨xo,vo,xt,vt,k,vk,g,po,pt,pk⟩:=h
 unfold agl at g
 have lb:=Aaa.Bfg g
 have kA:=(Aac.refl H).alloc (.cells true false 4 [.int .u64 0,.int .u32 0,.int .u32 0,.slice none 0 0] 46)
 have gA:=Aaa.Bfd H (.cells true false 4 [.int .u64 0,.int .u32 0,.int .u32 0,.slice none 0 0] 46)
 have no:Aby s=X0->Aja s=[]->Ai9 s=false->∀{fr:List Value},fr.getD 1 undef=ptr H.n 0->fr.getD 2 undef=.bool false->Q .ret fr (H.alloc (.cells true false 4 [.int .u64 0,.int .u32 0,.int .u32 0,.slice none 0 0] 46)):=fun e1 e2 e3 fr h1 h2=>by
  simp only[e1,e2,e3,A4n]at hq2
  exact hq2 _ _ ⟨_,Adj (p:=H.n) gA rfl h1 h2,.slice none 0 0,rfl,kA,⟨Sl.nil _ _,.inl rfl⟩,fun b hb=>by cases hb⟩
 cases ho:s.own with
 |none=>
  simp only[ho,Option.isSome_none]at g
  simp(disch:=first|assumption|omega|(simp only[LN]<;>omega)|(simp(disch:=first|assumption|omega|(simp only[LN]<;>omega))only[Aab,Aad];assumption))only[f24,P4,seval,g,Aep]
  exact no (by unfold Aby;rw[ho]) (by unfold Aja;rw[ho]) (by unfold Ai9;rw[ho];rfl) rfl rfl
 |some a=>
 obtain⟨rfl,sa⟩:=po.r a ho
 cases ht:s.other with
 |none=>
  simp only[ho,ht,Option.isSome_none,Option.isSome_some]at g
  simp(disch:=first|assumption|omega|(simp only[LN]<;>omega)|(simp(disch:=first|assumption|omega|(simp only[LN]<;>omega))only[Aab,Aad];assumption))only[f24,P4,seval,g,Aep]
  exact no (by unfold Aby;rw[ho,ht]) (by unfold Aja;rw[ho,ht]) (by unfold Ai9;rw[ho,ht];rfl) rfl rfl
 |some c=>
 obtain⟨rfl,sc⟩:=pt.r c ht
 simp only[ho,ht,Option.isSome_some]at g
 cases hbr:s.br with
 |true=>
  rw[hbr]at g
  simp(disch:=first|assumption|omega|(simp only[LN]<;>omega)|(simp(disch:=first|assumption|omega|(simp only[LN]<;>omega))only[Aab,Aad];assumption))only[f24,P4,seval,g,Aep]
  exact no (by unfold Aby;rw[ho,ht,hbr]) (by unfold Aja;rw[ho,ht,hbr]) (by unfold Ai9;rw[ho,ht,hbr];rfl) rfl rfl
 |false=>
 rw[hbr]at g
 have e1:Aby s=Ae9 a.x c.x:=by unfold Aby;rw[ho,ht,hbr]
 have e2:Aja s=Ajj a.c c.c:=by unfold Aja;rw[ho,ht,hbr]
 have e3:Ai9 s=true:=by unfold Ai9;rw[ho,ht,hbr];rfl
 simp only[e1,e2,e3]at hq1 hq2
 have tM:=t58 (x:=a.x) (y:=c.x) (sa.keeps kA).s (sc.keeps kA).s (by have:=(hs.own a ho).1;omega) (by have:=(hs.other c ht).1.1;omega)
 have ea:∀z,inl a.x z=[S64 a.x.oc,S32 a.x.nr,S32 a.x.rv,z]:=fun _=>rfl
 have ec:∀z,inl c.x z=[S64 c.x.oc,S32 c.x.nr,S32 c.x.rv,z]:=fun _=>rfl
 simp only[ea,ec]at tM
 simp(disch:=first|assumption|omega|(simp only[LN]<;>omega)|(simp(disch:=first|assumption|omega|(simp only[LN]<;>omega))only[Aab,Aad];assumption))only[f24,P4,seval,g,Aep]
 refine Aae tM ?_
 rintro _ V ⟨z,rfl,nc⟩
 have kV:=nc.k
 have gV:=kV.at_ gA
 have lV:=Aaa.Bfg gV
 have oz:=Sl.one nc.c.s
 have em:∀z,inl (Ae9 a.x c.x) z=[S64 (Ae9 a.x c.x).oc,S32 (Ae9 a.x c.x).nr,S32 (Ae9 a.x c.x).rv,z]:=fun _=>rfl
 simp only[em]at hq2 ⊢
 simp(disch:=first|assumption|omega|(simp only[LN]<;>omega)|(simp(disch:=first|assumption|omega|(simp only[LN]<;>omega))only[Aab,Aad];assumption))only[P4,seval,gV,oz,O4]
 have fz:∀b,blk z=some b->H.n+1<=b:=nc.f
 have cV:=Chg.set V lV (.cells true false 4 [S64 (Ae9 a.x c.x).oc,S32 (Ae9 a.x c.x).nr,S32 (Ae9 a.x c.x).rv,z] 46)
 exact hq2 _ _ ⟨_,Adj (p:=H.n) (Aaa.Bfe gV _) rfl rfl rfl,z,rfl,(kA.trans kV).Bfh cV (by simp),nc.c.chg cV (fun b h1 h2=>by have:=fz b h1;simp at h2;omega),fun b h1=>by have:=fz b h1;omega⟩
theorem t88{H:Aaa}{b:Nat}{s:Sd}{r:Rd}{v:Value}(h:AgD H b s)(hs:SOk s)(hr:ROk r)(hv:SlC H 2 v (r.c.map Aer)):
 ∃w K,Aaq Tryz.prog 0 88 [ptr b 0,.agg (rdl r v).toArray] H w K/\w=.int .i64 (Aeq s r)/\Chg [b] H K/\AgD K b (Aec s r):=by
 refine Aam f88 ?_
 intro Q hq1 hq2
 have hb:=h.ot
 have hA:=h
 obtain⟨xo,vo,xt,vt,k,vk,g,po,pt,pk⟩:=h
 have gg:=g
 unfold agl at g
 have lb:=Aaa.Bfg g
 have ov:=Sl.one hv.s
 have oo:=Aap po.s
 have ot:=Aap pt.s
 have ok:=Aap pk.s
 have er:∀z,rdl r z=[.int .i64 r.ch,.int .i64 r.cy,S64 r.x.oc,S32 r.x.nr,S32 r.x.rv,z]:=fun _=>rfl
 obtain⟨K0,hK0⟩:∃X,X=H.alloc (.cells true false 6 (rdl r v) 126):=⟨_,rfl⟩
 have k0:Aac H K0:=by rw[hK0];exact(Aac.refl H).alloc _
 have n0:K0.n=H.n+1:=by rw[hK0];rfl
 have g0:K0.get H.n=some (.cells true false 6 (rdl r v) 126):=by rw[hK0];exact Aaa.Bfd H _
 have gb0:=k0.at_ g
 rw[er]at hK0 g0
 have same:Aec s r=s->∀{fr:List Value} {e:Int} {K:Aaa},Aac H K->Aeq s r=e->fr.getD 3 undef=.int .i64 e->Q .ret fr K:=fun e1 fr e K k e2 h1=>by
  rw[e1,e2]at hq2
  exact hq2 _ _ ⟨.int .i64 e,by show some (Ae8 [fr.getD 3 undef])=_;rw[h1];rfl,rfl,k.chg _,hA.keeps k⟩
 have tC:=A7r (x:=r.x) (hv.keeps k0).s (by have:=hr.1;omega)
 have ex:∀z,inl r.x z=[S64 r.x.oc,S32 r.x.nr,S32 r.x.rv,z]:=fun _=>rfl
 simp only[ex]at tC
 rw[er]
 by_cases h1:r.ch=IntKind.i64.wrap (1-s.ch)
 case neg=>
  have e1:Aec s r=s:=by unfold Aec;rw[if_pos h1]
  have e2:Aeq s r=2:=by unfold Aeq;rw[if_pos h1]
  simp(disch:=first|assumption|omega)only[f88,P4,seval,ov,O4,g]
  rw[<-hK0]
  exact same e1 k0 e2 rfl
 case pos=>
 have en:¬r.ch≠IntKind.i64.wrap (1-s.ch):=fun e=>e h1
 by_cases h2:r.cy<s.cy
 ·have e1:Aec s r=s:=by unfold Aec;rw[if_neg en,if_pos h2]
  have e2:Aeq s r=190:=by unfold Aeq;rw[if_neg en,if_pos h2]
  simp(disch:=first|assumption|omega)only[f88,P4,seval,ov,O4,g,h2]
  rw[<-hK0]
  exact same e1 k0 e2 rfl
 have gen:∀A:List Value,∃K,K=(H.set b (.cells true false 20 A 136)).alloc (.cells true false 6 [.int .i64 r.ch,.int .i64 r.cy,S64 r.x.oc,S32 r.x.nr,S32 r.x.rv,v] 126)/\Chg [b] H K/\K.get b=some (.cells true false 20 A 136)∧
  (∃w V,Aaq Tryz.prog 0 111 [.agg #[S64 r.x.oc,S32 r.x.nr,S32 r.x.rv,v]] K w V/\∃z,w=.agg #[S64 r.x.oc,S32 r.x.nr,S32 r.x.rv,z]/\Ap0 K V z r.c)/\K.get H.n=some (.cells true false 6 [.int .i64 r.ch,.int .i64 r.cy,S64 r.x.oc,S32 r.x.nr,S32 r.x.rv,v] 126):=fun A=>by
  obtain⟨K,hK⟩:∃X,X=(H.set b (.cells true false 20 A 136)).alloc (.cells true false 6 [.int .i64 r.ch,.int .i64 r.cy,S64 r.x.oc,S32 r.x.nr,S32 r.x.rv,v] 126):=⟨_,rfl⟩
  have cK:Chg [b] H K:=by rw[hK];exact(Chg.set H lb _).trans (((Aac.refl _).alloc _).chg []) (by simp)
  have tC:=A7r (x:=r.x) (hv.oth cK hb).s (by have:=hr.1;omega)
  simp only[ex]at tC
  exact⟨K,hK,cK,by rw[hK];exact((Aac.refl _).alloc _).at_ (Aaa.Bfe g _),tC,by rw[hK];exact Aaa.Bfd (H.set b _) _⟩
 have cY:∀{K Y:Aaa} {A:List Value},Chg [b] H K->K.get b=some (.cells true false 20 A 136)->Aac K Y->∀o,Chg [b] H (Y.set b o):=fun{K Y A} c g k o=>(c.trans (k.chg [b]) (by simp)).trans (Chg.set Y (Aaa.Bfg (k.at_ g)) o) (by simp)
 have zY:∀{K Y:Aaa} {A:List Value} {z:Value},K.get b=some (.cells true false 20 A 136)->Ap0 K Y z r.c->∀o,SlC (Y.set b o) 2 z (r.c.map Aer):=fun{K Y A z} g nc o=>by
  have gY:=nc.k.at_ g
  have l:=Aaa.Bfg g
  have fz:∀b,blk z=some b->K.n<=b:=nc.f
  exact nc.c.chg (Chg.set Y (Aaa.Bfg gY) o) (fun c h1 h2=>by have:=fz c h1;simp at h2;omega)
 by_cases h3:s.cy<r.cy
 ·have new:(s.kept=none\/∃q,s.kept=some q/\q.cy<r.cy)->Aec s r={s with kept:=some r}/\Aeq s r=0:=by
   rintro(hk|⟨q,hk,h4⟩)
   ·unfold Aec Aeq;rw[if_neg en,if_neg h2,if_pos h3,if_neg en,if_neg h2,if_pos h3,hk];exact⟨rfl,rfl⟩
   ·unfold Aec Aeq;rw[if_neg en,if_neg h2,if_pos h3,if_neg en,if_neg h2,if_pos h3,hk];simp only[h4,if_true];exact⟨trivial,trivial⟩
  obtain⟨K1,hK1,cK,gK,⟨_,Y,hrun,z,rfl,nc⟩,gr⟩:=gen [.int .i64 s.ch,.int .i64 s.cy,.bool s.own.isSome,S64 xo.oc,S32 xo.nr,S32 xo.rv,vo,.bool s.other.isSome,S64 xt.oc,S32 xt.nr,S32 xt.rv,vt,.bool true,.int .i64 k.ch,.int .i64 k.cy,S64 k.x.oc,S32 k.x.nr,S32 k.x.rv,vk,.bool s.br]
  have gY:=nc.k.at_ gK
  have lY:=Aaa.Bfg gY
  have oz:=Sl.one nc.c.s
  have krY:=nc.k.get _ (Aaa.Bfg gr)
  have fin:∀(fr:List Value),(s.kept=none\/∃q,s.kept=some q/\q.cy<r.cy)->fr.getD 3 undef=.int .i64 0→
   Q .ret fr (Y.set b (.cells true false 20 (agl s.ch s.cy s.own.isSome xo vo s.other.isSome xt vt true r z s.br) 136)):=fun fr hk hfr=>by
   obtain⟨e1,e2⟩:=new hk
   exact hq2 _ _ ⟨.int .i64 0,by show some (Ae8 [fr.getD 3 undef])=_;rw[hfr];rfl,by rw[e2],cY cK gK nc.k _,by rw[e1];exact⟨_,_,_,_,r,z,Aaa.Bfe gY _,po.oth (cY cK gK nc.k _) hb,pt.oth (cY cK gK nc.k _) hb,⟨Sl.is nc.c.s,fun q e=>by cases e;exact⟨rfl,zY gK nc _⟩⟩⟩⟩
  unfold agl at fin
  cases hk:s.kept with
  |none=>
   simp only[hk,Option.isSome_none]at g gb0
   simp(disch:=first|assumption|omega|(simp only[LN]<;>omega)|(simp(disch:=first|assumption|omega|(simp only[LN]<;>omega))only[Aab,Aad];assumption))only[f88,P4,seval,ov,O4,g,h2,h3]
   rw[<-hK1]
   refine⟨_,_,hrun,?_⟩
   simp(disch:=first|assumption|omega|(simp only[LN]<;>omega)|(simp(disch:=first|assumption|omega|(simp only[LN]<;>omega))only[Aab,Aad];assumption))only[P4,seval,gY,oz,oo,ot,ok,O4,Aoc,krY]
   exact⟨by simp,fin _ (.inl hk) rfl⟩
  |some q=>
   obtain⟨rfl,sq⟩:=pk.r q hk
   simp only[hk,Option.isSome_some]at g gb0
   by_cases h4:q.cy<r.cy
   ·simp(disch:=first|assumption|omega|(simp only[LN]<;>omega)|(simp(disch:=first|assumption|omega|(simp only[LN]<;>omega))only[Aab,Aad];assumption))only[f88,P4,seval,ov,O4,g,h2,h3,h4]
    rw[<-hK1]
    refine⟨_,_,hrun,?_⟩
    simp(disch:=first|assumption|omega|(simp only[LN]<;>omega)|(simp(disch:=first|assumption|omega|(simp only[LN]<;>omega))only[Aab,Aad];assumption))only[P4,seval,gY,oz,oo,ot,ok,O4,Aoc,krY]
    exact⟨by simp,fin _ (.inr ⟨_,hk,h4⟩) rfl⟩
   ·have e1:Aec s r=s:=by unfold Aec;rw[if_neg en,if_neg h2,if_pos h3,hk];simp only[h4,if_false]
    have e2:Aeq s r=if decide (q.cy=r.cy)&&Akx q.x q.c r.x r.c then 0 else 4:=by unfold Aeq;rw[if_neg en,if_neg h2,if_pos h3,hk];simp only[h4,if_false]
    have tS:=t25 (x:=r.x) (y:=q.x) (hv.keeps k0).s (sq.keeps k0).s (by have:=hr.1;omega) (by have:=(hs.kept q hk).1;omega)
    simp only[ex,show∀z,inl q.x z=[S64 q.x.oc,S32 q.x.nr,S32 q.x.rv,z]from fun _=>rfl]at tS
    by_cases h5:q.cy=r.cy
    ·have h5':r.cy=q.cy:=h5.symm
     simp(disch:=first|assumption|omega|(simp only[LN]<;>omega)|(simp(disch:=first|assumption|omega|(simp only[LN]<;>omega))only[Aab,Aad];assumption))only[f88,P4,seval,ov,O4,g,h2,h3,h4]
     rw[<-hK0]
     refine Aae tS ?_
     rintro _ X ⟨rfl,hX⟩
     rw[hX,Aw5]
     rw[decide_eq_true h5,Bool.true_and]at e2
     cases hB:Akx q.x q.c r.x r.c with
     |true=>
      rw[hB]at e2
      simp(disch:=first|assumption|omega)only[P4,seval]
      exact same e1 k0 e2 rfl
     |false=>
      rw[hB]at e2
      simp(disch:=first|assumption|omega)only[P4,seval]
      exact same e1 k0 e2 rfl
    ·have h5':¬r.cy=q.cy:=fun e=>h5 e.symm
     rw[decide_eq_false h5,Bool.false_and]at e2
     simp(disch:=first|assumption|omega)only[f88,P4,seval,ov,O4,g,h2,h3,h4]
     rw[<-hK0]
     exact same e1 k0 e2 rfl
 ·cases ht:s.other with
  |none=>
   have e1:Aec s r={s with other:=some r}:=by unfold Aec;rw[if_neg en,if_neg h2,if_neg h3,ht]
   have e2:Aeq s r=0:=by unfold Aeq;rw[if_neg en,if_neg h2,if_neg h3,ht]
   obtain⟨K1,hK1,cK,gK,⟨_,Y,hrun,z,rfl,nc⟩,gr⟩:=gen [.int .i64 s.ch,.int .i64 s.cy,.bool s.own.isSome,S64 xo.oc,S32 xo.nr,S32 xo.rv,vo,.bool true,S64 xt.oc,S32 xt.nr,S32 xt.rv,vt,.bool s.kept.isSome,.int .i64 k.ch,.int .i64 k.cy,S64 k.x.oc,S32 k.x.nr,S32 k.x.rv,vk,.bool s.br]
   have gY:=nc.k.at_ gK
   have lY:=Aaa.Bfg gY
   have oz:=Sl.one nc.c.s
   simp only[ht,Option.isSome_none]at g gb0
   simp(disch:=first|assumption|omega|(simp only[LN]<;>omega)|(simp(disch:=first|assumption|omega|(simp only[LN]<;>omega))only[Aab,Aad];assumption))only[f88,P4,seval,ov,O4,g,h2,h3]
   rw[<-hK1]
   refine⟨_,_,hrun,?_⟩
   simp(disch:=first|assumption|omega|(simp only[LN]<;>omega)|(simp(disch:=first|assumption|omega|(simp only[LN]<;>omega))only[Aab,Aad];assumption))only[P4,seval,gY,oz,oo,ot,ok,O4]
   exact hq2 _ _ ⟨.int .i64 0,rfl,by rw[e2],cY cK gK nc.k _,by rw[e1];exact⟨_,_,r.x,z,k,vk,Aaa.Bfe gY _,po.oth (cY cK gK nc.k _) hb,⟨Sl.is nc.c.s,fun q e=>by cases e;exact⟨rfl,zY gK nc _⟩⟩,pk.oth (cY cK gK nc.k _) hb⟩⟩
  |some q=>
   obtain⟨rfl,sq⟩:=pt.r q ht
   simp only[ht,Option.isSome_some]at g gb0
   have tS:=t25 (x:=r.x) (y:=q.x) (hv.keeps k0).s (sq.keeps k0).s (by have:=hr.1;omega) (by have:=(hs.other q ht).1.1;omega)
   simp only[ex,show∀z,inl q.x z=[S64 q.x.oc,S32 q.x.nr,S32 q.x.rv,z]from fun _=>rfl]at tS
   simp(disch:=first|assumption|omega|(simp only[LN]<;>omega)|(simp(disch:=first|assumption|omega|(simp only[LN]<;>omega))only[Aab,Aad];assumption))only[f88,P4,seval,ov,O4,g,h2,h3]
   rw[<-hK0]
   refine Aae tS ?_
   rintro _ X ⟨rfl,hX⟩
   rw[hX,Aw5]
   cases hB:Akx q.x q.c r.x r.c with
   |true=>
    have e1:Aec s r=s:=by unfold Aec;rw[if_neg en,if_neg h2,if_neg h3,ht];simp only[hB,if_true]
    have e2:Aeq s r=0:=by unfold Aeq;rw[if_neg en,if_neg h2,if_neg h3,ht];simp only[hB,if_true]
    simp(disch:=first|assumption|omega)only[P4,seval]
    exact same e1 k0 e2 rfl
   |false=>
    have e1:Aec s r={s with br:=true}:=by unfold Aec;rw[if_neg en,if_neg h2,if_neg h3,ht];simp[hB]
    have e2:Aeq s r=4:=by unfold Aeq;rw[if_neg en,if_neg h2,if_neg h3,ht];simp[hB]
    have l0:=Aaa.Bfg gb0
    simp(disch:=first|assumption|omega)only[P4,seval,gb0,oo,ot,ok,O4]
    have cB:∀o,Chg [b] H (K0.set b o):=fun o=>(k0.chg [b]).trans (Chg.set K0 l0 o) (by simp)
    exact hq2 _ _ ⟨.int .i64 4,rfl,by rw[e2],cB _,by rw[e1];exact⟨xo,vo,q.x,vt,k,vk,(Aaa.Bfe gb0 _).trans (by rw[show({s with br:=true}:Sd).other=some q from ht];rfl),po.oth (cB _) hb,pt.oth (cB _) hb,pk.oth (cB _) hb⟩⟩
theorem Aw9{P:Program}{ng:Nat}{H:Aaa}{fr tm:List Value}{KF:List Value->Aaa->Prop}{tr:List TE}(d:D)(un:List Nat)(rd:List (Aa7×List Nat)){t:TypeId}{nm:String}{g:FuncId}(h:Ale P t nm=some g)(v:Value)(xs:List Value):
 stD P ng (.inv nm (.iface t v) xs) d un rd fr tm H tr KF=Azq P ng g (v::xs) d un rd fr tm H tr KF:=by
 show(match Ale P t nm with
  |some g=>∃v' H',Aaq P ng g (v::xs) H v' H'/\_
  |none=>False)=_
 rw[h];rfl
structure Chv where
 wh:Int
 ls:Value
 lp:Value
 lr:Value
 iv:Value
 ep:Int
 fl:Int
 sb:Nat
 tk:Bool
 nx:Value
def chl(c:Chv)(s:Sta):List Value:=[.int .i64 c.wh,c.ls,c.lp,.slice none 0 0,c.lr,c.iv]++(stl s++[.int .i64 c.ep,.int .i64 c.fl,ptr c.sb 0,.bool c.tk,c.nx])
theorem Adl(c:Chv)(s:Sta):(chl c s).length=79:=by simp[chl,Aaf]
section
variable (c:Chv) (s:Sta)
theorem A9s:(chl c s)[0]? =some (.int .i64 c.wh):=rfl
theorem A4r:(chl c s)[5]? =some c.iv:=rfl
theorem A9t:(chl c s)[6]? =some (S64 s.lo):=rfl
theorem A9u:(chl c s)[7]? =some (S64 s.us):=rfl
theorem A9v:(chl c s)[8]? =some (S64 s.ca):=rfl
theorem Asa(i:Nat)(h:i<5):(chl c s)[74+i]? =[Value.int .i64 c.ep,.int .i64 c.fl,ptr c.sb 0,.bool c.tk,c.nx][i]? :=by
 unfold chl
 rw[List.getElem?_append_right (by simp;omega),List.getElem?_append_right (by rw[Aaf];simp;omega),Aaf]
 congr 1
 simp
 omega
theorem Axa:(chl c s)[74]? =some (.int .i64 c.ep):=Asa c s 0 (by omega)
theorem A4s:(chl c s)[75]? =some (.int .i64 c.fl):=Asa c s 1 (by omega)
theorem Ajy:(chl c s)[76]? =some (ptr c.sb 0):=Asa c s 2 (by omega)
theorem A4t:(chl c s)[77]? =some (.bool c.tk):=Asa c s 3 (by omega)
theorem A4u:(chl c s)[78]? =some c.nx:=Asa c s 4 (by omega)
theorem A4v(i:Nat)(h:i<68):(chl c s)[6+i]? =(stl s)[i]? :=by
 unfold chl
 rw[List.getElem?_append_right (by simp),List.getElem?_append_left (by rw[Aaf];simp;omega)]
 congr 1
 simp
theorem A4w:(chl c s)[73]? =some (S32 s.po):=(A4v c s 67 (by omega)).trans (Ab0 s)
theorem A9w{i:Nat}(h:i<64):(chl c s)[9+i]? =some (.int .u8 (s.ti i:Nat)):=by
 have:=A4v c s (3+i) (by omega)
 rw[Ak2 s h,<-Nat.add_assoc]at this
 exact this
theorem A0t:((chl c s).drop 1).take 4=[c.ls,c.lp,.slice none 0 0,c.lr]:=rfl
theorem A4x:((chl c s).drop 6).take 68=stl s:=by
 show(stl s++_).take 68=_
 rw[List.take_append_of_le_length (by rw[Aaf];omega),List.take_of_length_le (by rw[Aaf];omega)]
theorem Axb(i:Nat)(h:i<68)(x:Value):(chl c s).set (6+i) x=[.int .i64 c.wh,c.ls,c.lp,.slice none 0 0,c.lr,c.iv]++((stl s).set i x++[.int .i64 c.ep,.int .i64 c.fl,ptr c.sb 0,.bool c.tk,c.nx]):=by
 unfold chl
 rw[List.set_append_right _ _ (by simp),List.set_append_left _ _ (by rw[Aaf];simp;omega)]
 congr 3
 simp
theorem A4y(f:Nat->Bool):(chl c s).set 6 (S64 f)=chl c {s with lo:=f}:=rfl
theorem A4z(f:Nat->Bool):(chl c s).set 7 (S64 f)=chl c {s with us:=f}:=rfl
theorem A40(f:Nat->Bool):(chl c s).set 8 (S64 f)=chl c {s with ca:=f}:=rfl
theorem A0u(f:Nat->Bool):(chl c s).set 73 (S32 f)=chl c {s with po:=f}:=by
 rw[show 73=6+67 from rfl,Axb c s 67 (by omega),Afl];rfl
theorem A41{i:Nat}(h:i<64)(n:Nat):(chl c s).set (9+i) (.int .u8 (n:Nat))=chl c {s with ti:=upd s.ti i n}:=by
 rw[show 9+i=6+(3+i) by omega,Axb c s (3+i) (by omega),Ajl s h];rfl
theorem Axc(i:Nat)(h:i<5)(x:Value):(chl c s).set (74+i) x=[.int .i64 c.wh,c.ls,c.lp,.slice none 0 0,c.lr,c.iv]++(stl s++[Value.int .i64 c.ep,.int .i64 c.fl,ptr c.sb 0,.bool c.tk,c.nx].set i x):=by
 unfold chl
 rw[List.set_append_right _ _ (by simp;omega),List.set_append_right _ _ (by rw[Aaf];simp;omega),Aaf]
 congr 3
 simp
 omega
theorem Asb(b:Bool):(chl c s).set 77 (.bool b)=chl {c with tk:=b} s:=Axc c s 3 (by omega) _
theorem Am0(v:Value):(chl c s).set 78 v=chl {c with nx:=v} s:=Axc c s 4 (by omega) _
theorem A42(t:Sta):(chl c s).take 6++stl t++(chl c s).drop (6+68)=chl c t:=by
 have h1:(chl c s).take 6=[.int .i64 c.wh,c.ls,c.lp,.slice none 0 0,c.lr,c.iv]:=rfl
 have h2:(chl c s).drop (6+68)=[.int .i64 c.ep,.int .i64 c.fl,ptr c.sb 0,.bool c.tk,c.nx]:=by
  show(stl s++_).drop 68=_
  rw[List.drop_append_of_le_length (by rw[Aaf];omega),List.drop_of_length_le (by rw[Aaf];omega)];rfl
 rw[h1,h2,List.append_assoc];rfl
end
theorem Asc{c:Chv}(s:Sta)(hi:∃t x,c.iv=.iface t x)(ha:isS c.ls=true)(hb:isS c.lp=true)(hc:isS c.lr=true)(hn:c.nx.oneCell'=true):(chl c s).all Value.oneCell'=true:=by
 obtain⟨wh,ls,lp,lr,iv,ep,fl,sb,tk,nx⟩:=c
 obtain⟨t,x,hi⟩:=hi
 simp only at hi ha hb hc hn
 subst hi
 simp only[chl,List.all_append,Aas,List.all_cons,List.all_nil,Aap ha,Aap hb,Aap hc,hn]
 rfl
def nR(H:Aaa)(v:Value)(o:Option Sta):Prop:=match o with
 |none=>v=.pointer none
 |some t=>∃b own rm,v=ptr b 0/\H.get b=some (.cells own rm 68 (stl t) 43)
theorem nR.oth{H K:Aaa}{S:List Nat}{v:Value}{o:Option Sta}(h:nR H v o)(k:Chg S H K)(hS:∀b∈S,∀o r z C T,H.get b=some (.cells o r z C T)->z≠68):nR K v o:=by
 cases o with
 |none=>exact h
 |some t=>
  obtain⟨b,ow,rm,rfl,g⟩:=h
  exact⟨b,ow,rm,rfl,k.at_ g fun hm=>hS b hm _ _ _ _ _ g rfl⟩
def MaM(H:Aaa)(v:Value)(L:Ly):Prop:=(∃b,v=.iface 35 (ptr b 0)/\MaA H b L)\/∃b,v=.iface 139 (ptr b 0)/\MaR H b L
structure Ch where
 s:Sta
 ep:Int
 fl:Int
 sd:Sd
 tk:Bool
 nx:Option Sta
structure Wd where
 B:Aaa
 S:List Nat
def Wd.ok(W:Wd)(b:Nat):Prop:=b∈W.S\/W.B.n<=b
structure ChV (W:Wd) (H:Aaa) (c sb:Nat) (wh:Int) (L:Ly) (v:Chv) (C:Ch):Prop where
 e:v.wh=wh/\v.sb=sb/\v.ep=C.ep/\v.fl=C.fl/\v.tk=C.tk
 g:H.get c=some (.cells true false 79 (chl v C.s) 99)
 l:A7q ⟨v.ls,v.lp,.slice none 0 0,v.lr⟩ L.s.length L.p.length L.r.length
 n:nR H v.nx C.nx
 m:∀K,Chg W.S W.B K->MaM K v.iv L
 sd:AgR H sb C.sd
 ok:SOk C.sd
 ch:C.sd.ch=wh
 w:Chg W.S W.B H
 wc:W.ok c
 ws:W.ok sb
def ChR(W:Wd)(H:Aaa)(c sb:Nat)(wh:Int)(L:Ly)(C:Ch):Prop:=∃v,ChV W H c sb wh L v C
theorem ChV.ms{W:Wd}{H:Aaa}{c sb:Nat}{wh:Int}{L:Ly}{v:Chv}{C:Ch}(h:ChV W H c sb wh L v C):MaM H v.iv L:=h.m H h.w
theorem ChV.ne{W:Wd}{H:Aaa}{c sb:Nat}{wh:Int}{L:Ly}{v:Chv}{C:Ch}(h:ChV W H c sb wh L v C):c≠sb:=by
 obtain⟨_,_,_,g,_⟩:=h.sd
 intro e;subst e;rw[h.g]at g;cases g
theorem ChV.o68{W:Wd}{H:Aaa}{c sb:Nat}{wh:Int}{L:Ly}{v:Chv}{C:Ch}(h:ChV W H c sb wh L v C):∀b∈[c,sb],∀o r z C T,H.get b=some (.cells o r z C T)->z≠68/\z≠2/\T≠49:=by
 obtain⟨_,_,_,g,_⟩:=h.sd
 intro b hb o r z C T e
 simp only[List.mem_cons,List.not_mem_nil,or_false]at hb
 rcases hb with rfl|rfl
 ·rw[h.g]at e;cases e;decide
 ·rw[g]at e;cases e;decide
theorem ChV.up{W:Wd}{H K:Aaa}{c sb:Nat}{wh:Int}{L:Ly}{v:Chv}{C:Ch}(h:ChV W H c sb wh L v C)(k:Chg [c,sb] H K):Chg W.S W.B K:=
 h.w.trans k fun x hx=>by
  simp only[List.mem_cons,List.not_mem_nil,or_false]at hx
  rcases hx with rfl|rfl
  ·exact h.wc
  ·exact h.ws
theorem ChV.oth{W:Wd}{H K:Aaa}{c sb:Nat}{wh:Int}{L:Ly}{v:Chv}{C:Ch}{S:List Nat}(h:ChV W H c sb wh L v C)(k:Chg S H K)(hc:c∉S)(hs:sb∉S)(hW:∀x∈S,x∈W.S\/W.B.n<=x)
 (hS:∀b∈S,∀o r z C T,H.get b=some (.cells o r z C T)->z≠68/\z≠2/\T≠49):ChV W K c sb wh L v C:=
 ⟨h.e,k.at_ h.g hc,h.l,h.n.oth k fun b hb o r z C T e=>(hS b hb o r z C T e).1,h.m,h.sd.oth k hs fun b hb o r z C T e=>(hS b hb o r z C T e).2,h.ok,h.ch,h.w.trans k hW,h.wc,h.ws⟩
theorem ChV.keeps{W:Wd}{H K:Aaa}{c sb:Nat}{wh:Int}{L:Ly}{v:Chv}{C:Ch}(h:ChV W H c sb wh L v C)(k:Aac H K):ChV W K c sb wh L v C:=h.oth (k.chg []) (by simp) (by simp) (by simp) (by simp)
theorem ChR.keeps{W:Wd}{H K:Aaa}{c sb:Nat}{wh:Int}{L:Ly}{C:Ch}(h:ChR W H c sb wh L C)(k:Aac H K):ChR W K c sb wh L C:=by
 obtain⟨v,h⟩:=h;exact⟨v,h.keeps k⟩
theorem t34{H:Aaa}(n:Int):∃w K,Aaq Tryz.prog 0 34 [.int .i64 n] H w K/\w=.bool (decide (0<=n)&&decide (n<=1099511627776))/\K=H:=by
 refine Aam f34 ?_
 intro Q hq1 hq2
 by_cases h1:0<=n
 ·simp(disch:=first|assumption|omega)only[f34,P4,seval,h1]
  exact hq2 _ _ ⟨.bool _,rfl,by simp[h1],rfl⟩
 ·simp(disch:=first|assumption|omega)only[f34,P4,seval,h1]
  exact hq2 _ _ ⟨.bool false,rfl,by simp[h1],rfl⟩
theorem t28{H:Aaa}{u:V4}{xs:List RV}{L:Ly}{wh:Int}(hw:wh=0\/wh=1)(h:LyR H u xs L)(hf:Ah5 9223372036854775807 L):
 ∃w K,Aaq Tryz.prog 0 28 [.int .i64 wh,.agg u.l.toArray] H w K/\Aac H K/\∃iv,w=.tuple #[iv,.int .i64 (Aan L)]/\(∃t x,iv=.iface t x)∧
  (Aan L=0->∀S K',Chg S K K'->(∀b∈S,(b<H.n\/K.n<=b)/\∀o r z c T,K.get b=some (.cells o r z c T)->¬(z=1\/z=2\/z=4\/z=5))->MaM K' iv L):=by
 refine Aam f28 ?_
 intro Q hq1 hq2
 have os:=Sl.one h.s
 have op:=Sl.one h.p
 have og:=Sl.one h.g
 have or:=Sl.one h.r
 have hul:u.l=[u.s,u.p,u.g,u.r]:=rfl
 have kA:=(Aac.refl H).alloc (.cells true false 4 [u.s,u.p,u.g,u.r] 27)
 rcases hw with rfl|rfl
 ·by_cases he:Aan L=0
  ·have tN:=t10 (h.keeps kA) hf he
   simp only[hul]at tN ⊢
   simp(disch:=first|assumption|omega|(simp only[LN]<;>omega)|(simp(disch:=first|assumption|omega|(simp only[LN]<;>omega))only[Aab,Aad];assumption))only[f28,P4,seval,os,op,og,or]
   refine Aae tN ?_
   rintro _ K ⟨k,b,rfl,m⟩
   simp(disch:=first|assumption|omega)only[P4,seval]
   refine hq2 _ _ ⟨.tuple #[.iface 35 (ptr b 0),.int .i64 0],rfl,kA.trans k,_,by rw[he],⟨_,_,rfl⟩,fun _ S K' c hS=>.inl ⟨b,rfl,m.chg c fun z hz b hb o r C T g=>(hS b hb).2 _ _ _ _ _ g hz⟩⟩
  ·have tN:=u10 (h.keeps kA) hf he
   simp only[hul]at tN ⊢
   simp(disch:=first|assumption|omega|(simp only[LN]<;>omega)|(simp(disch:=first|assumption|omega|(simp only[LN]<;>omega))only[Aab,Aad];assumption))only[f28,P4,seval,os,op,og,or]
   refine Aae tN ?_
   rintro _ K ⟨k,rfl⟩
   simp(disch:=first|assumption|omega)only[P4,seval]
   exact hq2 _ _ ⟨.tuple #[.iface 35 (.pointer none),.int .i64 (Aan L)],rfl,kA.trans k,_,rfl,⟨_,_,rfl⟩,fun e=>absurd e he⟩
 ·have tN:=t60 (h.keeps kA) hf
  simp only[hul]at tN ⊢
  simp(disch:=first|assumption|omega|(simp only[LN]<;>omega)|(simp(disch:=first|assumption|omega|(simp only[LN]<;>omega))only[Aab,Aad];assumption))only[f28,P4,seval,os,op,og,or]
  refine Aae tN ?_
  rintro _ K ⟨k,e1,e2⟩
  by_cases he:Aan L=0
  ·obtain⟨b,rfl,m⟩:=e2 he
   simp(disch:=first|assumption|omega)only[P4,seval]
   exact hq2 _ _ ⟨.tuple #[.iface 139 (ptr b 0),.int .i64 0],rfl,kA.trans k,_,by rw[he],⟨_,_,rfl⟩,fun _ S K' c hS=>.inr ⟨b,rfl,(m.same fun d h1 h2=>c.get d h2 fun hm=>by
    have:=(hS d hm).1
    simp only[Acd]at h1
    omega).r⟩⟩
  ·rw[e1 he]
   simp(disch:=first|assumption|omega)only[P4,seval]
   exact hq2 _ _ ⟨.tuple #[.iface 139 (.pointer none),.int .i64 (Aan L)],rfl,kA.trans k,_,rfl,⟨_,_,rfl⟩,fun e=>absurd e he⟩
theorem A43(wh:Int)(a b c iv:Value)(sb:Nat)(hi:∃t x,iv=.iface t x)(ha:isS a=true)(hb:isS b=true)(hc:isS c=true):Aau A70 [(0,1,.int .i64 wh),(1,4,.agg #[a,b,.slice none 0 0,c]),(5,1,iv),(76,1,ptr sb 0)]=some (chl ⟨wh,a,b,c,iv,0,0,sb,false,.pointer none⟩ Abi):=by
 have e:chl ⟨wh,a,b,c,iv,0,0,sb,false,.pointer none⟩ Abi=[.int .i64 wh,a,b,.slice none 0 0,c,iv,.int .u64 0,.int .u64 0,.int .u64 0]++List.replicate 64 (.int .u8 0)++[.int .u32 0,.int .i64 0,.int .i64 0,ptr sb 0,.bool false,.pointer none]:=by
  unfold chl
  rw[<-Ac9];rfl
 rw[e]
 obtain⟨t,x,rfl⟩:=hi
 obtain⟨_,_,_,rfl⟩:=Aeb ha
 obtain⟨_,_,_,rfl⟩:=Aeb hb
 obtain⟨_,_,_,rfl⟩:=Aeb hc
 rfl
theorem A9x(H:Aaa){e esz b n:Nat}{z:List Value}(hz:z.length=esz)(ho:z.all Value.oneCell'=true)(h1:n*b<=140737488355328)(h2:n<=1000000):Aak (.mksl e esz b z (.int .i64 ((n:Nat):Int)) (.int .i64 ((n:Nat):Int))) H=some (slc H.n 0 n n,H.alloc (.cells true false esz (List.replicate n z).flatten e)):=by
 have h4:((n*b:Nat):Int)<=140737488355328:=by omega
 have h3:((n:Nat):Int)*(b:Int)<=140737488355328:=by simpa using h4
 have h5:(b:Int)*((n:Nat):Int)<=140737488355328:=by rw[Int.mul_comm];exact h3
 simp only[Aak]
 rw[if_pos ⟨by omega,by omega,by first|exact h3|exact h5|omega,by first|exact h3|exact h5|omega,hz,ho⟩,Int.toNat_natCast]
theorem t9{H:Aaa}{u:V4}{xs:List RV}{L:Ly}{wh:Int}(h:LyR H u xs L)(hf:Ah5 9223372036854775807 L):
 ∃w K,Aaq Tryz.prog 0 9 [.int .i64 wh,.agg u.l.toArray] H w K/\Aac H K/\(¬(wh=0\/wh=1)->w=.tuple #[.pointer none,.int .i64 2])/\(wh=0\/wh=1->(Aan L≠0->w=.tuple #[.pointer none,.int .i64 (Aan L)])∧
  (Aan L=0->∃c sb,∃v:Chv,w=.tuple #[ptr c 0,.int .i64 0]/\(v.wh=wh/\v.sb=sb/\v.ep=0/\v.fl=0/\v.tk=false/\v.nx=.pointer none)/\K.get c=some (.cells true false 79 (chl v Abi) 99)∧
   A7q ⟨v.ls,v.lp,.slice none 0 0,v.lr⟩ L.s.length L.p.length L.r.length/\AgR K sb (sd0 wh)/\H.n<=c/\H.n<=sb∧
   ∀S K',Chg S K K'->(∀b∈S,(b<H.n\/b=c\/b=sb\/K.n<=b)/\∀o r z c T,K.get b=some (.cells o r z c T)->¬(z=1\/z=2\/z=4\/z=5))->MaM K' v.iv L)):=by
 refine Aam f9 ?_
 intro Q hq1 hq2
 have os:=Sl.one h.s
 have op:=Sl.one h.p
 have og:=Sl.one h.g
 have or:=Sl.one h.r
 have is:=Sl.is h.s
 have ip:=Sl.is h.p
 have ir:=Sl.is h.r
 have ls:=h.s.len
 have lp:=h.p.len
 have lr:=h.r.len
 rw[h.rlen]at lr
 have hul:u.l=[u.s,u.p,u.g,u.r]:=rfl
 have kA:=(Aac.refl H).alloc (.cells true false 4 [u.s,u.p,u.g,u.r] 27)
 have gA:=Aaa.Bfd H (.cells true false 4 [u.s,u.p,u.g,u.r] 27)
 by_cases hw:wh=0\/wh=1
 case neg=>
  have h0:¬wh=0:=fun e=>hw (.inl e)
  have h1:¬wh=1:=fun e=>hw (.inr e)
  simp only[hul]
  simp(disch:=first|assumption|omega)only[f9,P4,seval,os,op,og,or]
  exact hq2 _ _ ⟨.tuple #[.pointer none,.int .i64 2],rfl,kA,fun _=>rfl,fun e=>absurd e hw⟩
 have tN:=t28 hw (h.keeps kA) hf
 simp only[hul]at tN ⊢
 by_cases he:Aan L=0
 case neg=>
  have ne:(Aan L != 0)=true:=by simp[he]
  rcases hw with rfl|rfl
  all_goals
   simp(disch:=first|assumption|omega|(simp only[LN]<;>omega)|(simp(disch:=first|assumption|omega|(simp only[LN]<;>omega))only[Aab,Aad];assumption))only[f9,P4,seval,os,op,og,or]
   refine Aae tN ?_
   rintro _ K ⟨k,iv,rfl,_,_⟩
   simp(disch:=first|assumption|omega)only[P4,seval,ne]
   exact hq2 _ _ ⟨.tuple #[.pointer none,.int .i64 (Aan L)],rfl,kA.trans k,fun e=>absurd (by simp) e,fun _=>⟨fun _=>rfl,fun e=>absurd e he⟩⟩
 case pos=>
 have ne:(Aan L != 0)=false:=by simp[he]
 have hL:=Aa1 (Aar he)
 have hLs:=hL.s
 have hLp:=hL.p
 have hLr:=hL.r
 have tG:∀K,∃w V,Aaq Tryz.prog 0 29 [.int .i64 wh] K w V/\w=ptr K.n 0/\Aac K V/\AgR V K.n (sd0 wh):=fun K=>t29 hw
 have m1:=fun K=>A9x K (e:=9) (esz:=1) (b:=16) (n:=L.s.length) (z:=[.string ByteArray.empty]) rfl rfl (by omega) (by omega)
 have m2:=fun K=>A9x K (e:=89) (esz:=2) (b:=24) (n:=L.p.length) (z:=[.string ByteArray.empty,.int .i64 0]) rfl rfl (by omega) (by omega)
 have m3:=fun K=>A9x K (e:=87) (esz:=6) (b:=120) (n:=L.r.length) (z:=[.string ByteArray.empty,.int .i64 0,.slice none 0 0,.slice none 0 0,.slice none 0 0,.slice none 0 0]) rfl rfl (by omega) (by omega)
 have fl:∀a b c d e f g h i,Aau [.slice none 0 0,.slice none 0 0,.slice none 0 0,.slice none 0 0] [(0,1,slc a 0 b c),(1,1,slc d 0 e f),(3,1,slc g 0 h i)]=some [slc a 0 b c,slc d 0 e f,.slice none 0 0,slc g 0 h i]:=fun _ _ _ _ _ _ _ _ _=>rfl
 refine Aco 2 (fun fr Z=>∃x8 x9,fr=[.int .i64 wh,.agg #[u.s,u.p,u.g,u.r],ptr H.n 0,.pointer none,.int .i64 0,undef,undef,undef,x8,x9]/\Z=H.alloc (.cells true false 4 [u.s,u.p,u.g,u.r] 27)) (by kernel_rfl) ?_ ?_
 ·intro Q' hn _ _
  rcases hw with rfl|rfl
  all_goals
   simp(disch:=first|assumption|omega)only[f9,Aeu,P4,seval,os,op,og,or]
   exact hn _ _ ⟨_,_,rfl,rfl⟩
 rintro fr Z ⟨x8,x9,rfl,rfl⟩
 simp(disch:=first|assumption|omega|(simp only[LN]<;>omega)|(simp(disch:=first|assumption|omega|(simp only[LN]<;>omega))only[Aab,Aad];assumption))only[f9,Ab1,P4,seval]
 refine Aae tN ?_
 rintro _ K ⟨k,iv,rfl,hiv,hm⟩
 have gK:=k.at_ gA
 have oiv:iv.oneCell'=true:=by obtain⟨_,_,rfl⟩:=hiv;rfl
 have lK:=Aaa.Bfg gK
 simp(disch:=first|assumption|omega|(simp only[LN]<;>omega)|(simp(disch:=first|assumption|omega|(simp only[LN]<;>omega))only[Aab,Aad];assumption))only[P4,seval,ne,gK,ls,lp,lr,is,ip,ir,m1,m2,m3,fl,oiv]
 obtain⟨K4,hK4⟩:∃X,X=(((K.alloc (.cells true false 1 (List.replicate L.s.length [.string ByteArray.empty]).flatten 9)).alloc (.cells true false 2 (List.replicate L.p.length [.string ByteArray.empty,.int .i64 0]).flatten 89)).alloc (.cells true false 6 (List.replicate L.r.length [.string ByteArray.empty,.int .i64 0,.slice none 0 0,.slice none 0 0,.slice none 0 0,.slice none 0 0]).flatten 87)).alloc (.cells true false 4 [slc K.n 0 L.s.length L.s.length,slc (K.n+1) 0 L.p.length L.p.length,.slice none 0 0,slc (K.n+1+1) 0 L.r.length L.r.length] 27):=⟨_,rfl⟩
 have k4:Aac K K4:=by rw[hK4];exact((((Aac.refl K).alloc _).alloc _).alloc _).alloc _
 have n4:K4.n=K.n+4:=by rw[hK4];rfl
 rw[<-hK4]
 refine Aae (tG _) ?_
 rintro _ V ⟨rfl,kV,ag⟩
 have fc:=A43 wh (slc K.n 0 L.s.length L.s.length) (slc (K.n+1) 0 L.p.length L.p.length) (slc (K.n+1+1) 0 L.r.length L.r.length) iv K4.n hiv rfl rfl rfl
 have on:=Asc (c:=⟨wh,slc K.n 0 L.s.length L.s.length,slc (K.n+1) 0 L.p.length L.p.length,slc (K.n+1+1) 0 L.r.length L.r.length,iv,0,0,K4.n,false,.pointer none⟩) Abi hiv rfl rfl rfl rfl
 have ln:=Adl ⟨wh,slc K.n 0 L.s.length L.s.length,slc (K.n+1) 0 L.p.length L.p.length,slc (K.n+1+1) 0 L.r.length L.r.length,iv,0,0,K4.n,false,.pointer none⟩ Abi
 simp(disch:=first|assumption|omega)only[P4,seval,fc,on,ln]
 have nV:=kV.n
 have kN:=(k4.trans kV).alloc (.cells true false 79 (chl ⟨wh,slc K.n 0 L.s.length L.s.length,slc (K.n+1) 0 L.p.length L.p.length,slc (K.n+1+1) 0 L.r.length L.r.length,iv,0,0,K4.n,false,.pointer none⟩ Abi) 99)
 refine⟨by simp;exact kV.get _ (by omega),hq2 _ _ ⟨.tuple #[ptr V.n 0,.int .i64 0],rfl,(kA.trans k).trans kN,fun e=>absurd hw e,fun _=>⟨fun e=>absurd he e,fun _=>⟨V.n,K4.n,_,rfl,⟨rfl,rfl,rfl,rfl,rfl,rfl⟩,Aaa.Bfd V _,⟨⟨rfl,rfl⟩,⟨rfl,rfl⟩,rfl,⟨rfl,rfl⟩⟩,ag.keeps ((Aac.refl V).alloc _),by omega,by omega,?_⟩⟩⟩⟩
 intro S K' c hS
 refine hm he S K' ((kN.chg S).trans c (fun x h=>.inl h)) fun b hb=>⟨?_,fun o r z C T g=>(hS b hb).2 o r z C T (kN.at_ g)⟩
 have:=(hS b hb).1
 simp only[Acd]at this ⊢
 omega
theorem A6q{L:Ly}(he:Aan L=0)(s:Sta):A74 L s=Ajm L s:=by
 have hL:=Aa1 (Aar he)
 have lr:=hL.r
 have lp:=hL.p
 unfold A74 Ajm
 congr 1
 rw[Bool.eq_iff_iff]
 simp only[Bool.and_eq_true,Aax,Abj,List.all_eq_true,List.mem_range,Bool.not_eq_true',Bool.and_eq_false_iff,iOK,kOK,nOK,Bool.or_eq_true,Bool.not_eq_false']
 constructor
 ·rintro⟨⟨h1,h2⟩,h3⟩ i hi
  refine⟨?_,?_⟩
  ·cases hlo:s.lo i with
   |false=>exact .inl rfl
   |true=>
    right
    intro k hk
    by_cases hik:i=k
    ·left;left;simp[hik]
    ·by_cases hlk:s.lo k=true
     ·right
      rcases h1 k (by omega)with h|h
      ·have:(s.lo i&&Ahr L i k)=false:=by
        have:=h
        unfold Ahg at this
        rw[List.any_eq_false]at this
        simpa using this i (List.mem_range.2 hi)
       rw[hlo]at this
       have hki:¬k=i:=fun e=>hik e.symm
       simp[Ahr,hk,hki]at this
       exact this
      ·rw[hlk]at h;cases h
     ·left;right;simpa using hlk
  ·intro x hx
   cases hlo:s.lo i with
   |false=>exact .inl rfl
   |true=>
    right
    have hg:=(Aay he (List.getElem_mem hi)).nd x (by rw[<-Acn hi];exact hx)
    obtain⟨xp,xb⟩:=x
    obtain⟨m,rfl⟩:∃m:Nat,xp=(m:Int):=⟨xp.toNat,by have:=hg.1;simp only at this;omega⟩
    have hm:m<32:=by have:=hg.2;simp only at this;omega
    show(s.po m != xb)=false
    cases xb with
    |false=>
     rcases h2 m hm with h|h
     ·have:(s.lo i&&nor L i m)=false:=by
       unfold Ahg at h
       rw[List.any_eq_false]at h
       simpa using h i (List.mem_range.2 hi)
      rw[hlo]at this
      have hc:nor L i m=true:=List.contains_iff_mem.2 hx
      rw[hc]at this;cases this
     ·rw[h];rfl
    |true=>
     rcases h3 m hm with h|h
     ·have:(s.lo i&&rev L i m)=false:=by
       unfold Ahg at h
       rw[List.any_eq_false]at h
       simpa using h i (List.mem_range.2 hi)
      rw[hlo]at this
      have hc:rev L i m=true:=List.contains_iff_mem.2 hx
      rw[hc]at this;cases this
     ·rw[h];rfl
 ·intro h
  refine⟨⟨?_,?_⟩,?_⟩
  ·intro k hk
   by_cases hlk:s.lo k=true
   ·left
    unfold Ahg
    rw[List.any_eq_false]
    intro i hi
    have hi':=List.mem_range.1 hi
    cases hlo:s.lo i with
    |false=>simp
    |true=>
     rcases(h i hi').1 with h1|h1
     ·rw[hlo]at h1;cases h1
     ·by_cases hkn:k<L.r.length
      ·rcases h1 k hkn with(h2|h2)|h2
       ·have e:i=k:=by simpa using h2
        subst e
        simp[Ahr]
       ·rw[hlk]at h2;cases h2
       ·simp[Ahr,h2]
      ·simp[Ahr,hkn]
   ·right;simpa using hlk
  ·intro p hp
   by_cases hpo:s.po p=true
   ·left
    unfold Ahg
    rw[List.any_eq_false]
    intro i hi
    have hi':=List.mem_range.1 hi
    cases hlo:s.lo i with
    |false=>simp
    |true=>
     simp only[Bool.true_and]
     intro hc
     have hx:=List.contains_iff_mem.1 (show(nds (ro L i)).contains ((p:Int),false)=true from hc)
     rcases(h i hi').2 _ hx with h2|h2
     ·rw[hlo]at h2;cases h2
     ·have h2':(s.po p != false)=false:=h2
      rw[hpo]at h2';cases h2'
   ·right;simpa using hpo
  ·intro p hp
   by_cases hpo:s.po p=false
   ·left
    unfold Ahg
    rw[List.any_eq_false]
    intro i hi
    have hi':=List.mem_range.1 hi
    cases hlo:s.lo i with
    |false=>simp
    |true=>
     simp only[Bool.true_and]
     intro hc
     have hx:=List.contains_iff_mem.1 (show(nds (ro L i)).contains ((p:Int),true)=true from hc)
     rcases(h i hi').2 _ hx with h2|h2
     ·rw[hlo]at h2;cases h2
     ·have h2':(s.po p != true)=false:=h2
      rw[hpo]at h2';cases h2'
   ·right;simpa using hpo
theorem Ai3{H:Aaa}{u:V4}{xs:List RV}{L:Ly}(h:LyR H u xs L):u.l.all Value.oneCell'=true:=by
 have os:=Sl.one h.s
 have op:=Sl.one h.p
 have og:=Sl.one h.g
 have or:=Sl.one h.r
 simp only[V4.l,List.all_cons,List.all_nil,os,op,og,or];rfl
theorem A0v{H:Aaa}{iv:Value}{L:Ly}(h:MaM H iv L)(he:Aan L=0):∃t v g,iv=.iface t v/\Ale Tryz.prog t "Right" =some g/\∀K,Aac H K->∀s:Sta,∃w K',Aaq Tryz.prog 0 g [v,.agg (stl s).toArray] K w K'/\w=.bool (Ajm L s)/\K'=K:=by
 have hL:=(Aa1 (Aar he)).r
 rcases h with⟨b,rfl,m⟩|⟨b,rfl,m⟩
 ·exact⟨_,_,16,rfl,by kernel_rfl,fun K k s=>t16 (m.keeps k) he s⟩
 ·refine⟨_,_,170,rfl,by kernel_rfl,fun K k s=>?_⟩
  have:=t170 (m.keeps k) hL s
  rw[A6q he]at this
  exact this
def otl(L:Ly)(x:Inp)(s:Sta):List Value:=[S64 fun i=>decide (i<L.r.length)&&Ad3 L x s i,S32 s.po]
theorem A44{H:Aaa}{iv:Value}{L:Ly}(h:MaM H iv L)(he:Aan L=0):∃t v g,iv=.iface t v/\Ale Tryz.prog t "Step" =some g/\∀K,Aac H K->∀(s:Sta) (x:Inp) (z:Value) (cs:List (Int×Int)),SlC K 2 z (cs.map Aer)->cs.length<=1000000->(∀c∈cs,0<=c.1/\c.1<256)→
 ∃w K',Aaq Tryz.prog 0 g [v,.agg (stl s).toArray,.agg (inl x z).toArray] K w K'/\w=.tuple #[.agg (stl (Acj L s x cs)).toArray,.agg (otl L x (Acj L s x cs)).toArray]/\K'=K:=by
 rcases h with⟨b,rfl,m⟩|⟨b,rfl,m⟩
 ·exact⟨_,_,156,rfl,by kernel_rfl,fun K k s x z cs h1 h2 h3=>t156 (m.keeps k) he h1 h2 h3⟩
 ·refine⟨_,_,171,rfl,by kernel_rfl,fun K k s x z cs h1 h2 h3=>?_⟩
  have:=t171 (s:=s) (x:=x) (m.keeps k) (Aa1 (Aar he)) h1.s h2
  rw[A10 he s x cs]at this
  have e:(fun i=>prB L x (Acj L s x cs) i)=fun i=>decide (i<L.r.length)&&Ad3 L x (Acj L s x cs) i:=funext fun i=>Ba2 he _ i
  rw[show prB L x (Acj L s x cs)=_ from e]at this
  exact this
theorem Axd{H:Aaa}{b b':Nat}(h:b≠b')(h1:b<H.n)(h2:b'<H.n)(o o':AO):(H.set b o).set b' o'=(H.set b' o').set b o:=by
 simp only[Aaa.set]
 rw[List.set_comm _ _ (by omega)]
def Amc(n:Int):Bool:=decide (0<=n)&&decide (n<=1099511627776)
def Axe(L:Ly)(s:Sta)(ep cy:Int):Bool:=Ajm L s&&(Amc ep&&Amc cy)
def Aod(L:Ly)(C:Ch)(wh:Int)(s:Sta)(ep cy:Int):Ch:=if Axe L s ep cy then⟨s,ep,cy,sd0 wh,false,none⟩else C
def Amd(L:Ly)(s:Sta)(ep cy:Int):Int:=if Axe L s ep cy then 0 else 2
theorem Apk{B:List Value}{m:Nat}(hB:B.length=m)(i:Nat)(E:List Value)(x:Value)(hx:x.cells.toList=[x])(hi:i<E.length)(r:List (Nat×Nat×Value)):Aau (B++E) ((m+i,1,x)::r)=Aau (B++E.set i x) r:=by
 have hl:m+i<(B++E).length:=by rw[List.length_append,hB];omega
 rw[Adz,hx,if_pos ⟨rfl,hl⟩]
 congr 1
 have h1:=List.set_eq_take_append_cons_drop (l:=B++E) (i:=m+i) (a:=x)
 rw[if_pos hl,List.set_append_right _ _ (by omega),hB]at h1
 rw[show m+i-m=i by omega]at h1
 rw[h1,List.append_assoc];rfl
theorem A9y{B:List Value}(hB:B.length=74)(e0 e1 e2 e3 e4:Value)(a b:Int)(sb:Nat):Aau (B++[e0,e1,e2,e3,e4]) [(74,1,.int .i64 a),(75,1,.int .i64 b),(76,1,ptr sb 0)]=some (B++[.int .i64 a,.int .i64 b,ptr sb 0,e3,e4]):=by
 refine(Apk hB 0 _ _ rfl (by simp) _).trans ?_
 refine(Apk hB 1 _ _ rfl (by simp) _).trans ?_
 exact Apk hB 2 _ _ rfl (by simp) _
theorem A45(wh ep cy:Int)(a b c iv:Value)(s:Sta)(sb:Nat)(hi:∃t x,iv=.iface t x)(ha:isS a=true)(hb:isS b=true)(hc:isS c=true):Aau A70 [(0,1,.int .i64 wh),(1,4,.agg #[a,b,.slice none 0 0,c]),(5,1,iv),(6,68,.agg (stl s).toArray),(74,1,.int .i64 ep),(75,1,.int .i64 cy),(76,1,ptr sb 0)]=some (chl ⟨wh,a,b,c,iv,ep,cy,sb,false,.pointer none⟩ s):=by
 have e:Aau A70 [(0,1,.int .i64 wh),(1,4,.agg #[a,b,.slice none 0 0,c]),(5,1,iv),(6,68,.agg (stl s).toArray),(74,1,.int .i64 ep),(75,1,.int .i64 cy),(76,1,ptr sb 0)]=Aau (([.int .i64 wh,a,b,.slice none 0 0,c,iv]++stl s)++[.int .i64 0,.int .i64 0,.pointer none,.bool false,.pointer none]) [(74,1,.int .i64 ep),(75,1,.int .i64 cy),(76,1,ptr sb 0)]:=by
  obtain⟨t,x,rfl⟩:=hi
  obtain⟨_,_,_,rfl⟩:=Aeb ha
  obtain⟨_,_,_,rfl⟩:=Aeb hb
  obtain⟨_,_,_,rfl⟩:=Aeb hc
  rfl
 rw[e,A9y (by simp[Aaf])]
 unfold chl
 rw[List.append_assoc]
theorem t11{W:Wd}{H:Aaa}{c sb:Nat}{wh:Int}{L:Ly}{C:Ch}(h:ChR W H c sb wh L C)(hw:wh=0\/wh=1)(he:Aan L=0)(s:Sta)(ep cy:Int):
 ∃w K,Aaq Tryz.prog 0 11 [ptr c 0,.agg (stl s).toArray,.int .i64 ep,.int .i64 cy] H w K/\w=.int .i64 (Amd L s ep cy)/\Chg [c,sb] H K/\∃sb',(sb'=sb\/H.n<=sb')/\ChR W K c sb' wh L (Aod L C wh s ep cy):=by
 refine Aam f11 ?_
 intro Q hq1 hq2
 obtain⟨v,hv⟩:=h
 obtain⟨t,mv,g,eiv,hme,hrun⟩:=A0v hv.ms he
 have gc:=hv.g
 have lc:=Aaa.Bfg gc
 have ks:=(Aac.refl H).alloc (.cells true false 68 (stl s) 43)
 have gs:=Aaa.Bfd H (.cells true false 68 (stl s) 43)
 have m5:=A4r v C.s
 rw[eiv]at m5
 have bad:Axe L s ep cy=false->∀{fr:List Value} {K:Aaa},Aac H K->fr.getD 5 undef=.int .i64 2->Q .ret fr K:=fun e fr K k hf=>by
  have e1:Amd L s ep cy=2:=by unfold Amd;rw[e];rfl
  have e2:Aod L C wh s ep cy=C:=by unfold Aod;rw[e];rfl
  exact hq2 _ _ ⟨.int .i64 2,by show some (Ae8 [fr.getD 5 undef])=_;rw[hf];rfl,by rw[e1],k.chg _,sb,.inl rfl,by rw[e2];exact⟨v,hv.keeps k⟩⟩
 have len:=Adl v C.s
 simp(disch:=first|assumption|omega)only[f11,P4,seval,Aas,Aaf,gc,m5,Aa6,Aw9 (h:=hme)]
 refine Aat (hrun _ ks s) ?_
 have hb:Axe L s ep cy=(Ajm L s&&(Amc ep&&Amc cy)):=rfl
 cases h1:Ajm L s with
 |false=>
  simp(disch:=first|assumption|omega)only[P4,seval]
  exact bad (by rw[hb,h1];rfl) ks rfl
 |true=>
 simp(disch:=first|assumption|omega)only[P4,seval]
 refine Aat (t34 _) ?_
 cases h2:Amc ep with
 |false=>
  have h2':=h2
  unfold Amc at h2'
  rw[h2']
  simp(disch:=first|assumption|omega)only[P4,seval]
  exact bad (by rw[hb,h1,h2];rfl) ks rfl
 |true=>
 have h2':=h2
 unfold Amc at h2'
 rw[h2']
 simp(disch:=first|assumption|omega)only[P4,seval]
 refine Aat (t34 _) ?_
 cases h3:Amc cy with
 |false=>
  have h3':=h3
  unfold Amc at h3'
  rw[h3']
  simp(disch:=first|assumption|omega)only[P4,seval]
  exact bad (by rw[hb,h1,h2,h3];rfl) ks rfl
 |true=>
 have h3':=h3
 unfold Amc at h3'
 rw[h3']
 have m0:=A9s v C.s
 have ml:=A0t v C.s
 have gcs:=ks.at_ gc
 have tG:=fun K=>t29 (H:=K) hw
 obtain⟨e1,e2,e3,e4,e5⟩:=hv.e
 rw[e1]at m0
 simp(disch:=first|assumption|omega)only[P4,seval,Aas,Aaf,gc,m0,m5,ml,len,Aa6]
 refine Aae (tG _) ?_
 rintro _ V ⟨rfl,kV,ag⟩
 have fr:=A45 wh ep cy v.ls v.lp v.lr (.iface t mv) s (H.n+1) ⟨_,_,rfl⟩ hv.l.s.1 hv.l.p.1 hv.l.r.1
 have gV:=(ks.trans kV).at_ gc
 have lV:=Aaa.Bfg gV
 have gsV:=kV.at_ gs
 obtain⟨v',hv'⟩:∃v':Chv,v'=⟨wh,v.ls,v.lp,v.lr,.iface t mv,ep,cy,H.n+1,false,.pointer none⟩:=⟨_,rfl⟩
 rw[<-hv']at fr
 have on:(chl v' s).all Value.oneCell'=true:=by rw[hv'];exact Asc s ⟨_,_,rfl⟩ hv.l.s.1 hv.l.p.1 hv.l.r.1 rfl
 have ln:=Adl v' s
 have e1':Amd L s ep cy=0:=by unfold Amd;rw[hb,h1,h2,h3];rfl
 have e2':Aod L C wh s ep cy=⟨s,ep,cy,sd0 wh,false,none⟩:=by unfold Aod;rw[hb,h1,h2,h3];rfl
 simp(disch:=first|assumption|omega)only[P4,seval,fr,gV,gc,gsV,on,ln]
 have cS:=((ks.trans kV).chg [c,sb]).trans ((Chg.set V lV (.cells true false 79 (chl v' s) 99)).mono (T:=[c,sb]) (by simp)) (by simp)
 have nS:V.n=(V.set c (.cells true false 79 (chl v' s) 99)).n:=(Ab6 ..).symm
 have agS:AgR (V.set c (.cells true false 79 (chl v' s) 99)) (H.n+1) (sd0 wh):=ag.oth (Chg.set V lV _) (by simp only[Acd,List.mem_cons,List.not_mem_nil,or_false];omega) fun b hb o r z C T e=>by
  simp only[List.mem_cons,List.not_mem_nil,or_false]at hb
  subst hb;rw[gV]at e;cases e;decide
 have lB:=hv.w.n
 refine⟨by simp,hq2 _ _ ⟨.int .i64 0,rfl,by rw[e1'],cS,H.n+1,.inr (Nat.le_succ _),by
  rw[e2']
  exact⟨v',⟨by rw[hv'];exact⟨rfl,rfl,rfl,rfl,rfl⟩,Aaa.Bfe gV _,by rw[hv'];exact hv.l,by rw[hv'];rfl,by rw[hv'];exact eiv ▸ hv.m,agS,Aob wh,rfl,hv.up cS,hv.wc,.inr (Nat.le_succ_of_le lB)⟩⟩⟩⟩
def bgB(L:Ly)(C:Ch)(cy:Int)(x:Inp)(cs:List (Int×Int)):Bool:= !decide (1099511627776<cy)&&(!decide (cy<=C.fl)&&inR L.s.length L.p.length L.r.length x cs)
def bgS(L:Ly)(C:Ch)(cy:Int)(x:Inp)(cs:List (Int×Int)):Ch:=if bgB L C cy x cs then(if cy<=C.sd.cy then C else{C with sd:=Ai8 C.sd cy x cs,tk:=false,nx:=none})else C
def bgR(L:Ly)(C:Ch)(cy:Int)(x:Inp)(cs:List (Int×Int)):Rd:=if bgB L C cy x cs then Ait C.sd cy x cs else R0
def bgE(L:Ly)(C:Ch)(cy:Int)(x:Inp)(cs:List (Int×Int)):Int:=if bgB L C cy x cs then Ajx C.sd cy else 2
theorem t13{W:Wd}{H:Aaa}{c sb:Nat}{wh:Int}{L:Ly}{C:Ch}{x:Inp}{z:Value}{cs:List (Int×Int)}(h:ChR W H c sb wh L C)(cy:Int)(hz:SlC H 2 z (cs.map Aer))(hcl:cs.length<=1000)(hk:∀c∈cs,0<=c.1/\c.1<256):
 ∃w K,Aaq Tryz.prog 0 13 [ptr c 0,.int .i64 cy,.agg (inl x z).toArray] H w K/\Chg [c,sb] H K/\ChR W K c sb wh L (bgS L C cy x cs)/\∃y,w=.tuple #[.agg (rdl (bgR L C cy x cs) y).toArray,.int .i64 (bgE L C cy x cs)]/\SlC K 2 y ((bgR L C cy x cs).c.map Aer):=by
 refine Aam f13 ?_
 intro Q hq1 hq2
 obtain⟨v,hv⟩:=h
 have gc:=hv.g
 have lc:=Aaa.Bfg gc
 have oz:=Sl.one hz.s
 have e1:inl x z=[S64 x.oc,S32 x.nr,S32 x.rv,z]:=rfl
 obtain⟨K0,hK0⟩:∃X,X=(H.alloc (.cells true false 4 [S64 x.oc,S32 x.nr,S32 x.rv,z] 46)).alloc (.cells true false 6 [.int .i64 0,.int .i64 0,.int .u64 0,.int .u32 0,.int .u32 0,.slice none 0 0] 49):=⟨_,rfl⟩
 have k0:Aac H K0:=by rw[hK0];exact((Aac.refl H).alloc _).alloc _
 have n0:K0.n=H.n+2:=by rw[hK0];rfl
 have g0:K0.get H.n=some (.cells true false 4 [S64 x.oc,S32 x.nr,S32 x.rv,z] 46):=by rw[hK0];exact((Aac.refl _).alloc _).at_ (Aaa.Bfd H _)
 have g1:K0.get (H.n+1)=some (.cells true false 6 [.int .i64 0,.int .i64 0,.int .u64 0,.int .u32 0,.int .u32 0,.slice none 0 0] 49):=by rw[hK0];exact Aaa.Bfd (H.alloc _) _
 have gc0:=k0.at_ gc
 have m75:=A4s v C.s
 have m76:=Ajy v C.s
 have ml:=A0t v C.s
 have len:=Adl v C.s
 obtain⟨v1,v2,v3,v4,v5⟩:=hv.e
 rw[v4]at m75
 rw[v2]at m76
 have hB:bgB L C cy x cs=(!decide (1099511627776<cy)&&(!decide (cy<=C.fl)&&inR L.s.length L.p.length L.r.length x cs)):=rfl
 have bad:bgB L C cy x cs=false->∀{fr:List Value} {K:Aaa},Aac H K->K.get (H.n+1)=some (.cells true false 6 [.int .i64 0,.int .i64 0,.int .u64 0,.int .u32 0,.int .u32 0,.slice none 0 0] 49)->fr.getD 4 undef=ptr (H.n+1) 0->fr.getD 5 undef=.int .i64 2->Q .ret fr K:=fun e fr K k0 g1 h1 h2=>by
  have r1:bgS L C cy x cs=C:=by unfold bgS;rw[e];rfl
  have r2:bgR L C cy x cs=R0:=by unfold bgR;rw[e];rfl
  have r3:bgE L C cy x cs=2:=by unfold bgE;rw[e];rfl
  simp only[r1,r2,r3,Alu]at hq2
  exact hq2 _ _ ⟨_,Adj g1 rfl h1 h2,k0.chg _,⟨v,hv.keeps k0⟩,.slice none 0 0,rfl,Sl.nil _ _,.inl rfl⟩
 rw[e1]
 have tR:=t36 (x:=x) (cv:=z) (cs:=cs) hv.l (hz.keeps k0).s (by omega)
 simp only[V4.l,e1]at tR
 by_cases c1:1099511627776<cy
 ·simp(disch:=first|assumption|omega|(simp only[LN]<;>omega)|(simp(disch:=first|assumption|omega|(simp only[LN]<;>omega))only[Aab,Aad];assumption))only[f13,P4,seval,oz,O4,c1,Agp]
  rw[<-hK0]
  exact bad (by rw[hB,decide_eq_true c1];rfl) k0 g1 rfl rfl
 by_cases c2:cy<=C.fl
 ·simp(disch:=first|assumption|omega|(simp only[LN]<;>omega)|(simp(disch:=first|assumption|omega|(simp only[LN]<;>omega))only[Aab,Aad];assumption))only[f13,P4,seval,oz,O4,c1,c2,gc,m75,Agp]
  rw[<-hK0]
  exact bad (by rw[hB,decide_eq_true c2];simp) k0 g1 rfl rfl
 rw[decide_eq_false c1,decide_eq_false c2]at hB
 simp(disch:=first|assumption|omega|(simp only[LN]<;>omega)|(simp(disch:=first|assumption|omega|(simp only[LN]<;>omega))only[Aab,Aad];assumption))only[f13,P4,seval,oz,O4,c1,c2,gc,m75,ml,len]
 rw[<-hK0]
 refine Aae tR ?_
 rintro _ X ⟨rfl,hX⟩
 rw[hX]
 cases hr:inR L.s.length L.p.length L.r.length x cs with
 |false=>
  have l1:=Aaa.Bfg g1
  simp(disch:=first|assumption|omega|(simp only[LN]<;>omega)|(simp(disch:=first|assumption|omega|(simp only[LN]<;>omega))only[Aab,Aad];assumption))only[P4,seval,g1,Agp]
  exact bad (by rw[hB,hr];rfl) (k0.set (by omega) l1 _) (Aaa.Bfe g1 _) rfl rfl
 |true=>
 rw[hr]at hB
 have hB1:bgB L C cy x cs=true:=hB
 have tB:=u37 (cy:=cy) (x:=x) hv.sd k0 (hz.keeps k0) hcl
 simp only[e1]at tB
 have gb:=fun(K:Aaa) (k:Chg [sb] K0 K)=>k.at_ gc0 (by have:=hv.ne;simpa using this)
 simp(disch:=first|assumption|omega|(simp only[LN]<;>omega)|(simp(disch:=first|assumption|omega|(simp only[LN]<;>omega))only[Aab,Aad];assumption))only[P4,seval,gc0,m76,g0,O4]
 refine Aae tB ?_
 rintro _ K ⟨cK,aK,y,rfl,hy⟩
 have gK:=gb K cK
 have l1:=Aaa.Bfg g1
 have g1K:=cK.at_ g1 (by have:=hv.sd;obtain⟨_,_,_,g,_⟩:=this;have:=Aaa.Bfg g;simp;omega)
 have l1K:=Aaa.Bfg g1K
 have lK:=Aaa.Bfg gK
 have nK:=cK.n
 have oy:=Sl.one hy.s
 have hne:=hv.ne
 have lsb:sb<H.n:=by obtain⟨_,_,_,g,_⟩:=hv.sd;exact Aaa.Bfg g
 have o1:∀x∈[H.n+1],H.n<=x/\x<K0.n/\∀o r z C T,K.get x=some (.cells o r z C T)->z≠2:=fun x hx=>by
  simp only[List.mem_cons,List.not_mem_nil,or_false]at hx
  subst hx
  exact⟨by omega,by omega,fun o r z C T e=>by rw[g1K]at e;cases e;decide⟩
 have fin:∀{Z:Aaa},Chg [H.n+1] K Z->∀o,Chg [c,sb] H (Z.alloc o):=fun{Z} c2 o=>by
  have a:=(((k0.chg [sb]).trans cK (by simp)).mono (T:=[c,sb]) (by simp)).trans c2 (by simp)
  exact a.trans (((Aac.refl Z).alloc o).chg []) (by simp)
 by_cases c3:cy<=C.sd.cy
 ·have er:Ait C.sd cy x cs=R0:=by unfold Ait;rw[if_pos c3]
  have ee:Ajx C.sd cy=2:=by unfold Ajx;rw[if_pos c3]
  have es:Ai8 C.sd cy x cs=C.sd:=by unfold Ai8;rw[if_pos c3]
  rw[er]at hy
  rw[es]at aK
  rw[er,ee,Alu]
  simp(disch:=first|assumption|omega|(simp only[LN]<;>omega)|(simp(disch:=first|assumption|omega|(simp only[LN]<;>omega))only[Aab,Aad];assumption))only[P4,seval,oy,g1K,Agm]
  have r1:bgS L C cy x cs=C:=by unfold bgS;rw[hB1,if_pos rfl,if_pos c3]
  have r2:bgR L C cy x cs=R0:=by unfold bgR;rw[hB1,if_pos rfl,er]
  have r3:bgE L C cy x cs=2:=by unfold bgE;rw[hB1,if_pos rfl,ee]
  simp only[r1,r2,r3,Alu]at hq2
  have c2:=Chg.set K l1K (.cells true false 6 [.int .i64 0,.int .i64 0,.int .u64 0,.int .u32 0,.int .u32 0,y] 49)
  have aZ:=aK _ _ c2 (by simp;omega) o1
  have kZ:=(Aac.refl (K.set (H.n+1) (.cells true false 6 [.int .i64 0,.int .i64 0,.int .u64 0,.int .u32 0,.int .u32 0,y] 49))).alloc (.cells true false 6 [.int .i64 0,.int .i64 0,.int .u64 0,.int .u32 0,.int .u32 0,y] 49)
  have cF:=fin c2
  have gZ:=kZ.at_ ((Aaa.Bff K (by omega) l1K (.cells true false 6 [.int .i64 0,.int .i64 0,.int .u64 0,.int .u32 0,.int .u32 0,y] 49)).trans gK)
  exact hq2 _ _ ⟨_,Adj (p:=H.n+1) (kZ.at_ (Aaa.Bfe g1K _)) rfl rfl rfl,cF _,⟨v,hv.e,gZ,hv.l,hv.n.oth (cF _) (fun b hb o r z C T e=>(hv.o68 b hb o r z C T e).1),hv.m,aZ.keeps kZ,hv.ok,hv.ch,hv.up (cF _),hv.wc,hv.ws⟩,y,rfl,(SlC.oth hy c2 (fun b hb o r z C T e=>(o1 b hb).2.2 o r z C T e)).keeps kZ⟩
 ·have er:Ait C.sd cy x cs=⟨C.sd.ch,cy,x,cs⟩:=by unfold Ait;rw[if_neg c3]
  have ee:Ajx C.sd cy=0:=by unfold Ajx;rw[if_neg c3]
  have erd:∀z,rdl ⟨C.sd.ch,cy,x,cs⟩ z=[.int .i64 C.sd.ch,.int .i64 cy,S64 x.oc,S32 x.nr,S32 x.rv,z]:=fun _=>rfl
  have s78:=Am0 v C.s (.pointer none)
  have s77:=Asb {v with nx:=.pointer none} C.s false
  have len2:=Adl {v with nx:=.pointer none} C.s
  rw[er]at hy
  rw[er,ee,erd]
  simp(disch:=first|assumption|omega|(simp only[LN]<;>omega)|(simp(disch:=first|assumption|omega|(simp only[LN]<;>omega))only[Aab,Aad];assumption))only[P4,seval,oy,g1K,gK,O4,s78,s77,len,len2]
  have r1:bgS L C cy x cs={C with sd:=Ai8 C.sd cy x cs,tk:=false,nx:=none}:=by unfold bgS;rw[hB1,if_pos rfl,if_neg c3]
  have r2:bgR L C cy x cs=⟨C.sd.ch,cy,x,cs⟩:=by unfold bgR;rw[hB1,if_pos rfl,er]
  have r3:bgE L C cy x cs=0:=by unfold bgE;rw[hB1,if_pos rfl,ee]
  simp only[r1,r2,r3,erd]at hq2
  rw[Axd (by omega) lK l1K]
  obtain⟨R2,hR2⟩:∃o:AO,o=.cells true false 6 [.int .i64 C.sd.ch,.int .i64 cy,S64 x.oc,S32 x.nr,S32 x.rv,y] 49:=⟨_,rfl⟩
  rw[<-hR2]
  have c2:=Chg.set K l1K R2
  have g1Z:=Aaa.Bfe g1K R2
  have gcZ:=(Aaa.Bff K (show c≠H.n+1 by omega) l1K R2).trans gK
  have lZ:=Aaa.Bfg gcZ
  have aZ:=aK _ _ c2 (by simp;omega) o1
  obtain⟨A2,hA2⟩:∃o:AO,o=.cells true false 79 (chl {v with nx:=.pointer none,tk:=false} C.s) 99:=⟨_,rfl⟩
  rw[show AO.cells true false 79 (chl _ C.s) 99=A2 from hA2.symm]
  have c4:=Chg.set (K.set (H.n+1) R2) lZ A2
  have aF:=aZ.oth c4 (by simp;omega) fun b hb o r z C T e=>by
   simp only[List.mem_cons,List.not_mem_nil,or_false]at hb
   subst hb;rw[gcZ]at e;cases e;decide
  have kF:=(Aac.refl ((K.set (H.n+1) R2).set c A2)).alloc R2
  have hy4:SlC ((K.set (H.n+1) R2).set c A2) 2 y (cs.map Aer):=(SlC.oth hy c2 (fun b hb o r z C T e=>(o1 b hb).2.2 o r z C T e)).oth c4 fun b hb o r z C T e=>by
   simp only[List.mem_cons,List.not_mem_nil,or_false]at hb
   subst hb;rw[gcZ]at e;cases e;decide
  have cF:Chg [c,sb] H (((K.set (H.n+1) R2).set c A2).alloc R2):=(((((k0.chg [sb]).trans cK (by simp)).mono (T:=[c,sb]) (by simp)).trans c2 (by simp)).trans (c4.mono (T:=[c,sb]) (by simp)) (by simp)).trans (kF.chg []) (by simp)
  refine hq2 _ _ ⟨_,Adj (p:=H.n+1) (kF.at_ ((Aaa.Bff _ (by omega) lZ A2).trans (g1Z.trans (by rw[hR2])))) rfl rfl rfl,cF,⟨{v with nx:=.pointer none,tk:=false},⟨v1,v2,v3,v4,rfl⟩,kF.at_ ((Aaa.Bfe gcZ A2).trans (by rw[hA2])),hv.l,rfl,hv.m,aF.keeps kF,Ar8 hv.ok hcl hk,?_,hv.up cF,hv.wc,hv.ws⟩,y,rfl,hy4.keeps kF⟩
  show(Ai8 C.sd cy x cs).ch=wh
  unfold Ai8
  rw[if_neg c3]
  exact hv.ch
theorem Adq:Bei=stl Abi:=Ac9
def hhS(L:Ly)(C:Ch)(r:Rd):Ch:=if inR L.s.length L.p.length L.r.length r.x r.c then{C with sd:=Aec C.sd r}else C
def hhE(L:Ly)(C:Ch)(r:Rd):Int:=if inR L.s.length L.p.length L.r.length r.x r.c then Aeq C.sd r else 2
theorem A0w(s:Sd)(r:Rd):(Aec s r).ch=s.ch:=by
 unfold Aec
 repeat' split
 all_goals rfl
theorem t14{W:Wd}{H:Aaa}{c sb:Nat}{wh:Int}{L:Ly}{C:Ch}{r:Rd}{z:Value}(h:ChR W H c sb wh L C)(hr:ROk r)(hz:SlC H 2 z (r.c.map Aer)):
 ∃w K,Aaq Tryz.prog 0 14 [ptr c 0,.iface 49 (.agg (rdl r z).toArray)] H w K/\w=.int .i64 (hhE L C r)/\Chg [c,sb] H K/\ChR W K c sb wh L (hhS L C r):=by
 refine Aam f14 ?_
 intro Q hq1 hq2
 obtain⟨v,hv⟩:=h
 have gc:=hv.g
 have lc:=Aaa.Bfg gc
 have oz:=Sl.one hz.s
 have er:rdl r z=[.int .i64 r.ch,.int .i64 r.cy,S64 r.x.oc,S32 r.x.nr,S32 r.x.rv,z]:=rfl
 have m76:=Ajy v C.s
 have ml:=A0t v C.s
 have len:=Adl v C.s
 obtain⟨v1,v2,v3,v4,v5⟩:=hv.e
 rw[v2]at m76
 obtain⟨K0,hK0⟩:∃X,X=H.alloc (.cells true false 6 (rdl r z) 49):=⟨_,rfl⟩
 have k0:Aac H K0:=by rw[hK0];exact(Aac.refl H).alloc _
 have g0:K0.get H.n=some (.cells true false 6 (rdl r z) 49):=by rw[hK0];exact Aaa.Bfd H _
 have gc0:=k0.at_ gc
 have tR:=t36 (x:=r.x) (cv:=z) (cs:=r.c) hv.l (hz.keeps k0).s (by have:=hr.1;omega)
 have tH:=t38 (hv.sd.keeps k0) hv.ok hr (hz.keeps k0)
 have ei:inl r.x z=[S64 r.x.oc,S32 r.x.nr,S32 r.x.rv,z]:=rfl
 simp only[V4.l,ei]at tR
 rw[er]at hK0 tH g0 ⊢
 simp(disch:=first|assumption|omega|(simp only[LN]<;>omega)|(simp(disch:=first|assumption|omega|(simp only[LN]<;>omega))only[Aab,Aad];assumption))only[f14,P4,seval,oz,O4,gc,ml,len]
 rw[<-hK0]
 refine Aae tR ?_
 rintro _ X ⟨rfl,hX⟩
 rw[hX]
 cases hB:inR L.s.length L.p.length L.r.length r.x r.c with
 |false=>
  have r1:hhS L C r=C:=by unfold hhS;rw[hB];rfl
  have r2:hhE L C r=2:=by unfold hhE;rw[hB];rfl
  simp(disch:=first|assumption|omega)only[P4,seval]
  exact hq2 _ _ ⟨.int .i64 2,rfl,by rw[r2],k0.chg _,by rw[r1];exact⟨v,hv.keeps k0⟩⟩
 |true=>
  have r1:hhS L C r={C with sd:=Aec C.sd r}:=by unfold hhS;rw[hB];rfl
  have r2:hhE L C r=Aeq C.sd r:=by unfold hhE;rw[hB];rfl
  simp(disch:=first|assumption|omega)only[P4,seval,gc0,m76]
  refine Aae tH ?_
  rintro _ K ⟨rfl,cK,aK⟩
  simp(disch:=first|assumption|omega)only[P4,seval]
  have cF:=((k0.chg [sb]).trans cK (by simp)).mono (T:=[c,sb]) (by simp)
  have hne:=hv.ne
  exact hq2 _ _ ⟨.int .i64 (Aeq C.sd r),rfl,by rw[r2],cF,by
   rw[r1]
   exact⟨v,⟨v1,v2,v3,v4,v5⟩,cK.at_ gc0 (by simpa using hne),hv.l,hv.n.oth cF (fun b hb o r z C T e=>(hv.o68 b hb o r z C T e).1),hv.m,aK,Ar9 hv.ok hr,(A0w _ _).trans hv.ch,hv.up cF,hv.wc,hv.ws⟩⟩
theorem u14{W:Wd}{H:Aaa}{c sb:Nat}{wh:Int}{L:Ly}{C:Ch}{x:Value}(h:ChR W H c sb wh L C)(hx:x=.nilIface\/∃y,x=.iface 9 (.string y)):
 ∃w K,Aaq Tryz.prog 0 14 [ptr c 0,x] H w K/\w=.int .i64 2/\Aac H K:=by
 refine Aam f14 ?_
 intro Q hq1 hq2
 obtain⟨v,hv⟩:=h
 have gc:=hv.g
 have lc:=Aaa.Bfg gc
 have m76:=Ajy v C.s
 obtain⟨v1,v2,v3,v4,v5⟩:=hv.e
 rw[v2]at m76
 have k0:=(Aac.refl H).alloc (.cells true false 6 [.int .i64 0,.int .i64 0,.int .u64 0,.int .u32 0,.int .u32 0,.slice none 0 0] 49)
 have gc0:=k0.at_ gc
 have tH:=u38 (hv.sd.keeps k0) hx
 have an:∀z K,Aak (.assert 49 z true .nilIface) K=some (.tuple #[z,.bool false],K):=fun _ _=>rfl
 rcases hx with rfl|⟨y,rfl⟩
 all_goals
  simp(disch:=first|assumption|omega|(simp only[LN]<;>omega)|(simp(disch:=first|assumption|omega|(simp only[LN]<;>omega))only[Aab,Aad];assumption))only[f14,P4,seval,an,gc0,m76]
  refine Aae tH ?_
  rintro _ K ⟨rfl,kK⟩
  simp(disch:=first|assumption|omega)only[P4,seval]
  exact hq2 _ _ ⟨.int .i64 2,rfl,rfl,k0.trans kK⟩
def tkE(C:Ch):Int:=if C.nx.isSome then 0 else 4
def tkS(C:Ch):Ch:=match C.nx with
 |none=>C
 |some t=>{C with s:=t,nx:=none,tk:=true}
theorem t17{W:Wd}{H:Aaa}{c sb:Nat}{wh:Int}{L:Ly}{C:Ch}(h:ChR W H c sb wh L C):
 ∃w K,Aaq Tryz.prog 0 17 [ptr c 0] H w K/\w=.int .i64 (tkE C)/\Chg [c,sb] H K/\ChR W K c sb wh L (tkS C):=by
 refine Aam f17 ?_
 intro Q hq1 hq2
 obtain⟨v,hv⟩:=h
 have gc:=hv.g
 have lc:=Aaa.Bfg gc
 have m78:=A4u v C.s
 have hn:=hv.n
 cases hx:C.nx with
 |none=>
  rw[hx]at hn
  rw[show v.nx=_ from hn]at m78
  have r1:tkS C=C:=by unfold tkS;rw[hx]
  have r2:tkE C=4:=by unfold tkE;rw[hx];rfl
  simp(disch:=first|assumption|omega)only[f17,P4,seval,gc,m78]
  exact hq2 _ _ ⟨.int .i64 4,rfl,by rw[r2],Chg.refl _ _,by rw[r1];exact⟨v,hv⟩⟩
 |some t=>
  rw[hx]at hn
  obtain⟨b,ow,rm,e,gb⟩:=hn
  rw[e]at m78
  have r1:tkS C={C with s:=t,nx:=none,tk:=true}:=by unfold tkS;rw[hx]
  have r2:tkE C=0:=by unfold tkE;rw[hx];rfl
  have hcb:c≠b:=fun e=>by subst e;rw[gc]at gb;cases gb
  have len:=Adl v C.s
  have len2:=Adl v t
  have len3:=Adl {v with nx:=.pointer none} t
  have sS:=A42 v C.s t
  have s78:=Am0 v t (.pointer none)
  have s77:=Asb {v with nx:=.pointer none} t true
  simp(disch:=first|assumption|omega)only[f17,P4,seval,gc,m78,gb,Aa6,Aas,Aaf,len,len2,len3,sS,s78,s77]
  have cS:=Chg.set H lc (.cells true false 79 (chl {v with nx:=.pointer none,tk:=true} t) 99)
  have cF:=cS.mono (T:=[c,sb]) (by simp)
  have hne:=hv.ne
  have o1:∀b∈[c],∀o r z C T,H.get b=some (.cells o r z C T)->z≠2/\T≠49:=fun b hb o r z D T e=>(hv.o68 b (by simp at hb ⊢;exact .inl hb) o r z D T e).2
  exact hq2 _ _ ⟨.int .i64 0,rfl,by rw[r2],cF,by
   rw[r1]
   exact⟨{v with nx:=.pointer none,tk:=true},⟨hv.e.1,hv.e.2.1,hv.e.2.2.1,hv.e.2.2.2.1,rfl⟩,Aaa.Bfe gc _,hv.l,rfl,hv.m,hv.sd.oth cS (by simp;omega) o1,hv.ok,hv.ch,hv.up cF,hv.wc,hv.ws⟩⟩
theorem t23{W:Wd}{H:Aaa}{c sb:Nat}{wh:Int}{L:Ly}{C:Ch}(h:ChR W H c sb wh L C):
 ∃w K,Aaq Tryz.prog 0 23 [ptr c 0] H w K/\∃z,w=.tuple #[.agg (inl (Aby C.sd) z).toArray,.bool (Ai9 C.sd)]/\Ap0 H K z (Aja C.sd):=by
 refine Aam f23 ?_
 intro Q hq1 hq2
 obtain⟨v,hv⟩:=h
 have gc:=hv.g
 have lc:=Aaa.Bfg gc
 have m76:=Ajy v C.s
 rw[hv.e.2.1]at m76
 have kA:=(Aac.refl H).alloc (.cells true false 4 [.int .u64 0,.int .u32 0,.int .u32 0,.slice none 0 0] 46)
 have gA:=Aaa.Bfd H (.cells true false 4 [.int .u64 0,.int .u32 0,.int .u32 0,.slice none 0 0] 46)
 have tM:=t39 (hv.sd.keeps kA) hv.ok
 have em:∀z,inl (Aby C.sd) z=[S64 (Aby C.sd).oc,S32 (Aby C.sd).nr,S32 (Aby C.sd).rv,z]:=fun _=>rfl
 simp only[em]at tM hq2
 simp(disch:=first|assumption|omega)only[f23,P4,seval,gc,m76]
 refine Aae tM ?_
 rintro _ V ⟨z,rfl,nc⟩
 have gV:=nc.k.at_ gA
 have lV:=Aaa.Bfg gV
 have oz:=Sl.one nc.c.s
 simp(disch:=first|assumption|omega|(simp only[LN]<;>omega)|(simp(disch:=first|assumption|omega|(simp only[LN]<;>omega))only[Aab,Aad];assumption))only[P4,seval,gV,oz,O4]
 have fz:∀b,blk z=some b->H.n+1<=b:=nc.f
 have cV:=Chg.set V lV (.cells true false 4 [S64 (Aby C.sd).oc,S32 (Aby C.sd).nr,S32 (Aby C.sd).rv,z] 46)
 exact hq2 _ _ ⟨_,Adj (p:=H.n) (Aaa.Bfe gV _) rfl rfl rfl,z,rfl,(kA.trans nc.k).Bfh cV (by simp),nc.c.chg cV (fun b h1 h2=>by have:=fz b h1;simp at h2;omega),fun b h1=>by have:=fz b h1;omega⟩
theorem t18{W:Wd}{H:Aaa}{c sb:Nat}{wh:Int}{L:Ly}{C:Ch}(h:ChR W H c sb wh L C):
 ∃w K,Aaq Tryz.prog 0 18 [ptr c 0] H w K/\w=.agg (stl C.s).toArray/\K=H:=by
 refine Ayf ?_
 refine Aam f18 ?_
 intro Q hq1 hq2
 obtain⟨v,hv⟩:=h
 have gc:=hv.g
 have lc:=Aaa.Bfg gc
 have m6:=A4x v C.s
 have len:=Adl v C.s
 simp(disch:=first|assumption|omega)only[f18,P4,seval,gc,m6,len,Aa6,Aas,Aaf,Adq,Aa8]
 exact hq2 _ _ ⟨_,by show Ack [.cn 68 1] _ _=_;rw[Aoa];show Adb 68 (ptr H.n 0) _=_;rw[Ace,Abe,Aaa.Bfd,Aa6];rfl,rfl,(Aac.refl H).alloc _⟩
def thB(C:Ch):Bool:=Ai9 C.sd&& !C.tk
def thS(L:Ly)(C:Ch):Sta:=Acj L C.s (Aby C.sd) (Aja C.sd)
def frl(a b:Int)(o:List Value):List Value:=.int .i64 a:: .int .i64 b::o
def thW(L:Ly)(C:Ch):Value:=if thB C then .tuple #[.agg (stl (thS L C)).toArray,.agg (frl C.sd.cy C.ep (otl L (Aby C.sd) (thS L C))).toArray,.int .i64 0]else .tuple #[.agg (stl Abi).toArray,.agg (frl 0 0 [.int .u64 0,.int .u32 0]).toArray,.int .i64 4]
def thC(L:Ly)(C:Ch):Ch:=if thB C then{C with nx:=some (thS L C)}else C
theorem Aiu{K:Aaa}{fr:List Value}{n m i i2 j p q T T2:Nat}{o r o2 r2:Bool}{c d:List Value}{w:Value}(g:K.get p=some (.cells o r n c T))(hl:c.length=n)(g2:K.get q=some (.cells o2 r2 m d T2))(hl2:d.length=m)(h1:fr.getD i undef=ptr p 0)(h3:fr.getD i2 undef=ptr q 0)(h2:fr.getD j undef=w):
 Ack [.cn n i,.cn m i2,.t j] fr K=some (.tuple #[.agg c.toArray,.agg d.toArray,w]):=by
 simp only[Ack,Af0,RX.get,h1,h2,h3]
 rw[Ace,Abe,g,Aa9 hl,Ace,Abe,g2,Aa9 hl2]
 rfl
theorem Ajz:Aau [.int .i64 0,.int .i64 0,.int .u64 0,.int .u32 0] []=some [.int .i64 0,.int .i64 0,.int .u64 0,.int .u32 0]:=rfl
theorem Axf(a b:Int)(f g:Nat->Bool):Aau [.int .i64 0,.int .i64 0,.int .u64 0,.int .u32 0] [(0,1,.int .i64 a),(1,1,.int .i64 b),(2,2,.agg #[S64 f,S32 g])]=some [.int .i64 a,.int .i64 b,S64 f,S32 g]:=rfl
theorem Am1{s:Sd}(h:SOk s):(Aja s).length<=1000/\∀c∈Aja s,0<=c.1/\c.1<256:=by
 unfold Aja
 split
 ·rename_i a c e1 e2 e3
  unfold Ajj
  split
  ·exact h.own a e1
  ·simp
 ·simp
theorem t15{W:Wd}{H:Aaa}{c sb:Nat}{wh:Int}{L:Ly}{C:Ch}(h:ChR W H c sb wh L C)(he:Aan L=0):
 ∃w K,Aaq Tryz.prog 0 15 [ptr c 0] H w K/\w=thW L C/\Chg [c,sb] H K/\ChR W K c sb wh L (thC L C):=by
 refine Aam f15 ?_
 intro Q hq1 hq2
 obtain⟨v,hv⟩:=h
 have gc:=hv.g
 have lc:=Aaa.Bfg gc
 have m76:=Ajy v C.s
 have m77:=A4t v C.s
 have m74:=Axa v C.s
 have m5:=A4r v C.s
 have ms:=A4x v C.s
 have len:=Adl v C.s
 obtain⟨v1,v2,v3,v4,v5⟩:=hv.e
 rw[v2]at m76
 rw[v5]at m77
 rw[v3]at m74
 obtain⟨K0,hK0⟩:∃X,X=(H.alloc (.cells true false 68 (stl Abi) 43)).alloc (.cells true false 4 [.int .i64 0,.int .i64 0,.int .u64 0,.int .u32 0] 56):=⟨_,rfl⟩
 have k0:Aac H K0:=by rw[hK0];exact((Aac.refl H).alloc _).alloc _
 have n0:K0.n=H.n+2:=by rw[hK0];rfl
 have g0:K0.get H.n=some (.cells true false 68 (stl Abi) 43):=by rw[hK0];exact((Aac.refl _).alloc _).at_ (Aaa.Bfd H _)
 have g1:K0.get (H.n+1)=some (.cells true false 4 [.int .i64 0,.int .i64 0,.int .u64 0,.int .u32 0] 56):=by rw[hK0];exact Aaa.Bfd (H.alloc _) _
 have tM:=t39 (hv.sd.keeps k0) hv.ok
 have em:∀z,inl (Aby C.sd) z=[S64 (Aby C.sd).oc,S32 (Aby C.sd).nr,S32 (Aby C.sd).rv,z]:=fun _=>rfl
 simp only[em]at tM
 simp(disch:=first|assumption|omega|(simp only[LN]<;>omega)|(simp(disch:=first|assumption|omega|(simp only[LN]<;>omega))only[Aab,Aad];assumption))only[f15,P4,seval,gc,m76,Adq,Aas]
 rw[<-hK0]
 refine Aae tM ?_
 rintro _ K ⟨z,rfl,nc⟩
 have oz:=Sl.one nc.c.s
 have g0K:=nc.k.at_ g0
 have g1K:=nc.k.at_ g1
 have gcK:=(k0.trans nc.k).at_ gc
 have nK:=nc.k.n
 have l0K:=Aaa.Bfg g0K
 have l1K:=Aaa.Bfg g1K
 have lcK:=Aaa.Bfg gcK
 have kI:=(k0.trans nc.k).alloc (.cells true false 4 [S64 (Aby C.sd).oc,S32 (Aby C.sd).nr,S32 (Aby C.sd).rv,z] 46)
 have hno:thB C=false->thW L C=.tuple #[.agg (stl Abi).toArray,.agg (frl 0 0 [.int .u64 0,.int .u32 0]).toArray,.int .i64 4]/\thC L C=C:=fun e=>by unfold thW thC;rw[e];exact⟨rfl,rfl⟩
 have no:thB C=false->∀{fr:List Value} {Z:Aaa},Aac H Z->Z.get H.n=some (.cells true false 68 (stl Abi) 43)->Z.get (H.n+1)=some (.cells true false 4 [.int .i64 0,.int .i64 0,.int .u64 0,.int .u32 0] 56)->fr.getD 1 undef=ptr H.n 0->fr.getD 2 undef=ptr (H.n+1) 0->fr.getD 3 undef=.int .i64 4->Q .ret fr Z:=fun e fr Z kZ a b h1 h2 h3=>by
  rw[(hno e).1,(hno e).2]at hq2
  exact hq2 _ _ ⟨_,Aiu a (Aaf _) b rfl h1 h2 h3,rfl,kZ.chg _,⟨v,hv.keeps kZ⟩⟩
 have hB:thB C=(Ai9 C.sd&& !C.tk):=rfl
 have nop:thB C=false->∀{fr:List Value} (o:AO),fr.getD 1 undef=ptr H.n 0->fr.getD 2 undef=ptr (H.n+1) 0->fr.getD 3 undef=.int .i64 4->Q .ret fr (((K.set H.n (.cells true false 68 (stl Abi) 43)).set (H.n+1) (.cells true false 4 [.int .i64 0,.int .i64 0,.int .u64 0,.int .u32 0] 56)).alloc o):=fun e fr o h1 h2 h3=>by
  have l1':H.n+1<(K.set H.n (.cells true false 68 (stl Abi) 43)).n:=by rw[Ab6];exact l1K
  have g1':=(Aaa.Bff K (show H.n+1≠H.n by omega) l0K (.cells true false 68 (stl Abi) 43)).trans g1K
  have kZ:=((((k0.trans nc.k).set (Nat.le_refl _) l0K (.cells true false 68 (stl Abi) 43)).set (by omega) l1' (.cells true false 4 [.int .i64 0,.int .i64 0,.int .u64 0,.int .u32 0] 56))).alloc o
  have ka:=(Aac.refl ((K.set H.n (.cells true false 68 (stl Abi) 43)).set (H.n+1) (.cells true false 4 [.int .i64 0,.int .i64 0,.int .u64 0,.int .u32 0] 56))).alloc o
  exact no e kZ (ka.at_ ((Aaa.Bff _ (by omega) l1' _).trans (Aaa.Bfe g0K _))) (ka.at_ (Aaa.Bfe g1' _)) h1 h2 h3
 cases hb:Ai9 C.sd with
 |false=>
  simp(disch:=first|assumption|omega|(simp only[LN]<;>omega)|(simp(disch:=first|assumption|omega|(simp only[LN]<;>omega))only[Aab,Aad];assumption))only[P4,seval,oz,O4,Adq,Aas,Aaf,Ajz,Akt,g0K,g1K,Aa8]
  exact nop (by rw[hB,hb];rfl) _ rfl rfl rfl
 |true=>
 cases ht:C.tk with
 |true=>
  rw[ht]at m77
  simp(disch:=first|assumption|omega|(simp only[LN]<;>omega)|(simp(disch:=first|assumption|omega|(simp only[LN]<;>omega))only[Aab,Aad];assumption))only[P4,seval,oz,O4,Adq,Aas,Aaf,Ajz,Akt,g0K,g1K,Aa8,gcK,m77]
  exact nop (by rw[hB,hb,ht];rfl) _ rfl rfl rfl
 |false=>
 rw[ht]at m77
 have hBt:thB C=true:=by rw[hB,hb,ht];rfl
 have e1:thW L C=.tuple #[.agg (stl (thS L C)).toArray,.agg (frl C.sd.cy C.ep (otl L (Aby C.sd) (thS L C))).toArray,.int .i64 0]:=by unfold thW;rw[hBt];rfl
 have e2:thC L C={C with nx:=some (thS L C)}:=by unfold thC;rw[hBt];rfl
 rw[e1,e2]at hq1 hq2
 obtain⟨t,mv,g,eiv,hme,hrun⟩:=A44 hv.ms he
 rw[eiv]at m5
 have mo:=Am1 hv.ok
 have tS:=hrun _ kI C.s (Aby C.sd) z (Aja C.sd) (nc.c.keeps ((Aac.refl K).alloc _)) (by omega) mo.2
 simp only[em]at tS
 have nk:∀Z,Aak (.nilck (.iface t mv)) Z=some (.iface t mv,Z):=fun _=>rfl
 simp(disch:=first|assumption|omega|(simp only[LN]<;>omega)|(simp(disch:=first|assumption|omega|(simp only[LN]<;>omega))only[Aab,Aad];assumption))only[P4,seval,oz,O4,gcK,m77,m5,ms,len,Aw9 (h:=hme),nk]
 refine Aae tS ?_
 rintro _ X ⟨rfl,hX⟩
 rw[hX]
 obtain⟨T,hT⟩:∃T,T=thS L C:=⟨_,rfl⟩
 rw[show Acj L C.s (Aby C.sd) (Aja C.sd)=T from hT.symm]
 rw[<-hT]at hq1 hq2
 have eo:otl L (Aby C.sd) T=[S64 fun i=>decide (i<L.r.length)&&Ad3 L (Aby C.sd) T i,S32 T.po]:=rfl
 have ef:∀a b,frl a b (otl L (Aby C.sd) T)=[.int .i64 a,.int .i64 b,S64 fun i=>decide (i<L.r.length)&&Ad3 L (Aby C.sd) T i,S32 T.po]:=fun _ _=>rfl
 rw[ef]at hq1 hq2
 rw[eo]
 obtain⟨v',hv'⟩:∃v':Chv,v'={v with nx:=ptr (K.n+1) 0}:=⟨_,rfl⟩
 have s78:(chl v C.s).set 78 (ptr (K.n+1) 0)=chl v' C.s:=by rw[hv'];exact Am0 v C.s (ptr (K.n+1) 0)
 have p76:(chl v' C.s)[76]? =some (ptr sb 0):=by rw[Ajy,hv'];exact congrArg (fun n=>some (ptr n 0)) v2
 have p74:(chl v' C.s)[74]? =some (.int .i64 C.ep):=by rw[Axa,hv'];exact congrArg (fun n=>some (Value.int .i64 n)) v3
 have hne:=hv.ne
 have lsb:sb<H.n:=by obtain⟨_,_,_,g,_⟩:=hv.sd;exact Aaa.Bfg g
 have cS:=Chg.set K lcK (.cells true false 79 (chl v' C.s) 99)
 have o1:OtR K [c]:=fun b hb o r z D T e=>by
  simp only[List.mem_cons,List.not_mem_nil,or_false]at hb
  subst hb;rw[gcK]at e;cases e;decide
 obtain⟨K4,hK4⟩:∃X,X=(((K.set c (.cells true false 79 (chl v' C.s) 99)).alloc (.cells true false 4 [S64 (Aby C.sd).oc,S32 (Aby C.sd).nr,S32 (Aby C.sd).rv,z] 46)).alloc (.cells true false 68 (stl T) 43)).alloc (.cells true false 2 [S64 fun i=>decide (i<L.r.length)&&Ad3 L (Aby C.sd) T i,S32 T.po] 54):=⟨_,rfl⟩
 have k4:Aac (K.set c (.cells true false 79 (chl v' C.s) 99)) K4:=by rw[hK4];exact(((Aac.refl _).alloc _).alloc _).alloc _
 have a4:=(((hv.sd.keeps (k0.trans nc.k)).oth cS (by simpa using fun e=>hne e.symm) o1)).keeps k4
 have gc4:=k4.at_ (Aaa.Bfe gcK (.cells true false 79 (chl v' C.s) 99))
 have g04:=k4.at_ ((Aaa.Bff K (show H.n≠c by omega) lcK (.cells true false 79 (chl v' C.s) 99)).trans g0K)
 have g14:=k4.at_ ((Aaa.Bff K (show H.n+1≠c by omega) lcK (.cells true false 79 (chl v' C.s) 99)).trans g1K)
 have gs4:K4.get (K.n+1)=some (.cells true false 68 (stl T) 43):=by
  rw[hK4]
  exact((Aac.refl _).alloc _).at_ (Aaa.Bfd ((K.set c _).alloc _) _)
 have go4:K4.get (K.n+1+1)=some (.cells true false 2 [S64 fun i=>decide (i<L.r.length)&&Ad3 L (Aby C.sd) T i,S32 T.po] 54):=by
  rw[hK4]
  exact Aaa.Bfd (((K.set c _).alloc _).alloc _) _
 have l04:=Aaa.Bfg g04
 have l14:=Aaa.Bfg g14
 simp(disch:=first|assumption|omega|(simp only[LN]<;>omega)|(simp(disch:=first|assumption|omega|(simp only[LN]<;>omega))only[Aab,Aad];assumption))only[P4,seval,Adq,Aas,Aaf,Aa6,Aa8,gcK,O4,s78,len,p76]
 rw[<-hK4]
 refine Aat (t40 a4) ?_
 simp(disch:=first|assumption|omega|(simp only[LN]<;>omega)|(simp(disch:=first|assumption|omega|(simp only[LN]<;>omega))only[Aab,Aad];assumption))only[P4,seval,gc4,p74,go4,gs4,Axf,g04,g14,Aa8,Aas,Aaf,O4]
 obtain⟨F,hF⟩:∃F:AO,F=.cells true false 4 [.int .i64 C.sd.cy,.int .i64 C.ep,S64 fun i=>decide (i<L.r.length)&&Ad3 L (Aby C.sd) T i,S32 T.po] 56:=⟨_,rfl⟩
 rw[<-hF]
 have c1:=(Chg.set K4 l04 (.cells true false 68 (stl T) 43)).mono (T:=[H.n,H.n+1]) (by simp)
 have l14':H.n+1<(K4.set H.n (.cells true false 68 (stl T) 43)).n:=by rw[Ab6];exact l14
 have c2:=c1.trans ((Chg.set _ l14' F).mono (T:=[H.n,H.n+1]) (by simp)) (by simp)
 have o2:OtR K4 [H.n,H.n+1]:=fun b hb o r z D T' e=>by
  simp only[List.mem_cons,List.not_mem_nil,or_false]at hb
  rcases hb with rfl|rfl
  ·rw[g04]at e;cases e;decide
  ·rw[g14]at e;cases e;decide
 have n4:=k4.n
 rw[Ab6]at n4
 have cF:=((((((k0.trans nc.k).chg [c,sb]).trans (cS.mono (T:=[c,sb]) (by simp)) (by simp)).trans (k4.chg []) (by simp))).trans c2 (fun x hx=>by simp only[List.mem_cons,List.not_mem_nil,or_false]at hx;right;omega))
 have gS:=(Aaa.Bff _ (show H.n≠H.n+1 by omega) l14' F).trans (Aaa.Bfe g04 (.cells true false 68 (stl T) 43))
 have gF:((K4.set H.n (.cells true false 68 (stl T) 43)).set (H.n+1) F).get (H.n+1)=some F:=Aaa.Bfe ((Aaa.Bff K4 (show H.n+1≠H.n by omega) l04 _).trans g14) F
 have gg:∀b o,b≠H.n->b≠H.n+1->K4.get b=some o->((K4.set H.n (.cells true false 68 (stl T) 43)).set (H.n+1) F).get b=some o:=fun b o h1 h2 g=>(Aaa.Bff _ h2 l14' F).trans ((Aaa.Bff K4 h1 l04 _).trans g)
 refine⟨by simp,Aaa.Bfg go4,by simp,hq2 _ _ ⟨_,Aiu gS (Aaf _) (gF.trans (by rw[hF])) rfl rfl rfl rfl,rfl,cF,⟨v',⟨by rw[hv'];exact v1,by rw[hv'];exact v2,by rw[hv'];exact v3,by rw[hv'];exact v4,by rw[hv'];exact v5⟩,gg _ _ (by omega) (by omega) gc4,by rw[hv'];exact hv.l,by rw[hv'];exact⟨K.n+1,true,false,rfl,gg _ _ (by omega) (by omega) gs4⟩,by rw[hv'];exact hv.m,a4.oth c2 (by simp;omega) o2,hv.ok,hv.ch,hv.up cF,hv.wc,hv.ws⟩⟩⟩
theorem Aiv:Ben=stl Abi:=Ac9
def x8(a b:Nat):Nat:=(BitVec.ofInt 8 (a:Int) ^^^ BitVec.ofInt 8 (b:Int)).toNat
theorem Axg(a b:Nat):Abz .xor (.int .u8 (a:Int)) (.int .u8 (b:Int))=some (.int .u8 ((x8 a b:Nat):Int)):=by
 rw[Apd]
 have h:(x8 a b)<256:=by unfold x8;exact BitVec.isLt _
 show some (Value.int _ (IntKind.u8.wrap ((x8 a b:Nat):Int)))=_
 rw[Aks]
 congr 2
 omega
def Asd(s x:Sta):Sta:=⟨fun i=>s.lo i ^^ x.lo i,fun i=>s.us i ^^ x.us i,fun i=>s.ca i ^^ x.ca i,fun i=>x8 (s.ti i) (x.ti i),fun i=>s.po i ^^ x.po i⟩
def Ajk(s x:Sta)(n:Nat):Sta:={Asd s x with ti:=fun i=>if i<n then x8 (s.ti i) (x.ti i)else s.ti i}
theorem Axh(s x:Sta):Ajk s x 0={Asd s x with ti:=s.ti}:=by unfold Ajk;simp
theorem Axi(s x:Sta)(n:Nat):{Ajk s x n with ti:=upd (Ajk s x n).ti n (x8 ((Ajk s x n).ti n) (x.ti n))}=Ajk s x (n+1):=by
 unfold Ajk
 simp only[Sta.mk.injEq,true_and,and_true]
 funext i
 unfold upd
 by_cases h:i=n
 ·subst h;simp
 ·have e:(i<n+1)=(i<n):=by simp;omega
  simp only[h,if_false,e]
theorem Axj(s x:Sta):stl (Ajk s x 64)=stl (Asd s x):=Ade (fun _ _=>rfl) (fun _ _=>rfl) (fun _ _=>rfl) (fun i h=>by simp[Ajk,Asd,h]) (fun _ _=>rfl)
theorem A0x(v:Chv){s t:Sta}(h:stl s=stl t):chl v s=chl v t:=by unfold chl;rw[h]
theorem t26{W:Wd}{H:Aaa}{c sb:Nat}{wh:Int}{L:Ly}{C:Ch}(h:ChR W H c sb wh L C)(x:Sta):
 ∃w K,Aaq Tryz.prog 0 26 [ptr c 0,.agg (stl x).toArray] H w K/\w=.tuple #[]/\Chg [c,sb] H K/\ChR W K c sb wh L {C with s:=Asd C.s x}:=by
 refine Aam f26 ?_
 intro Q hq1 hq2
 obtain⟨v,hv⟩:=h
 have gc:=hv.g
 have lc:=Aaa.Bfg gc
 have hne:=hv.ne
 have m:=fun s=>Adl v s
 have a6:=fun s=>A9t v s
 have a7:=fun s=>A9u v s
 have a8:=fun s=>A9v v s
 have a73:=fun s=>A4w v s
 have b6:=fun s f=>A4y v s f
 have b7:=fun s f=>A4z v s f
 have b8:=fun s f=>A40 v s f
 have b73:=fun s f=>A0u v s f
 simp(disch:=first|assumption|omega|(simp only[LN]<;>omega)|(simp(disch:=first|assumption|omega|(simp only[LN]<;>omega))only[Aab,Aad];assumption))only[f26,P3,seval,Aah,Aao,gc,Aas,Aaf,a6,a7,a8,a73,b6,b7,b8,b73,m,A6b,Apt,Abt,Aee,Adm,Ab0,O4,As8]
 obtain⟨A1,hA1⟩:∃z:Value,z=.agg (stl x).toArray:=⟨_,rfl⟩
 rw[<-hA1,Aag]
 refine Aal (fun q fr K=>∃i x3 x4 x8,fr=[ptr c 0,A1,ptr H.n 0,x3,x4,.bool false,.agg (tis x.ti).toArray,.int .i64 ((i:Nat):Int),x8]/\Chg [c] H K/\K.get c=some (.cells true false 79 (chl v (Ajk C.s x i)) 99)/\i<=64/\q=64-i) 64
  ⟨0,_,_,_,rfl,(Chg.set H lc _).trans (((Aac.refl _).alloc _).chg []) (by simp),by rw[Axh];exact((Aac.refl _).alloc _).at_ (Aaa.Bfe gc _),by omega,rfl⟩ ?_
 rintro Q' q fr K ⟨i,x3,x4,x8',rfl,cK,gK,hi,rfl⟩ hn' hx' hret
 have lK:=Aaa.Bfg gK
 by_cases hlt:i<64
 ·have e1:(i:Int)<64:=by omega
  have e0:(0:Int)<=(i:Int):=by omega
  have hw:=wrS (i:=i) (by omega)
  have ai:=As9
  have ct:=A9w v (Ajk C.s x i) hlt
  have cs:=A41 v (Ajk C.s x i) hlt
  have e9:9+i<79:=by omega
  have len:=m (Ajk C.s x i)
  have e8:=Axg ((Ajk C.s x i).ti i) (x.ti i)
  rw[Apd,Option.some.injEq]at e8
  simp(disch:=first|assumption|omega)only[P4,seval,e1,e0,As9,hlt,gK,Aaz,Int.toNat_natCast,Nat.mul_one,ct,cs,e9,len,hw]
  rw[e8,cs,Axi]
  exact hn' _ _ _ ⟨i+1,_,_,_,rfl,cK.trans (Chg.set K lK _) (by simp),Aaa.Bfe gK _,by omega,rfl⟩ (by omega)
 ·have e1:¬(i:Int)<64:=by omega
  have hie:i=64:=by omega
  subst hie
  simp(disch:=first|assumption|omega)only[P4,seval,e1]
  refine hx' _ _ _ ?_
  show Q .normal _ _
  have cF:=cK.mono (T:=[c,sb]) (by simp)
  rw[A0x v (Axj C.s x)]at gK
  have o1:OtR H [c]:=fun b hb o r z D T e=>(hv.o68 b (by simp at hb ⊢;exact .inl hb) o r z D T e).2
  exact hq1 _ _ ⟨.tuple #[],rfl,rfl,cF,⟨v,hv.e,gK,hv.l,hv.n.oth cF (fun b hb o r z C T e=>(hv.o68 b hb o r z C T e).1),hv.m,hv.sd.oth cK (by simpa using fun e=>hne e.symm) o1,hv.ok,hv.ch,hv.up cF,hv.wc,hv.ws⟩⟩
theorem t56(H:Aaa)(s x:Sta):∃w K,Aaq Tryz.prog 0 56 [.agg (stl s).toArray,.agg (stl x).toArray] H w K/\w=.agg (stl (Asd s x)).toArray/\K=H:=by
 refine Ayf ?_
 refine Aam f56 ?_
 intro Q hq1 hq2
 simp(disch:=first|assumption|omega|(simp only[LN]<;>omega)|(simp(disch:=first|assumption|omega|(simp only[LN]<;>omega))only[Aab,Aad];assumption))only[f56,P3,seval,Aah,Aao,Aas,Aaf,A6b,Apt,Abt,Aee,Adm,Ab0,Ahh,Ahx,Agt,Afl,O4,Aiv]
 obtain⟨A0,hA0⟩:∃z:Value,z=.agg (stl s).toArray:=⟨_,rfl⟩
 obtain⟨A1,hA1⟩:∃z:Value,z=.agg (stl x).toArray:=⟨_,rfl⟩
 have t0:=Axh s x
 unfold Asd at t0
 simp only at t0
 rw[<-t0]
 obtain⟨K0,hK0⟩:∃X,X=((H.alloc (.cells true false 68 (stl (Ajk s x 0)) 43)).alloc (.cells true false 68 (stl x) 43)).alloc (.cells true false 68 (stl Abi) 43):=⟨_,rfl⟩
 have k0:Aac H K0:=by rw[hK0];exact(((Aac.refl H).alloc _).alloc _).alloc _
 have g0:K0.get H.n=some (.cells true false 68 (stl (Ajk s x 0)) 43):=by rw[hK0];exact(((Aac.refl _).alloc _).alloc _).at_ (Aaa.Bfd H _)
 have g1:K0.get (H.n+1)=some (.cells true false 68 (stl x) 43):=by rw[hK0];exact((Aac.refl _).alloc _).at_ (Aaa.Bfd (H.alloc _) _)
 have g2:K0.get (H.n+1+1)=some (.cells true false 68 (stl Abi) 43):=by rw[hK0];exact Aaa.Bfd ((H.alloc _).alloc _) _
 rw[<-hA0,<-hA1,<-hK0,Aag]
 refine Aal (fun q fr K=>∃i x6,fr=[A0,A1,ptr H.n 0,ptr (H.n+1) 0,ptr (H.n+1+1) 0,.int .i64 ((i:Nat):Int),x6]/\Chg [H.n] K0 K/\K.get H.n=some (.cells true false 68 (stl (Ajk s x i)) 43)/\i<=64/\q=64-i) 64
  ⟨0,_,rfl,Chg.refl _ _,g0,by omega,rfl⟩ ?_
 rintro Q' q fr K ⟨i,x6,rfl,cK,gK,hi,rfl⟩ hn' hx' hret
 have lK:=Aaa.Bfg gK
 have g1K:=cK.at_ g1 (by simp)
 have g2K:=cK.at_ g2 (by simp;omega)
 have l1K:=Aaa.Bfg g1K
 have l2K:=Aaa.Bfg g2K
 by_cases hlt:i<64
 ·have e1:(i:Int)<64:=by omega
  have e0:(0:Int)<=(i:Int):=by omega
  have hw:=wrS (i:=i) (by omega)
  have ct:=Ak2 (Ajk s x i) hlt
  have cx:=Ak2 x hlt
  have cs:=Ajl (Ajk s x i) hlt (x8 ((Ajk s x i).ti i) (x.ti i))
  have e3:3+i<68:=by omega
  have e8:=Axg ((Ajk s x i).ti i) (x.ti i)
  rw[Apd,Option.some.injEq]at e8
  simp(disch:=first|assumption|omega)only[P4,seval,e1,e0,gK,g1K,Aaz,Int.toNat_natCast,Nat.mul_one,ct,cx,e3,Aaf,hw]
  rw[e8,cs,Axi]
  exact hn' _ _ _ ⟨i+1,_,rfl,cK.trans (Chg.set K lK _) (by simp),Aaa.Bfe gK _,by omega,rfl⟩ (by omega)
 ·have e1:¬(i:Int)<64:=by omega
  have hie:i=64:=by omega
  subst hie
  rw[Axj]at gK
  simp(disch:=first|assumption|omega)only[P4,seval,e1]
  refine hx' _ _ _ ?_
  simp(disch:=first|assumption|omega)only[P4,seval,gK,Aa6,Aa8,g2K]
  exact hq2 _ _ ⟨_,by show Ack [.cn 68 4] _ _=_;rw[Aoa];show Adb 68 (ptr (H.n+1+1) 0) _=_;rw[Ace,Abe,Aaa.Bfe g2K,Aa6];rfl,rfl,(k0.Bfh cK (by simp)).set (by omega) l2K _⟩
structure Dhv where
 u:V4
 ep:Int
 sb:Nat
 fl:Int
 tk:Bool
 th:Bool
def dhl(d:Dhv)(s n:Sta):List Value:=[d.u.s,d.u.p,d.u.g,d.u.r]++(stl s++([.int .i64 d.ep,ptr d.sb 0,.int .i64 d.fl,.bool d.tk,.bool d.th]++stl n))
section
variable (d:Dhv) (s n:Sta)
theorem Ac6:(dhl d s n).length=145:=by simp[dhl,Aaf]
theorem Ase(i:Nat)(h:i<5):(dhl d s n)[72+i]? =[Value.int .i64 d.ep,ptr d.sb 0,.int .i64 d.fl,.bool d.tk,.bool d.th][i]? :=by
 unfold dhl
 rw[List.getElem?_append_right (by simp;omega),List.getElem?_append_right (by rw[Aaf];simp;omega),Aaf,List.getElem?_append_left (by simp;omega)]
 congr 1
 simp
 omega
theorem Axk:(dhl d s n)[72]? =some (.int .i64 d.ep):=Ase d s n 0 (by omega)
theorem Aj0:(dhl d s n)[73]? =some (ptr d.sb 0):=Ase d s n 1 (by omega)
theorem A46:(dhl d s n)[74]? =some (.int .i64 d.fl):=Ase d s n 2 (by omega)
theorem A47:(dhl d s n)[75]? =some (.bool d.tk):=Ase d s n 3 (by omega)
theorem A48:(dhl d s n)[76]? =some (.bool d.th):=Ase d s n 4 (by omega)
theorem Asf:(dhl d s n).take 4=[d.u.s,d.u.p,d.u.g,d.u.r]:=rfl
theorem A0y:((dhl d s n).drop 4).take 68=stl s:=by
 show(stl s++_).take 68=_
 rw[List.take_append_of_le_length (by rw[Aaf];omega),List.take_of_length_le (by rw[Aaf];omega)]
theorem A0z:(dhl d s n).drop 77=stl n:=by
 show(stl s++_).drop 73=_
 rw[List.drop_append,List.drop_of_length_le (by rw[Aaf];omega),Aaf];rfl
theorem A9z:((dhl d s n).drop 77).take 68=stl n:=by
 rw[A0z,List.take_of_length_le (by rw[Aaf];omega)]
theorem Axl(i:Nat)(h:i<5)(x:Value):(dhl d s n).set (72+i) x=[d.u.s,d.u.p,d.u.g,d.u.r]++(stl s++([Value.int .i64 d.ep,ptr d.sb 0,.int .i64 d.fl,.bool d.tk,.bool d.th].set i x++stl n)):=by
 unfold dhl
 rw[List.set_append_right _ _ (by simp;omega),List.set_append_right _ _ (by rw[Aaf];simp;omega),Aaf,List.set_append_left _ _ (by simp;omega)]
 congr 4
 simp
 omega
theorem Asg(b:Bool):(dhl d s n).set 75 (.bool b)=dhl {d with tk:=b} s n:=Axl d s n 3 (by omega) _
theorem Am2(b:Bool):(dhl d s n).set 76 (.bool b)=dhl {d with th:=b} s n:=Axl d s n 4 (by omega) _
theorem Axm(t:Sta):(dhl d s n).take 4++stl t++(dhl d s n).drop (4+68)=dhl d t n:=by
 have h2:(dhl d s n).drop (4+68)=[.int .i64 d.ep,ptr d.sb 0,.int .i64 d.fl,.bool d.tk,.bool d.th]++stl n:=by
  show(stl s++_).drop 68=_
  rw[List.drop_append_of_le_length (by rw[Aaf];omega),List.drop_of_length_le (by rw[Aaf];omega)];rfl
 rw[Asf,h2,List.append_assoc];rfl
theorem A49(t:Sta):(dhl d s n).take 77++stl t++(dhl d s n).drop (77+68)=dhl d s t:=by
 have h2:(dhl d s n).drop (77+68)=[]:=List.drop_of_length_le (by rw[Ac6];omega)
 have h1:(dhl d s n).take 77=[d.u.s,d.u.p,d.u.g,d.u.r]++(stl s++[.int .i64 d.ep,ptr d.sb 0,.int .i64 d.fl,.bool d.tk,.bool d.th]):=by
  show[d.u.s,d.u.p,d.u.g,d.u.r]++(stl s++_).take 73=_
  rw[List.take_append,List.take_of_length_le (by rw[Aaf];omega),Aaf];rfl
 rw[h1,h2,List.append_nil]
 unfold dhl
 simp only[List.append_assoc]
theorem Ash(ha:d.u.s.oneCell'=true)(hb:d.u.p.oneCell'=true)(hc:d.u.g.oneCell'=true)(hd:d.u.r.oneCell'=true):(dhl d s n).all Value.oneCell'=true:=by
 simp only[dhl,List.all_append,Aas,List.all_cons,List.all_nil,ha,hb,hc,hd]
 rfl
end
structure DhV (H:Aaa) (c sb:Nat) (u:V4) (d:Dhv) (C:Ch):Prop where
 e:d.u=u/\d.sb=sb/\d.ep=C.ep/\d.fl=C.fl/\d.tk=C.tk/\d.th=C.nx.isSome
 g:∃n,H.get c=some (.cells true false 145 (dhl d C.s n) 74)/\∀t,C.nx=some t->stl n=stl t
 sd:AgD H sb C.sd
 ok:SOk C.sd
def DhR(H:Aaa)(c sb:Nat)(u:V4)(C:Ch):Prop:=∃d,DhV H c sb u d C
theorem DhV.ne{H:Aaa}{c sb:Nat}{u:V4}{d:Dhv}{C:Ch}(h:DhV H c sb u d C):c≠sb:=by
 obtain⟨_,_,_,_,_,_,g,_⟩:=h.sd
 obtain⟨n,g2,_⟩:=h.g
 intro e;subst e;rw[g2]at g;cases g
theorem DhV.o2{H:Aaa}{c sb:Nat}{u:V4}{d:Dhv}{C:Ch}(h:DhV H c sb u d C):Ot2 H [c]:=by
 obtain⟨n,g2,_⟩:=h.g
 intro b hb o r z C T e
 simp only[List.mem_cons,List.not_mem_nil,or_false]at hb
 subst hb;rw[g2]at e;cases e;decide
theorem DhV.oth{H K:Aaa}{c sb:Nat}{u:V4}{d:Dhv}{C:Ch}{S:List Nat}(h:DhV H c sb u d C)(k:Chg S H K)(hc:c∉S)(hs:sb∉S)(hS:Ot2 H S):DhV K c sb u d C:=by
 obtain⟨n,g2,e2⟩:=h.g
 exact⟨h.e,⟨n,k.at_ g2 hc,e2⟩,h.sd.oth k hs hS,h.ok⟩
theorem DhV.keeps{H K:Aaa}{c sb:Nat}{u:V4}{d:Dhv}{C:Ch}(h:DhV H c sb u d C)(k:Aac H K):DhV K c sb u d C:=h.oth (k.chg []) (by simp) (by simp) (fun b hb=>by cases hb)
theorem DhR.keeps{H K:Aaa}{c sb:Nat}{u:V4}{C:Ch}(h:DhR H c sb u C)(k:Aac H K):DhR K c sb u C:=by
 obtain⟨d,h⟩:=h;exact⟨d,h.keeps k⟩
def ch0(wh:Int):Ch:=⟨Abi,0,0,sd0 wh,false,none⟩
theorem A5a(a b c e:Value)(sb:Nat):Aau Av7 [(0,4,.agg #[a,b,c,e]),(73,1,ptr sb 0)]=some (dhl ⟨⟨a,b,c,e⟩,0,sb,0,false,false⟩ Abi Abi):=by
 unfold dhl
 rw[<-Ac9];rfl
theorem t21{H:Aaa}{u:V4}{xs:List RV}{L:Ly}(h:LyR H u xs L)(wh:Int):∃w K,Aaq Tryz.prog 0 21 [.int .i64 wh,.agg u.l.toArray] H w K/\Aac H K/\∃c sb,w=ptr c 0/\H.n<=c/\H.n<=sb/\DhR K c sb u (ch0 wh):=by
 refine Aam f21 ?_
 intro Q hq1 hq2
 have os:=Sl.one h.s
 have op:=Sl.one h.p
 have og:=Sl.one h.g
 have or:=Sl.one h.r
 have hul:u.l=[u.s,u.p,u.g,u.r]:=rfl
 have k0:=(Aac.refl H).alloc (.cells true false 4 [u.s,u.p,u.g,u.r] 27)
 rw[hul]
 simp(disch:=first|assumption|omega|(simp only[LN]<;>omega)|(simp(disch:=first|assumption|omega|(simp only[LN]<;>omega))only[Aab,Aad];assumption))only[f21,P4,seval,os,op,og,or]
 refine Aae (t49 _ _) ?_
 rintro _ K ⟨rfl,kK,aK⟩
 have fd:=A5a u.s u.p u.g u.r (H.n+1)
 have on:=Ash ⟨u,0,H.n+1,0,false,false⟩ Abi Abi os op og or
 have ln:=Ac6 ⟨u,0,H.n+1,0,false,false⟩ Abi Abi
 have gl:=kK.get H.n (Nat.lt_succ_self _)
 simp(disch:=first|assumption|omega)only[P4,seval,fd,on,ln,gl]
 have nK:=kK.n
 have kN:=(Aac.refl K).alloc (.cells true false 145 (dhl ⟨u,0,H.n+1,0,false,false⟩ Abi Abi) 74)
 refine⟨by simp,hq2 _ _ ⟨ptr K.n 0,rfl,(k0.trans kK).trans kN,K.n,H.n+1,rfl,Nat.le_trans (Nat.le_succ _) nK,Nat.le_succ _,⟨u,0,H.n+1,0,false,false⟩,⟨rfl,rfl,rfl,rfl,rfl,rfl⟩,⟨Abi,Aaa.Bfd K _,fun t e=>by cases e⟩,aK.keeps kN,Aob wh⟩⟩
theorem t91{H:Aaa}(n:Int):∃w K,Aaq Tryz.prog 0 91 [.int .i64 n] H w K/\w=.bool (Amc n)/\K=H:=by
 refine Aam f91 ?_
 intro Q hq1 hq2
 unfold Amc at*
 by_cases h1:0<=n
 ·simp(disch:=first|assumption|omega)only[f91,P4,seval,h1]
  exact hq2 _ _ ⟨.bool _,rfl,by simp[h1],rfl⟩
 ·simp(disch:=first|assumption|omega)only[f91,P4,seval,h1]
  exact hq2 _ _ ⟨.bool false,rfl,by simp[h1],rfl⟩
theorem A5b(a b c e:Value)(s:Sta)(ep cy:Int)(sb:Nat):Aau Av7 [(0,4,.agg #[a,b,c,e]),(4,68,.agg (stl s).toArray),(72,1,.int .i64 ep),(73,1,ptr sb 0),(74,1,.int .i64 cy)]=some (dhl ⟨⟨a,b,c,e⟩,ep,sb,cy,false,false⟩ s Abi):=by
 have h:Aau Av7 [(0,4,.agg #[a,b,c,e]),(4,68,.agg (stl s).toArray),(72,1,.int .i64 ep),(73,1,ptr sb 0),(74,1,.int .i64 cy)]=Aau (([a,b,c,e]++stl s)++([.int .i64 0,.pointer none,.int .i64 0,.bool false,.bool false]++([.int .u64 0,.int .u64 0,.int .u64 0]++List.replicate 64 (.int .u8 0)++[.int .u32 0]))) [(72,1,.int .i64 ep),(73,1,ptr sb 0),(74,1,.int .i64 cy)]:=rfl
 have hB:([a,b,c,e]++stl s).length=72:=by simp[Aaf]
 rw[h]
 refine(Apk (m:=72) hB 0 _ _ rfl (by simp) _).trans ?_
 refine(Apk (m:=72) hB 1 _ _ rfl (by simp) _).trans ?_
 refine(Apk (m:=72) hB 2 _ _ rfl (by simp) _).trans ?_
 unfold dhl
 rw[<-Ac9,List.append_assoc];rfl
theorem t57{H:Aaa}{c sb:Nat}{u:V4}{xs:List RV}{L:Ly}{C:Ch}(h:DhR H c sb u C)(hl:LyR H u xs L)(he:Aan L=0)(s:Sta)(ep cy:Int):
 ∃w K,Aaq Tryz.prog 0 57 [ptr c 0,.agg (stl s).toArray,.int .i64 ep,.int .i64 cy] H w K/\w=.int .i64 (Amd L s ep cy)/\Chg [c,sb] H K/\∃sb',(sb'=sb\/H.n<=sb')/\DhR K c sb' u (Aod L C C.sd.ch s ep cy):=by
 refine Aam f57 ?_
 intro Q hq1 hq2
 obtain⟨d,hd⟩:=h
 obtain⟨n,gc,hn⟩:=hd.g
 have lc:=Aaa.Bfg gc
 obtain⟨e1,e2,e3,e4,e5,e6⟩:=hd.e
 have os:=Sl.one hl.s
 have op:=Sl.one hl.p
 have og:=Sl.one hl.g
 have or:=Sl.one hl.r
 have ks:=(Aac.refl H).alloc (.cells true false 68 (stl s) 43)
 have gs:=Aaa.Bfd H (.cells true false 68 (stl s) 43)
 have ml:=Asf d C.s n
 rw[e1]at ml
 have m73:=Aj0 d C.s n
 rw[e2]at m73
 have len:=Ac6 d C.s n
 have hul:u.l=[u.s,u.p,u.g,u.r]:=rfl
 have tR:=t90 (hl.keeps ks) he s
 rw[hul]at tR
 have bad:Axe L s ep cy=false->∀{fr:List Value} {K:Aaa},Aac H K->fr.getD 5 undef=.int .i64 2->Q .ret fr K:=fun e fr K k hf=>by
  have r1:Amd L s ep cy=2:=by unfold Amd;rw[e];rfl
  have r2:Aod L C C.sd.ch s ep cy=C:=by unfold Aod;rw[e];rfl
  exact hq2 _ _ ⟨.int .i64 2,by show some (Ae8 [fr.getD 5 undef])=_;rw[hf];rfl,by rw[r1],k.chg _,sb,.inl rfl,by rw[r2];exact⟨d,hd.keeps k⟩⟩
 have hb:Axe L s ep cy=(Ajm L s&&(Amc ep&&Amc cy)):=rfl
 simp(disch:=first|assumption|omega)only[f57,P4,seval,Aas,Aaf,gc,ml,len,Aa6]
 refine Aae tR ?_
 rintro _ X ⟨rfl,hX⟩
 rw[hX]
 cases h1:Ajm L s with
 |false=>
  simp(disch:=first|assumption|omega)only[P4,seval]
  exact bad (by rw[hb,h1];rfl) ks rfl
 |true=>
 simp(disch:=first|assumption|omega)only[P4,seval]
 refine Aat (t91 _) ?_
 cases h2:Amc ep with
 |false=>
  simp(disch:=first|assumption|omega)only[P4,seval]
  exact bad (by rw[hb,h1,h2];rfl) ks rfl
 |true=>
 simp(disch:=first|assumption|omega)only[P4,seval]
 refine Aat (t91 _) ?_
 cases h3:Amc cy with
 |false=>
  simp(disch:=first|assumption|omega)only[P4,seval]
  exact bad (by rw[hb,h1,h2,h3];rfl) ks rfl
 |true=>
 have asd:=hd.sd
 obtain⟨_,_,_,_,_,_,ga,_⟩:=hd.sd
 unfold agl at ga
 have la:=Aaa.Bfg ga
 have gas:=ks.at_ ga
 have gcs:=ks.at_ gc
 simp(disch:=first|assumption|omega)only[P4,seval,Aas,Aaf,gc,ml,m73,len,Aa6,ga,la,lc]
 refine Aae (t49 _ _) ?_
 rintro _ V ⟨rfl,kV,ag⟩
 have gV:=kV.at_ gcs
 have lV:=Aaa.Bfg gV
 have gsV:=kV.at_ gs
 have fd:=A5b u.s u.p u.g u.r s ep cy (H.n+1)
 have on:=Ash ⟨u,ep,H.n+1,cy,false,false⟩ s Abi os op og or
 have ln:=Ac6 ⟨u,ep,H.n+1,cy,false,false⟩ s Abi
 simp(disch:=first|assumption|omega)only[P4,seval,fd,gV,gc,gsV,on,ln]
 have e1':Amd L s ep cy=0:=by unfold Amd;rw[hb,h1,h2,h3];rfl
 have e2':Aod L C C.sd.ch s ep cy=⟨s,ep,cy,sd0 C.sd.ch,false,none⟩:=by unfold Aod;rw[hb,h1,h2,h3];rfl
 have cV:=Chg.set V lV (.cells true false 145 (dhl ⟨u,ep,H.n+1,cy,false,false⟩ s Abi) 74)
 have cS:=((ks.trans kV).chg [c,sb]).trans (cV.mono (T:=[c,sb]) (by simp)) (by simp)
 have o2:Ot2 V [c]:=fun b hb o r z D T e=>by
  simp only[List.mem_cons,List.not_mem_nil,or_false]at hb
  subst hb;rw[gV]at e;cases e;decide
 refine⟨by simp,hq2 _ _ ⟨.int .i64 0,rfl,by rw[e1'],cS,H.n+1,.inr (Nat.le_succ _),by
  rw[e2']
  exact⟨⟨u,ep,H.n+1,cy,false,false⟩,⟨rfl,rfl,rfl,rfl,rfl,rfl⟩,⟨Abi,Aaa.Bfe gV _,fun t e=>by cases e⟩,ag.oth cV (by simp only[Acd,List.mem_cons,List.not_mem_nil,or_false];omega) o2,Aob _⟩⟩⟩
theorem t52{H:Aaa}{c sb:Nat}{u:V4}{xs:List RV}{L:Ly}{C:Ch}{r:Rd}{z:Value}(h:DhR H c sb u C)(hl:LyR H u xs L)(he:Aan L=0)(hr:ROk r)(hz:SlC H 2 z (r.c.map Aer)):
 ∃w K,Aaq Tryz.prog 0 52 [ptr c 0,.agg (rdl r z).toArray] H w K/\w=.int .i64 (hhE L C r)/\Chg [c,sb] H K/\DhR K c sb u (hhS L C r):=by
 refine Aam f52 ?_
 intro Q hq1 hq2
 obtain⟨d,hd⟩:=h
 obtain⟨n,gc,hn⟩:=hd.g
 have lc:=Aaa.Bfg gc
 obtain⟨e1,e2,e3,e4,e5,e6⟩:=hd.e
 have hL:=Aa1 (Aar he)
 have oz:=Sl.one hz.s
 have er:rdl r z=[.int .i64 r.ch,.int .i64 r.cy,S64 r.x.oc,S32 r.x.nr,S32 r.x.rv,z]:=rfl
 have ml:=Asf d C.s n
 rw[e1]at ml
 have m73:=Aj0 d C.s n
 rw[e2]at m73
 have len:=Ac6 d C.s n
 obtain⟨K0,hK0⟩:∃X,X=H.alloc (.cells true false 6 (rdl r z) 126):=⟨_,rfl⟩
 have k0:Aac H K0:=by rw[hK0];exact(Aac.refl H).alloc _
 have g0:K0.get H.n=some (.cells true false 6 (rdl r z) 126):=by rw[hK0];exact Aaa.Bfd H _
 have gc0:=k0.at_ gc
 have tR:=u12 (x:=r.x) (cv:=z) (cs:=r.c) (hl.keeps k0) hL (hz.keeps k0).s (by have:=hr.1;omega)
 have tH:=t88 (hd.sd.keeps k0) hd.ok hr (hz.keeps k0)
 have ei:inl r.x z=[S64 r.x.oc,S32 r.x.nr,S32 r.x.rv,z]:=rfl
 have hul:u.l=[u.s,u.p,u.g,u.r]:=rfl
 rw[ei,hul]at tR
 rw[er]at hK0 tH g0 ⊢
 simp(disch:=first|assumption|omega|(simp only[LN]<;>omega)|(simp(disch:=first|assumption|omega|(simp only[LN]<;>omega))only[Aab,Aad];assumption))only[f52,P4,seval,oz,O4,gc,ml,len]
 rw[<-hK0]
 refine Aae tR ?_
 rintro _ X ⟨rfl,hX⟩
 rw[hX]
 cases hB:inR L.s.length L.p.length L.r.length r.x r.c with
 |false=>
  have r1:hhS L C r=C:=by unfold hhS;rw[hB];rfl
  have r2:hhE L C r=2:=by unfold hhE;rw[hB];rfl
  simp(disch:=first|assumption|omega)only[P4,seval]
  exact hq2 _ _ ⟨.int .i64 2,rfl,by rw[r2],k0.chg _,by rw[r1];exact⟨d,hd.keeps k0⟩⟩
 |true=>
  have r1:hhS L C r={C with sd:=Aec C.sd r}:=by unfold hhS;rw[hB];rfl
  have r2:hhE L C r=Aeq C.sd r:=by unfold hhE;rw[hB];rfl
  simp(disch:=first|assumption|omega|(simp only[LN]<;>omega)|(simp(disch:=first|assumption|omega|(simp only[LN]<;>omega))only[Aab,Aad];assumption))only[P4,seval,gc0,m73,g0]
  refine Aae tH ?_
  rintro _ K ⟨rfl,cK,aK⟩
  simp(disch:=first|assumption|omega)only[P4,seval]
  have cF:=((k0.chg [sb]).trans cK (by simp)).mono (T:=[c,sb]) (by simp)
  have hne:=hd.ne
  exact hq2 _ _ ⟨.int .i64 (Aeq C.sd r),rfl,by rw[r2],cF,by
   rw[r1]
   exact⟨d,hd.e,⟨n,cK.at_ gc0 (by simpa using hne),hn⟩,aK,Ar9 hd.ok hr⟩⟩
theorem t55{H:Aaa}{c sb:Nat}{u:V4}{C:Ch}(h:DhR H c sb u C):
 ∃w K,Aaq Tryz.prog 0 55 [ptr c 0] H w K/\w=.int .i64 (tkE C)/\Chg [c,sb] H K/\DhR K c sb u (tkS C):=by
 refine Aam f55 ?_
 intro Q hq1 hq2
 obtain⟨d,hd⟩:=h
 obtain⟨n,gc,hn⟩:=hd.g
 have lc:=Aaa.Bfg gc
 obtain⟨e1,e2,e3,e4,e5,e6⟩:=hd.e
 have m76:=A48 d C.s n
 rw[e6]at m76
 cases hx:C.nx with
 |none=>
  have r1:tkS C=C:=by unfold tkS;rw[hx]
  have r2:tkE C=4:=by unfold tkE;rw[hx];rfl
  simp only[hx,Option.isSome_none]at m76
  simp(disch:=first|assumption|omega)only[f55,P4,seval,gc,m76]
  exact hq2 _ _ ⟨.int .i64 4,rfl,by rw[r2],Chg.refl _ _,by rw[r1];exact⟨d,hd⟩⟩
 |some t=>
  have r1:tkS C={C with s:=t,nx:=none,tk:=true}:=by unfold tkS;rw[hx]
  have r2:tkE C=0:=by unfold tkE;rw[hx];rfl
  simp only[hx,Option.isSome_some]at m76
  have en:=hn t hx
  have mn:=A9z d C.s n
  have len:=Ac6 d C.s n
  have len2:=Ac6 d n n
  have len3:=Ac6 {d with th:=false} n n
  have sS:=Axm d C.s n n
  have s76:=Am2 d n n false
  have s75:=Asg {d with th:=false} n n true
  simp(disch:=first|assumption|omega)only[f55,P4,seval,gc,m76,mn,Aas,Aaf,len,len2,len3,sS,s76,s75]
  have cS:=Chg.set H lc (.cells true false 145 (dhl {d with th:=false,tk:=true} n n) 74)
  have hne:=hd.ne
  exact hq2 _ _ ⟨.int .i64 0,rfl,by rw[r2],cS.mono (by simp),by
   rw[r1]
   exact⟨{d with th:=false,tk:=true},⟨e1,e2,e3,e4,rfl,rfl⟩,⟨n,(Aaa.Bfe gc _).trans (by unfold dhl;rw[en]),fun t e=>by cases e⟩,hd.sd.oth cS (by simpa using fun e=>hne e.symm) hd.o2,hd.ok⟩⟩
theorem t51{H:Aaa}{c sb:Nat}{u:V4}{xs:List RV}{L:Ly}{C:Ch}{x:Inp}{z:Value}{cs:List (Int×Int)}(h:DhR H c sb u C)(hl:LyR H u xs L)(he:Aan L=0)(cy:Int)(hz:SlC H 2 z (cs.map Aer))(hcl:cs.length<=1000)(hk:∀c∈cs,0<=c.1/\c.1<256):
 ∃w K,Aaq Tryz.prog 0 51 [ptr c 0,.int .i64 cy,.agg (inl x z).toArray] H w K/\Chg [c,sb] H K/\DhR K c sb u (bgS L C cy x cs)/\∃y,w=.tuple #[.agg (rdl (bgR L C cy x cs) y).toArray,.int .i64 (bgE L C cy x cs)]/\SlC K 2 y ((bgR L C cy x cs).c.map Aer):=by
 refine Aam f51 ?_
 intro Q hq1 hq2
 obtain⟨d,hd⟩:=h
 obtain⟨n,gc,hn⟩:=hd.g
 have lc:=Aaa.Bfg gc
 obtain⟨v1,v2,v3,v4,v5,v6⟩:=hd.e
 have hL:=Aa1 (Aar he)
 have oz:=Sl.one hz.s
 have e1:inl x z=[S64 x.oc,S32 x.nr,S32 x.rv,z]:=rfl
 obtain⟨K0,hK0⟩:∃X,X=(H.alloc (.cells true false 4 [S64 x.oc,S32 x.nr,S32 x.rv,z] 46)).alloc (.cells true false 6 [.int .i64 0,.int .i64 0,.int .u64 0,.int .u32 0,.int .u32 0,.slice none 0 0] 126):=⟨_,rfl⟩
 have k0:Aac H K0:=by rw[hK0];exact((Aac.refl H).alloc _).alloc _
 have n0:K0.n=H.n+2:=by rw[hK0];rfl
 have g0:K0.get H.n=some (.cells true false 4 [S64 x.oc,S32 x.nr,S32 x.rv,z] 46):=by rw[hK0];exact((Aac.refl _).alloc _).at_ (Aaa.Bfd H _)
 have g1:K0.get (H.n+1)=some (.cells true false 6 [.int .i64 0,.int .i64 0,.int .u64 0,.int .u32 0,.int .u32 0,.slice none 0 0] 126):=by rw[hK0];exact Aaa.Bfd (H.alloc _) _
 have gc0:=k0.at_ gc
 have m74:=A46 d C.s n
 have m73:=Aj0 d C.s n
 have ml:=Asf d C.s n
 have len:=Ac6 d C.s n
 rw[v4]at m74
 rw[v2]at m73
 rw[v1]at ml
 have hB:bgB L C cy x cs=(!decide (1099511627776<cy)&&(!decide (cy<=C.fl)&&inR L.s.length L.p.length L.r.length x cs)):=rfl
 have bad:bgB L C cy x cs=false->∀{fr:List Value} {K:Aaa},Aac H K->K.get (H.n+1)=some (.cells true false 6 [.int .i64 0,.int .i64 0,.int .u64 0,.int .u32 0,.int .u32 0,.slice none 0 0] 126)->fr.getD 4 undef=ptr (H.n+1) 0->fr.getD 5 undef=.int .i64 2->Q .ret fr K:=fun e fr K k0 g1 h1 h2=>by
  have r1:bgS L C cy x cs=C:=by unfold bgS;rw[e];rfl
  have r2:bgR L C cy x cs=R0:=by unfold bgR;rw[e];rfl
  have r3:bgE L C cy x cs=2:=by unfold bgE;rw[e];rfl
  simp only[r1,r2,r3,Alu]at hq2
  exact hq2 _ _ ⟨_,Adj g1 rfl h1 h2,k0.chg _,⟨d,hd.keeps k0⟩,.slice none 0 0,rfl,Sl.nil _ _,.inl rfl⟩
 rw[e1]
 have tR:=u12 (x:=x) (cv:=z) (cs:=cs) (hl.keeps k0) hL (hz.keeps k0).s (by omega)
 have hul:u.l=[u.s,u.p,u.g,u.r]:=rfl
 simp only[hul,e1]at tR
 by_cases c1:1099511627776<cy
 ·simp(disch:=first|assumption|omega|(simp only[LN]<;>omega)|(simp(disch:=first|assumption|omega|(simp only[LN]<;>omega))only[Aab,Aad];assumption))only[f51,P4,seval,oz,O4,c1,Agp]
  rw[<-hK0]
  exact bad (by rw[hB,decide_eq_true c1];rfl) k0 g1 rfl rfl
 by_cases c2:cy<=C.fl
 ·simp(disch:=first|assumption|omega|(simp only[LN]<;>omega)|(simp(disch:=first|assumption|omega|(simp only[LN]<;>omega))only[Aab,Aad];assumption))only[f51,P4,seval,oz,O4,c1,c2,gc,m74,Agp]
  rw[<-hK0]
  exact bad (by rw[hB,decide_eq_true c2];simp) k0 g1 rfl rfl
 rw[decide_eq_false c1,decide_eq_false c2]at hB
 simp(disch:=first|assumption|omega|(simp only[LN]<;>omega)|(simp(disch:=first|assumption|omega|(simp only[LN]<;>omega))only[Aab,Aad];assumption))only[f51,P4,seval,oz,O4,c1,c2,gc,m74,ml,len]
 rw[<-hK0]
 refine Aae tR ?_
 rintro _ X ⟨rfl,hX⟩
 rw[hX]
 cases hr:inR L.s.length L.p.length L.r.length x cs with
 |false=>
  have l1:=Aaa.Bfg g1
  simp(disch:=first|assumption|omega|(simp only[LN]<;>omega)|(simp(disch:=first|assumption|omega|(simp only[LN]<;>omega))only[Aab,Aad];assumption))only[P4,seval,g1,Agp]
  exact bad (by rw[hB,hr];rfl) (k0.set (by omega) l1 _) (Aaa.Bfe g1 _) rfl rfl
 |true=>
 rw[hr]at hB
 have hB1:bgB L C cy x cs=true:=hB
 have tB:=t87 (cy:=cy) (x:=x) (hd.sd.keeps k0) (hz.keeps k0) hcl
 simp only[e1]at tB
 have hne:=hd.ne
 simp(disch:=first|assumption|omega|(simp only[LN]<;>omega)|(simp(disch:=first|assumption|omega|(simp only[LN]<;>omega))only[Aab,Aad];assumption))only[P4,seval,gc0,m73,g0,O4]
 refine Aae tB ?_
 rintro _ K ⟨cK,aK,y,rfl,hy⟩
 have gK:=cK.at_ gc0 (by simpa using hne)
 have lsb:sb<H.n:=by obtain⟨_,_,_,_,_,_,g,_⟩:=hd.sd;exact Aaa.Bfg g
 have g1K:=cK.at_ g1 (by simp;omega)
 have l1K:=Aaa.Bfg g1K
 have lK:=Aaa.Bfg gK
 have nK:=cK.n
 have oy:=Sl.one hy.s
 have o1:Ot2 K [H.n+1]:=fun b hb o r z D T e=>by
  simp only[List.mem_cons,List.not_mem_nil,or_false]at hb
  subst hb;rw[g1K]at e;cases e;decide
 have cH:=((k0.chg [sb]).trans cK (by simp)).mono (T:=[c,sb]) (by simp)
 by_cases c3:cy<=C.sd.cy
 ·have er:Ait C.sd cy x cs=R0:=by unfold Ait;rw[if_pos c3]
  have ee:Ajx C.sd cy=2:=by unfold Ajx;rw[if_pos c3]
  have es:Ai8 C.sd cy x cs=C.sd:=by unfold Ai8;rw[if_pos c3]
  rw[er]at hy
  rw[es]at aK
  rw[er,ee,Alu]
  simp(disch:=first|assumption|omega|(simp only[LN]<;>omega)|(simp(disch:=first|assumption|omega|(simp only[LN]<;>omega))only[Aab,Aad];assumption))only[P4,seval,oy,g1K,Agm]
  have r1:bgS L C cy x cs=C:=by unfold bgS;rw[hB1,if_pos rfl,if_pos c3]
  have r2:bgR L C cy x cs=R0:=by unfold bgR;rw[hB1,if_pos rfl,er]
  have r3:bgE L C cy x cs=2:=by unfold bgE;rw[hB1,if_pos rfl,ee]
  simp only[r1,r2,r3,Alu]at hq2
  have c2:=Chg.set K l1K (.cells true false 6 [.int .i64 0,.int .i64 0,.int .u64 0,.int .u32 0,.int .u32 0,y] 126)
  have kZ:=(Aac.refl (K.set (H.n+1) (.cells true false 6 [.int .i64 0,.int .i64 0,.int .u64 0,.int .u32 0,.int .u32 0,y] 126))).alloc (.cells true false 6 [.int .i64 0,.int .i64 0,.int .u64 0,.int .u32 0,.int .u32 0,y] 126)
  have gZ:=kZ.at_ ((Aaa.Bff K (show c≠H.n+1 by omega) l1K (.cells true false 6 [.int .i64 0,.int .i64 0,.int .u64 0,.int .u32 0,.int .u32 0,y] 126)).trans gK)
  exact hq2 _ _ ⟨_,Adj (p:=H.n+1) (kZ.at_ (Aaa.Bfe g1K _)) rfl rfl rfl,(cH.trans c2 (by simp)).trans (kZ.chg []) (by simp),⟨d,hd.e,⟨n,gZ,hn⟩,(aK.oth c2 (by simp;omega) o1).keeps kZ,hd.ok⟩,y,rfl,(SlC.oth hy c2 o1).keeps kZ⟩
 ·have er:Ait C.sd cy x cs=⟨C.sd.ch,cy,x,cs⟩:=by unfold Ait;rw[if_neg c3]
  have ee:Ajx C.sd cy=0:=by unfold Ajx;rw[if_neg c3]
  have erd:∀z,rdl ⟨C.sd.ch,cy,x,cs⟩ z=[.int .i64 C.sd.ch,.int .i64 cy,S64 x.oc,S32 x.nr,S32 x.rv,z]:=fun _=>rfl
  have s76:=Am2 d C.s n false
  have s75:=Asg {d with th:=false} C.s n false
  have len2:=Ac6 {d with th:=false} C.s n
  rw[er]at hy
  rw[er,ee,erd]
  simp(disch:=first|assumption|omega|(simp only[LN]<;>omega)|(simp(disch:=first|assumption|omega|(simp only[LN]<;>omega))only[Aab,Aad];assumption))only[P4,seval,oy,g1K,gK,O4,s76,s75,len,len2]
  have r1:bgS L C cy x cs={C with sd:=Ai8 C.sd cy x cs,tk:=false,nx:=none}:=by unfold bgS;rw[hB1,if_pos rfl,if_neg c3]
  have r2:bgR L C cy x cs=⟨C.sd.ch,cy,x,cs⟩:=by unfold bgR;rw[hB1,if_pos rfl,er]
  have r3:bgE L C cy x cs=0:=by unfold bgE;rw[hB1,if_pos rfl,ee]
  simp only[r1,r2,r3,erd]at hq2
  rw[Axd (by omega) lK l1K]
  obtain⟨R2,hR2⟩:∃o:AO,o=.cells true false 6 [.int .i64 C.sd.ch,.int .i64 cy,S64 x.oc,S32 x.nr,S32 x.rv,y] 126:=⟨_,rfl⟩
  rw[<-hR2]
  have c2:=Chg.set K l1K R2
  have g1Z:=Aaa.Bfe g1K R2
  have gcZ:=(Aaa.Bff K (show c≠H.n+1 by omega) l1K R2).trans gK
  have lZ:=Aaa.Bfg gcZ
  obtain⟨A2,hA2⟩:∃o:AO,o=.cells true false 145 (dhl {d with th:=false,tk:=false} C.s n) 74:=⟨_,rfl⟩
  rw[show AO.cells true false 145 (dhl _ C.s n) 74=A2 from hA2.symm]
  have c4:=Chg.set (K.set (H.n+1) R2) lZ A2
  have o4:Ot2 (K.set (H.n+1) R2) [c]:=fun b hb o r z C T e=>by
   simp only[List.mem_cons,List.not_mem_nil,or_false]at hb
   subst hb;rw[gcZ]at e;cases e;decide
  have aF:=(aK.oth c2 (by simp;omega) o1).oth c4 (by simp;omega) o4
  have kF:=(Aac.refl ((K.set (H.n+1) R2).set c A2)).alloc R2
  have cF:Chg [c,sb] H (((K.set (H.n+1) R2).set c A2).alloc R2):=((cH.trans c2 (by simp)).trans (c4.mono (T:=[c,sb]) (by simp)) (by simp)).trans (kF.chg []) (by simp)
  exact hq2 _ _ ⟨_,Adj (p:=H.n+1) (kF.at_ ((Aaa.Bff _ (show H.n+1≠c by omega) lZ A2).trans (g1Z.trans (by rw[hR2])))) rfl rfl rfl,cF,⟨{d with th:=false,tk:=false},⟨v1,v2,v3,v4,rfl,rfl⟩,⟨n,kF.at_ ((Aaa.Bfe gcZ A2).trans (by rw[hA2])),fun t e=>by cases e⟩,aF.keeps kF,Ar8 hd.ok hcl hk⟩,y,rfl,((SlC.oth hy c2 o1).oth c4 o4).keeps kF⟩
theorem t53{H:Aaa}{c sb:Nat}{u:V4}{xs:List RV}{L:Ly}{C:Ch}(h:DhR H c sb u C)(hl:LyR H u xs L)(he:Aan L=0):
 ∃w K,Aaq Tryz.prog 0 53 [ptr c 0] H w K/\w=thW L C/\Chg [c,sb] H K/\DhR K c sb u (thC L C):=by
 refine Aam f53 ?_
 intro Q hq1 hq2
 obtain⟨d,hd⟩:=h
 obtain⟨n,gc,hn⟩:=hd.g
 have lc:=Aaa.Bfg gc
 obtain⟨v1,v2,v3,v4,v5,v6⟩:=hd.e
 have m73:=Aj0 d C.s n
 have m75:=A47 d C.s n
 have m72:=Axk d C.s n
 have ml:=Asf d C.s n
 have ms:=A0y d C.s n
 have len:=Ac6 d C.s n
 rw[v2]at m73
 rw[v5]at m75
 rw[v3]at m72
 rw[v1]at ml
 obtain⟨K0,hK0⟩:∃X,X=(H.alloc (.cells true false 68 (stl Abi) 43)).alloc (.cells true false 4 [.int .i64 0,.int .i64 0,.int .u64 0,.int .u32 0] 130):=⟨_,rfl⟩
 have k0:Aac H K0:=by rw[hK0];exact((Aac.refl H).alloc _).alloc _
 have n0:K0.n=H.n+2:=by rw[hK0];rfl
 have g0:K0.get H.n=some (.cells true false 68 (stl Abi) 43):=by rw[hK0];exact((Aac.refl _).alloc _).at_ (Aaa.Bfd H _)
 have g1:K0.get (H.n+1)=some (.cells true false 4 [.int .i64 0,.int .i64 0,.int .u64 0,.int .u32 0] 130):=by rw[hK0];exact Aaa.Bfd (H.alloc _) _
 have tM:=t24 (hd.sd.keeps k0) hd.ok
 have em:∀z,inl (Aby C.sd) z=[S64 (Aby C.sd).oc,S32 (Aby C.sd).nr,S32 (Aby C.sd).rv,z]:=fun _=>rfl
 simp only[em]at tM
 simp(disch:=first|assumption|omega|(simp only[LN]<;>omega)|(simp(disch:=first|assumption|omega|(simp only[LN]<;>omega))only[Aab,Aad];assumption))only[f53,P4,seval,gc,m73,Aiv,Aas]
 rw[<-hK0]
 refine Aae tM ?_
 rintro _ K ⟨z,rfl,nc⟩
 have oz:=Sl.one nc.c.s
 have g0K:=nc.k.at_ g0
 have g1K:=nc.k.at_ g1
 have gcK:=(k0.trans nc.k).at_ gc
 have nK:=nc.k.n
 have l0K:=Aaa.Bfg g0K
 have l1K:=Aaa.Bfg g1K
 have lcK:=Aaa.Bfg gcK
 have kI:=(k0.trans nc.k).alloc (.cells true false 4 [S64 (Aby C.sd).oc,S32 (Aby C.sd).nr,S32 (Aby C.sd).rv,z] 46)
 have hno:thB C=false->thW L C=.tuple #[.agg (stl Abi).toArray,.agg (frl 0 0 [.int .u64 0,.int .u32 0]).toArray,.int .i64 4]/\thC L C=C:=fun e=>by unfold thW thC;rw[e];exact⟨rfl,rfl⟩
 have no:thB C=false->∀{fr:List Value} {Z:Aaa},Aac H Z->Z.get H.n=some (.cells true false 68 (stl Abi) 43)->Z.get (H.n+1)=some (.cells true false 4 [.int .i64 0,.int .i64 0,.int .u64 0,.int .u32 0] 130)->fr.getD 1 undef=ptr H.n 0->fr.getD 2 undef=ptr (H.n+1) 0->fr.getD 3 undef=.int .i64 4->Q .ret fr Z:=fun e fr Z kZ a b h1 h2 h3=>by
  rw[(hno e).1,(hno e).2]at hq2
  exact hq2 _ _ ⟨_,Aiu a (Aaf _) b rfl h1 h2 h3,rfl,kZ.chg _,⟨d,hd.keeps kZ⟩⟩
 have hB:thB C=(Ai9 C.sd&& !C.tk):=rfl
 have nop:thB C=false->∀{fr:List Value} (o:AO),fr.getD 1 undef=ptr H.n 0->fr.getD 2 undef=ptr (H.n+1) 0->fr.getD 3 undef=.int .i64 4->Q .ret fr (((K.set H.n (.cells true false 68 (stl Abi) 43)).set (H.n+1) (.cells true false 4 [.int .i64 0,.int .i64 0,.int .u64 0,.int .u32 0] 130)).alloc o):=fun e fr o h1 h2 h3=>by
  have l1':H.n+1<(K.set H.n (.cells true false 68 (stl Abi) 43)).n:=by rw[Ab6];exact l1K
  have g1':=(Aaa.Bff K (show H.n+1≠H.n by omega) l0K (.cells true false 68 (stl Abi) 43)).trans g1K
  have kZ:=((((k0.trans nc.k).set (Nat.le_refl _) l0K (.cells true false 68 (stl Abi) 43)).set (by omega) l1' (.cells true false 4 [.int .i64 0,.int .i64 0,.int .u64 0,.int .u32 0] 130))).alloc o
  have ka:=(Aac.refl ((K.set H.n (.cells true false 68 (stl Abi) 43)).set (H.n+1) (.cells true false 4 [.int .i64 0,.int .i64 0,.int .u64 0,.int .u32 0] 130))).alloc o
  exact no e kZ (ka.at_ ((Aaa.Bff _ (by omega) l1' _).trans (Aaa.Bfe g0K _))) (ka.at_ (Aaa.Bfe g1' _)) h1 h2 h3
 cases hb:Ai9 C.sd with
 |false=>
  simp(disch:=first|assumption|omega|(simp only[LN]<;>omega)|(simp(disch:=first|assumption|omega|(simp only[LN]<;>omega))only[Aab,Aad];assumption))only[P4,seval,oz,O4,Aiv,Aas,Aaf,Ajz,Akt,g0K,g1K,Aa8]
  exact nop (by rw[hB,hb];rfl) _ rfl rfl rfl
 |true=>
 cases ht:C.tk with
 |true=>
  rw[ht]at m75
  simp(disch:=first|assumption|omega|(simp only[LN]<;>omega)|(simp(disch:=first|assumption|omega|(simp only[LN]<;>omega))only[Aab,Aad];assumption))only[P4,seval,oz,O4,Aiv,Aas,Aaf,Ajz,Akt,g0K,g1K,Aa8,gcK,m75]
  exact nop (by rw[hB,hb,ht];rfl) _ rfl rfl rfl
 |false=>
 rw[ht]at m75
 have hBt:thB C=true:=by rw[hB,hb,ht];rfl
 have e1:thW L C=.tuple #[.agg (stl (thS L C)).toArray,.agg (frl C.sd.cy C.ep (otl L (Aby C.sd) (thS L C))).toArray,.int .i64 0]:=by unfold thW;rw[hBt];rfl
 have e2:thC L C={C with nx:=some (thS L C)}:=by unfold thC;rw[hBt];rfl
 rw[e1,e2]at hq1 hq2
 have mo:=Am1 hd.ok
 have tS:=t89 (s:=C.s) (x:=Aby C.sd) (cv:=z) (hl.keeps kI) he (nc.c.keeps ((Aac.refl K).alloc _)).s (by omega)
 have hul:u.l=[u.s,u.p,u.g,u.r]:=rfl
 simp only[em,hul]at tS
 simp(disch:=first|assumption|omega|(simp only[LN]<;>omega)|(simp(disch:=first|assumption|omega|(simp only[LN]<;>omega))only[Aab,Aad];assumption))only[P4,seval,oz,O4,gcK,m75,ml,ms,len]
 refine Aae tS ?_
 rintro _ X ⟨rfl,hX⟩
 rw[hX]
 obtain⟨T,hT⟩:∃T,T=thS L C:=⟨_,rfl⟩
 rw[show Acj L C.s (Aby C.sd) (Aja C.sd)=T from hT.symm]
 rw[<-hT]at hq1 hq2
 have ef:∀a b,frl a b (otl L (Aby C.sd) T)=[.int .i64 a,.int .i64 b,S64 fun i=>decide (i<L.r.length)&&Ad3 L (Aby C.sd) T i,S32 T.po]:=fun _ _=>rfl
 rw[ef]at hq1 hq2
 have s76:=Am2 d C.s n true
 have sN:=A49 {d with th:=true} C.s n T
 have len1:=Ac6 {d with th:=true} C.s n
 have lsb:sb<H.n:=by obtain⟨_,_,_,_,_,_,g,_⟩:=hd.sd;exact Aaa.Bfg g
 obtain⟨v',hv'⟩:∃v':Dhv,v'={d with th:=true}:=⟨_,rfl⟩
 rw[<-hv']at s76 sN len1
 have p73:(dhl v' C.s T)[73]? =some (ptr sb 0):=by rw[Aj0,hv'];exact congrArg (fun n=>some (ptr n 0)) v2
 have p72:(dhl v' C.s T)[72]? =some (.int .i64 C.ep):=by rw[Axk,hv'];exact congrArg (fun n=>some (Value.int .i64 n)) v3
 have hne:=hd.ne
 have cS:=Chg.set K lcK (.cells true false 145 (dhl v' C.s T) 74)
 have o1:Ot2 K [c]:=fun b hb o r z D T e=>by
  simp only[List.mem_cons,List.not_mem_nil,or_false]at hb
  subst hb;rw[gcK]at e;cases e;decide
 have aK:=(hd.sd.keeps (k0.trans nc.k)).oth cS (by simpa using fun e=>hne e.symm) o1
 obtain⟨_,_,_,_,_,_,gaK,_⟩:=hd.sd.keeps (k0.trans nc.k)
 unfold agl at gaK
 have lsK:=Aaa.Bfg gaK
 have hsc:sb≠c:=fun e=>hne e.symm
 simp(disch:=first|assumption|omega|(simp only[LN]<;>omega)|(simp(disch:=first|assumption|omega|(simp only[LN]<;>omega))only[Aab,Aad];assumption))only[P4,seval,Aiv,Aas,Aaf,Aa6,Aa8,gcK,O4,s76,sN,len,len1,p73,p72,gaK,hsc,lsK,Axf,g0K,g1K,lcK]
 obtain⟨F,hF⟩:∃F:AO,F=.cells true false 4 [.int .i64 C.sd.cy,.int .i64 C.ep,S64 fun i=>decide (i<L.r.length)&&Ad3 L (Aby C.sd) T i,S32 T.po] 130:=⟨_,rfl⟩
 obtain⟨K1,hK1⟩:∃X,X=K.set c (.cells true false 145 (dhl v' C.s T) 74):=⟨_,rfl⟩
 rw[<-hF,<-hK1]
 rw[<-hK1]at cS aK
 have n1:K1.n=K.n:=by rw[hK1];exact Ab6 ..
 have gc1:K1.get c=some (.cells true false 145 (dhl v' C.s T) 74):=by rw[hK1];exact Aaa.Bfe gcK _
 have g01:K1.get H.n=some (.cells true false 68 (stl Abi) 43):=by rw[hK1];exact(Aaa.Bff K (show H.n≠c by omega) lcK _).trans g0K
 have g11:K1.get (H.n+1)=some (.cells true false 4 [.int .i64 0,.int .i64 0,.int .u64 0,.int .u32 0] 130):=by rw[hK1];exact(Aaa.Bff K (show H.n+1≠c by omega) lcK _).trans g1K
 have l01:=Aaa.Bfg g01
 have l11:=Aaa.Bfg g11
 have c1:=(Chg.set K1 l01 (.cells true false 68 (stl T) 43)).mono (T:=[H.n,H.n+1]) (by simp)
 have l11':H.n+1<(K1.set H.n (.cells true false 68 (stl T) 43)).n:=by rw[Ab6];exact l11
 have c2:=c1.trans ((Chg.set _ l11' F).mono (T:=[H.n,H.n+1]) (by simp)) (by simp)
 have o2:Ot2 K1 [H.n,H.n+1]:=fun b hb o r z D T' e=>by
  simp only[List.mem_cons,List.not_mem_nil,or_false]at hb
  rcases hb with rfl|rfl
  ·rw[g01]at e;cases e;decide
  ·rw[g11]at e;cases e;decide
 obtain⟨K2,hK2⟩:∃X,X=(K1.set H.n (.cells true false 68 (stl T) 43)).set (H.n+1) F:=⟨_,rfl⟩
 rw[<-hK2]
 rw[<-hK2]at c2
 have gS:K2.get H.n=some (.cells true false 68 (stl T) 43):=by rw[hK2];exact(Aaa.Bff _ (show H.n≠H.n+1 by omega) l11' F).trans (Aaa.Bfe g01 _)
 have gF:K2.get (H.n+1)=some F:=by rw[hK2];exact Aaa.Bfe ((Aaa.Bff K1 (show H.n+1≠H.n by omega) l01 _).trans g11) F
 have gC:=c2.at_ gc1 (by simp;omega)
 have a2:=aK.oth c2 (by simp;omega) o2
 have kF:=(((Aac.refl K2).alloc (.cells true false 4 [S64 (Aby C.sd).oc,S32 (Aby C.sd).nr,S32 (Aby C.sd).rv,z] 46)).alloc (.cells true false 68 (stl T) 43)).alloc (.cells true false 2 [S64 fun i=>decide (i<L.r.length)&&Ad3 L (Aby C.sd) T i,S32 T.po] 54)
 have cF:=((((k0.trans nc.k).chg [c,sb]).trans (cS.mono (T:=[c,sb]) (by simp)) (by simp)).trans c2 (fun x hx=>by simp only[List.mem_cons,List.not_mem_nil,or_false]at hx;right;omega)).trans (kF.chg []) (by simp)
 exact⟨by simp,hq2 _ _ ⟨_,Aiu (kF.at_ gS) (Aaf _) (kF.at_ (gF.trans (by rw[hF]))) rfl rfl rfl rfl,rfl,cF,⟨v',⟨by rw[hv'];exact v1,by rw[hv'];exact v2,by rw[hv'];exact v3,by rw[hv'];exact v4,by rw[hv'];exact v5,by rw[hv'];rfl⟩,⟨T,kF.at_ gC,fun t e=>by cases e;rfl⟩,a2.keeps kF,hd.ok⟩⟩⟩
theorem A2c(K:Aaa)(neg:Bool)(f g:Nat->Bool):Aak (.eqs [1,1] neg (.agg #[S64 f,S32 g]) (.agg #[S64 f,S32 g])) K=some (.bool (if neg then false else true),K):=by
 simp[Aak,Ae6,eqC,S64,S32]
theorem Afy(s:Sta):Atz s s=true:=by unfold Atz;simp
end Go.AM.Fd
namespace Go.AM.F
def Bd8:List Value:=[(.string ByteArray.empty),(.int .i64 0),(.slice none 0 0),(.slice none 0 0),(.slice none 0 0),(.slice none 0 0),(.string ByteArray.empty),(.int .i64 0),(.slice none 0 0),(.slice none 0 0),(.slice none 0 0),(.slice none 0 0),(.string ByteArray.empty),(.int .i64 0),(.slice none 0 0),(.slice none 0 0),(.slice none 0 0),(.slice none 0 0),(.string ByteArray.empty),(.int .i64 0),(.slice none 0 0),(.slice none 0 0),(.slice none 0 0),(.slice none 0 0),(.string ByteArray.empty),(.int .i64 0),(.slice none 0 0),(.slice none 0 0),(.slice none 0 0),(.slice none 0 0)]
def Bd9:TypeId->List Value
 |27=>[(.slice none 0 0),(.slice none 0 0),(.slice none 0 0),(.slice none 0 0)]
 |89=>[(.string ByteArray.empty),(.int .i64 0)]
 |90=>[(.string ByteArray.empty),(.int .i64 0)]
 |120=>[(.int .i64 0),(.bool false)]
 |87=>[(.string ByteArray.empty),(.int .i64 0),(.slice none 0 0),(.slice none 0 0),(.slice none 0 0),(.slice none 0 0)]
 |_=>[]
def Bea:TypeId->Value
 |_=>undef
def Beb:TypeId->List Nat
 |_=>[]
def Bec:Nat->TypeId->List Value
 |1,3=>[(.int .i64 0)]
 |6,9=>[(.string ByteArray.empty),(.string ByteArray.empty),(.string ByteArray.empty),(.string ByteArray.empty),(.string ByteArray.empty),(.string ByteArray.empty)]
 |2,89=>[(.string ByteArray.empty),(.int .i64 0),(.string ByteArray.empty),(.int .i64 0)]
 |3,90=>[(.string ByteArray.empty),(.int .i64 0),(.string ByteArray.empty),(.int .i64 0),(.string ByteArray.empty),(.int .i64 0)]
 |2,3=>[(.int .i64 0),(.int .i64 0)]
 |2,120=>[(.int .i64 0),(.bool false),(.int .i64 0),(.bool false)]
 |1,120=>[(.int .i64 0),(.bool false)]
 |5,87=>Bd8
 |_,_=>[]
structure QzL (sl:List Nat) (n:Nat) where
 p:CzV sl n:=by
  refine(fun(_:Cz Bd9 Bea Beb Bec Go.Proofs.Tryz.prog 0 ?sl ?n ?a)=>(CzV.mk ?a:CzV ?sl ?n)) ?h
  case h=>
  intro zc zv zk zr hc hv hk hr
  conv=>lhs;cbv;try simp only[hc,hv,hk,hr,Bd9,Bea,Beb,Bec]
noncomputable def f86:=({}:QzL [0,1,4,5,6,10,18] 86).p.a
noncomputable def f84:=({}:QzL [0,2,3,4,8] 84).p.a
noncomputable def f48:=({}:QzL [0,1,2,3,4,5,6,7,8,9,10,31,35,44,48,57,62,92] 48).p.a
noncomputable def f20:=({}:QzL [0,1,2,3,4,7,12,22] 20).p.a
noncomputable def f27:=({}:QzL [0] 27).p.a
end Go.AM.F
namespace Go.AM.Fd
open Nat (reduceAdd reduceEqDiff reduceLT reduceLeDiff reduceMul reduceSub)
open Go.Proofs Go.AM.F
theorem Bbf{H:Aaa}{u:V4}{xs:List RV}{L:Ly}(h:LyR H u xs L)(hf:Ah5 9223372036854775807 L):∃w H',Aaq Tryz.prog 0 47 [.agg u.l.toArray] H w H'/\w=.bool (Aew L)/\H'=H:=by
 cases hfl:Agd L with
 |false=>exact t47 h (hf.fit2 (Ak0 hfl))
 |true=>
 refine gcb ?_
 refine Aam f47 ?_
 intro Q hq1 hq2
 rw[Aom hfl]at hq1 hq2
 have os:=Sl.one h.s
 have op:=Sl.one h.p
 have og:=Sl.one h.g
 have or:=Sl.one h.r
 have hfu:=t77 (h.keeps ((Aac.refl H).alloc (.cells true false 4 u.l 27)))
 obtain⟨us,up,ug,ur⟩:=u
 simp only[V4.l]at*
 simp(disch:=first|assumption|omega|(simp only[LN]<;>omega)|(simp(disch:=first|assumption|omega|(simp only[LN]<;>omega))only[Aab,Aad];assumption))only[f47,P4,seval,os,op,og,or]
 refine Aae hfu ?_
 rintro _ X ⟨rfl,hX⟩
 rw[hX,hfl]
 simp(disch:=first|assumption|omega)only[P4,seval]
 exact hq2 _ _ ⟨_,rfl,rfl,(Aac.refl H).alloc _⟩
theorem t86{H:Aaa}{v:Value}{l:List Int}(h:IL H v l)(hl:l.length<=1000000)(n:Int):
 ∃w H',Aaq Tryz.prog 0 86 [v,.int .i64 n] H w H'/\w=.int .i64 ((l.count n:Nat):Int)/\H'=H:=by
 refine Aam f86 ?_
 intro Q hq1 hq2
 have is:=Sl.is h
 have len:=h.len
 simp(disch:=first|assumption|omega)only[f86,P3,seval,Aah,Aao]
 rw[Aag]
 refine Aal (fun q fr X=>∃i x5 x6,fr=[v,.int .i64 n,.int .i64 0,.int .i64 (((l.take i).count n:Nat):Int),.int .i64 ((i:Nat):Int),x5,x6]/\H=X/\i<=l.length/\q=l.length-i) l.length
  ⟨0,_,_,by simp;exact⟨rfl,rfl⟩,rfl,by omega,rfl⟩ ?_
 rintro Q' q fr X ⟨i,x5,x6,rfl,rfl,hi,rfl⟩ hn' hx' hret
 by_cases hlt:i<l.length
 ·obtain⟨na,ra⟩:=h.at_ hlt
  have e0:(0:Int)<=(i:Int):=by omega
  have e1:(i:Int)<((l.length:Nat):Int):=by omega
  have hw:=wrS (i:=i) (by omega)
  have hgd:l.getD i 0=l[i]:=by rw[List.getD_eq_getElem?_getD,List.getElem?_eq_getElem hlt];rfl
  have hc:(l.take (i+1)).count n=(l.take i).count n+if(l[i]==n)=true then 1 else 0:=by
   rw[List.take_add_one,List.getElem?_eq_getElem hlt,List.count_append];simp[List.count_cons]
  have hcl:(l.take i).count n<=i:=Nat.le_trans List.count_le_length (by rw[List.length_take];omega)
  have hw2:IntKind.i64.wrap ((((l.take i).count n:Nat):Int)+1)=(((l.take i).count n+1:Nat):Int):=by rw[Aa5 (by omega) (by omega)];simp
  rw[hgd]at ra
  generalize l[i]=z at*
  cases hz:(z==n)with
  |true=>
   rw[hz]at hc
   simp(disch:=first|assumption|omega)only[P4,seval,is,len,e0,e1,na,ra,Aaj,hz,hw,hw2]
   exact hn' _ _ _ ⟨i+1,_,_,by rw[hc];exact rfl,rfl,by omega,rfl⟩ (by omega)
  |false=>
   rw[hz]at hc
   simp(disch:=first|assumption|omega)only[P4,seval,is,len,e0,e1,na,ra,Aaj,hz,hw]
   exact hn' _ _ _ ⟨i+1,_,_,by rw[hc];exact rfl,rfl,by omega,rfl⟩ (by omega)
 ·have e1:¬(i:Int)<((l.length:Nat):Int):=by omega
  have hie:i=l.length:=by omega
  subst hie
  simp(disch:=first|assumption|omega)only[P4,seval,is,len,e1]
  refine hx' _ _ _ ?_
  simp(disch:=first|assumption|omega)only[P4,seval]
  exact hq2 _ _ ⟨.int .i64 _,rfl,by rw[List.take_length],rfl⟩
theorem t84{H:Aaa}{v:Value}{l:List (Int×Bool)}(h:NL H v l)(hl:l.length<=1000000):
 ∃w H',Aaq Tryz.prog 0 84 [v] H w H'/\OW 3 1 H H' w ((l.map (·.1)).map Ag1):=by
 refine Aam f84 ?_
 intro Q hq1 hq2
 have is:=Sl.is h
 have len:=h.len
 simp(disch:=first|assumption|omega)only[f84,P3,seval,Aah,Aao]
 rw[Aag]
 refine Aal (fun q fr X=>∃i w x4,fr=[v,.slice none 0 0,w,.int .i64 ((i:Nat):Int),x4]/\OW 3 1 H X w (((l.take i).map (·.1)).map Ag1)/\i<=l.length/\q=l.length-i) l.length
  ⟨0,_,_,rfl,OW.nil _ _ (Aac.refl H),by omega,rfl⟩ ?_
 rintro Q' q fr X ⟨i,w,x4,rfl,ow,hi,rfl⟩ hn' hx' hret
 by_cases hlt:i<l.length
 ·have hX:NL X v l:=Sl.keeps h ow.k
  obtain⟨na,ra⟩:=hX.at_ hlt
  have e0:(0:Int)<=(i:Int):=by omega
  have e1:(i:Int)<((l.length:Nat):Int):=by omega
  have hw:=wrS (i:=i) (by omega)
  have hgd:l.getD i (0,false)=l[i]:=by rw[List.getD_eq_getElem?_getD,List.getElem?_eq_getElem hlt];rfl
  have htk:l.take (i+1)=l.take i++[l[i]]:=by rw[List.take_add_one,List.getElem?_eq_getElem hlt];rfl
  have isw:=ow.is
  rw[hgd]at ra
  generalize l[i]=z at*
  simp(disch:=first|assumption|omega)only[P4,seval,is,len,e0,e1,na,ra,Aaj,isw]
  refine OW.appR (ow.keeps ((Aac.refl X).alloc _)) (Sl.one1 (row:=[.int .i64 z.1]) rfl rfl) (by simp;omega) ?_
  intro v' K' ow' c'
  simp(disch:=first|assumption|omega)only[P4,seval,hw]
  exact hn' _ _ _ ⟨i+1,v',_,rfl,by rw[htk,List.map_append,List.map_append];exact ow',by omega,rfl⟩ (by omega)
 ·have e1:¬(i:Int)<((l.length:Nat):Int):=by omega
  have hie:i=l.length:=by omega
  subst hie
  rw[List.take_length]at ow
  simp(disch:=first|assumption|omega)only[P4,seval,is,len,e1]
  refine hx' _ _ _ ?_
  simp(disch:=first|assumption|omega)only[P4,seval]
  exact hq2 _ _ ⟨_,rfl,ow⟩
theorem Ai7{l:List Int}{n:Int}:decide ((0:Int)<((l.count n:Nat):Int))=l.contains n:=by
 rw[Bool.eq_iff_iff,decide_eq_true_eq,List.contains_iff_mem]
 constructor
 ·intro h;exact List.count_pos_iff.1 (by omega)
 ·intro h;have:=List.count_pos_iff.2 h;omega
theorem Ayy{l:List Int}{i:Nat}(hi:i<l.length)(h:(1:Int)<((l.count l[i]:Nat):Int)):decide l.Nodup=false:=by
 rw[decide_eq_false_iff_not]
 intro hn
 have:=List.nodup_iff_count.1 hn l[i]
 omega
theorem Aoy{l:List Int}(h:∀i (hi:i<l.length),¬(1:Int)<((l.count l[i]:Nat):Int)):decide l.Nodup=true:=by
 rw[decide_eq_true_eq,List.nodup_iff_count]
 intro a
 by_cases ha:a∈l
 ·obtain⟨i,hi,rfl⟩:=List.mem_iff_getElem.1 ha
  have:=h i hi;omega
 ·have:=List.count_eq_zero_of_not_mem ha;omega
theorem Anj(l:List (Int×Bool))(n:Int):(l.map (·.1)).contains n=l.any (fun x=>x.1==n):=by
 rw[Bool.eq_iff_iff,List.contains_iff_mem,List.mem_map,List.any_eq_true]
 constructor
 ·rintro⟨z,hz,rfl⟩;exact⟨z,hz,by simp⟩
 ·rintro⟨z,hz,h⟩;exact⟨z,hz,by simpa using h⟩
theorem t48{H:Aaa}{u:V4}{xs:List RV}{L:Ly}{y:RV}(h:LyR H u xs L)(hy:y.ok H)(hr:Ahw L y.r)(hL:Ahf L):
 ∃w H',Aaq Tryz.prog 0 48 [.agg u.l.toArray,.agg y.row.toArray] H w H'/\w=.bool (Abo L y.r)/\H'=H:=by
 refine gcb ?_
 refine Aam f48 ?_
 intro Q hq1 hq2
 have os:=Sl.one h.s
 have op:=Sl.one h.p
 have og:=Sl.one h.g
 have or:=Sl.one h.r
 have ig:=Sl.is h.g
 have ip:=Sl.is h.p
 have lg:=h.g.len
 have lp:=h.p.len
 have hLp:=hL.p
 obtain⟨a3,a4,a5,a6⟩:=RV.ones hy
 have a1:one1 (Value.int .i64 y.r.g)=True:=by simp[one1,Aav]
 have a2:one1 (Value.string ⟨y.r.n.toArray⟩)=True:=by simp[one1,Abc]
 have hul:u.l=[u.s,u.p,u.g,u.r]:=rfl
 have rowy:y.row=[.string ⟨y.r.n.toArray⟩,.int .i64 y.r.g,y.vp,y.vq,y.vo,y.vf]:=rfl
 have lP:=hr.p
 have lO:=hr.o
 have lQ:=hr.q
 have lF:=hr.f
 obtain⟨K0,hK0⟩:∃X,X=(H.alloc (.cells true false 4 [u.s,u.p,u.g,u.r] 27)).alloc (.cells true false 6 y.row 87):=⟨_,rfl⟩
 have k0:Aac H K0:=by rw[hK0];exact((Aac.refl H).alloc _).alloc _
 have gl0:K0.get H.n=some (.cells true false 4 [u.s,u.p,u.g,u.r] 27):=by rw[hK0];exact((Aac.refl _).alloc _).at_ (Aaa.Bfd H _)
 have gy0:K0.get (H.n+1)=some (.cells true false 6 y.row 87):=by rw[hK0];exact Aaa.Bfd (H.alloc _) _
 have hy0:=hy.keeps k0
 have tT:=t83 hy0 (by omega)
 simp only[rowy]at tT hK0 gy0
 rw[hul,rowy]
 simp(disch:=first|assumption|omega|(simp only[LN]<;>omega)|(simp(disch:=first|assumption|omega|(simp only[LN]<;>omega))only[Aab,Aad];assumption))only[f48,P4,seval,os,op,og,or,a1,a2,a3,a4,a5,a6]
 simp only[<-hK0]
 refine Aae tT ?_
 rintro tv K1 ⟨ht,k1,ft⟩
 have gl1:=k1.at_ gl0
 have gy1:=k1.at_ gy0
 have tN:=t85 (hy0.keeps k1) (by omega)
 simp only[rowy]at tN
 simp(disch:=first|assumption|omega|(simp only[LN]<;>omega)|(simp(disch:=first|assumption|omega|(simp only[LN]<;>omega))only[Aab,Aad];assumption))only[P4,seval,gy1]
 refine Aae tN ?_
 rintro nv K2 ⟨hn,k2,fn⟩
 have ndl:(nds y.r).length<=32:=by simp[nds];omega
 have trl:(trk y.r).length<=1000000:=by simp[trk];omega
 simp(disch:=first|assumption|omega)only[P4,seval]
 refine Aae (t84 hn (by omega)) ?_
 rintro pv K3 op3
 have k3:=op3.k
 have k03:=((k0.trans k1).trans k2).trans k3
 have gl3:=(k2.trans k3).at_ gl1
 have gy3:=(k2.trans k3).at_ gy1
 have ht3:IL K3 tv (trk y.r):=Sl.keeps ht (k2.trans k3)
 have hp3:IL K3 pv ((nds y.r).map (·.1)):=op3.sl
 have hy3:=hy.keeps k03
 have iy:=Sl.is hy.p
 have ly:=hy.p.len
 have hfd:Abo L y.r=(!Aps L y.r&&(List.range L.p.length).all (ptB L y.r)):=rfl
 have hbd:Aps L y.r=(y.r.path.isEmpty|| !decide (trk y.r).Nodup||(trk y.r).contains (L.g.getD y.r.g.toNat ([],0)).2 || !decide ((nds y.r).map (·.1)).Nodup):=rfl
 have no:∀{fr:List Value} {K:Aaa},Aac H K->Aps L y.r=true->Ack f48.res fr K=some (.bool false)->Q .ret fr K:=fun k e hr'=>
  hq2 _ _ ⟨_,hr',by rw[hfd,e];rfl,k⟩
 by_cases hpe:y.r.path.length=0
 ·have hp0:((y.r.path.length:Nat):Int)=0:=by omega
  have hemp:y.r.path.isEmpty=true:=by rw[List.isEmpty_iff_length_eq_zero];exact hpe
  simp(disch:=first|assumption|omega)only[P4,seval,gy3,iy,ly,hp0]
  exact no k03 (by rw[hbd,hemp];rfl) rfl
 have hp0:(((y.r.path.length:Nat):Int)==0)=false:=by simp[hpe]
 have hemp:y.r.path.isEmpty=false:=by
  cases e:y.r.path with
  |nil=>rw[e]at hpe;simp at hpe
  |cons a l=>rfl
 rw[hemp,Bool.false_or]at hbd
 obtain⟨n,hn'⟩:∃n:Nat,y.r.g=(n:Int):=⟨y.r.g.toNat,by have:=hr.g.1;omega⟩
 have hnl:n<L.g.length:=by have:=hr.g.2;omega
 obtain⟨nag,rag⟩:=(h.g.keeps k03).at_ hnl
 have g0:(0:Int)<=(n:Int):=by omega
 have g1:(n:Int)<((L.g.length:Nat):Int):=by omega
 have hnt:Int.toNat (n:Int)=n:=by omega
 rw[hn',hnt]at hbd
 simp(disch:=first|assumption|omega)only[P4,seval,gy3,gl3,iy,ly,hp0,hn',g0,g1,ig,lg,nag,rag,Aaj]
 refine Aat (t86 ht3 trl _) ?_
 have hcn:=Ai7 (l:=trk y.r) (n:=(L.g.getD n ([],0)).2)
 by_cases hc:(0:Int)<(((trk y.r).count (L.g.getD n ([],0)).2 :Nat):Int)
 ·rw[decide_eq_true hc]at hcn
  simp(disch:=first|assumption|omega)only[P4,seval,hc]
  exact no k03 (by rw[hbd,<-hcn];simp) rfl
 rw[decide_eq_false hc]at hcn
 rw[<-hcn,Bool.or_false]at hbd
 have it:=Sl.is ht3
 have lt:=ht3.len
 have isp:=Sl.is hp3
 have lpn:=hp3.len
 obtain⟨A1,hA1⟩:∃v:Value,v=.agg #[u.s,u.p,u.g,u.r]:=⟨_,rfl⟩
 obtain⟨A2,hA2⟩:∃v:Value,v=.agg #[.string ⟨y.r.n.toArray⟩,.int .i64 (n:Int),y.vp,y.vq,y.vo,y.vf]:=⟨_,rfl⟩
 have trk':trk y.r=y.r.path++y.r.ov:=rfl
 simp(disch:=first|assumption|omega)only[P3,seval,Aah,Aao,hc]
 rw[Aag,<-hA1,<-hA2]
 refine Aal (fun q fr X=>∃i x12 x13,fr=[A1,A2,ptr H.n 0,ptr (H.n+1) 0,.bool false,tv,pv,.int .i64 ((i:Nat):Int),undef,undef,undef,.bool false,x12,x13,undef,undef,undef,undef]/\K3=X∧
  (∀j (hj:j<(trk y.r).length),j<i->¬(1:Int)<(((trk y.r).count (trk y.r)[j]:Nat):Int))/\i<=(trk y.r).length/\q=(trk y.r).length - i) (trk y.r).length
  ⟨0,_,_,rfl,rfl,fun j _ hj=>by omega,by omega,rfl⟩ ?_
 rintro Q1 q fr X ⟨i,x12,x13,rfl,rfl,hall,hi,rfl⟩ hn1 hx1 hret1
 by_cases hlt:i<(trk y.r).length
 ·obtain⟨na,ra⟩:=ht3.at_ hlt
  have e0:(0:Int)<=(i:Int):=by omega
  have e1:(i:Int)<(((trk y.r).length:Nat):Int):=by omega
  have hw:=wrS (i:=i) (by omega)
  have hgd:(trk y.r).getD i 0=(trk y.r)[i]:=by rw[List.getD_eq_getElem?_getD,List.getElem?_eq_getElem hlt];rfl
  rw[hgd]at ra
  simp(disch:=first|assumption|omega)only[P4,seval,it,lt,e0,e1,na,ra,Aaj]
  refine Aat (t86 ht3 trl _) ?_
  by_cases hc1:(1:Int)<(((trk y.r).count (trk y.r)[i]:Nat):Int)
  ·simp(disch:=first|assumption|omega)only[P4,seval,hc1]
   refine hret1 _ _ ?_
   exact no k03 (by rw[hbd,Ayy hlt hc1];rfl) rfl
  ·simp(disch:=first|assumption|omega)only[P4,seval,hc1,hw]
   exact hn1 _ _ _ ⟨i+1,_,_,rfl,rfl,fun j hj hji=>by
    rcases Nat.lt_or_ge j i with h5|h5
    ·exact hall j hj h5
    ·have:j=i:=by omega
     subst this;exact hc1,by omega,rfl⟩ (by omega)
 have e1:¬(i:Int)<(((trk y.r).length:Nat):Int):=by omega
 have hnd:decide (trk y.r).Nodup=true:=Aoy fun j hj=>hall j hj (by omega)
 rw[hnd,Bool.not_true,Bool.false_or]at hbd
 simp(disch:=first|assumption|omega)only[P4,seval,it,lt,e1]
 refine hx1 _ _ _ ?_
 simp(disch:=first|assumption|omega)only[P3,seval,Aah,Aao]
 rw[Aag]
 obtain⟨pl,hpl⟩:∃pl,pl=(nds y.r).map (·.1):=⟨_,rfl⟩
 rw[<-hpl]at hp3 hbd lpn
 have pll:pl.length<=1000000:=by rw[hpl,List.length_map];omega
 refine Aal (fun q fr X=>∃j x14 x15,fr=[A1,A2,ptr H.n 0,ptr (H.n+1) 0,.bool false,tv,pv,.int .i64 ((i:Nat):Int),.int .i64 ((j:Nat):Int),undef,undef,.bool false,.bool false,x13,x14,x15,undef,undef]/\K3=X∧
  (∀k (hk:k<pl.length),k<j->¬(1:Int)<((pl.count pl[k]:Nat):Int))/\j<=pl.length/\q=pl.length-j) pl.length
  ⟨0,_,_,rfl,rfl,fun j _ hj=>by omega,by omega,rfl⟩ ?_
 rintro Q2 q fr X ⟨j,x14,x15,rfl,rfl,hall2,hj,rfl⟩ hn2 hx2 hret2
 by_cases hlt2:j<pl.length
 ·obtain⟨na,ra⟩:=hp3.at_ hlt2
  have e0:(0:Int)<=(j:Int):=by omega
  have e2:(j:Int)<((pl.length:Nat):Int):=by omega
  have hw:=wrS (i:=j) (by omega)
  have hgd:pl.getD j 0=pl[j]:=by rw[List.getD_eq_getElem?_getD,List.getElem?_eq_getElem hlt2];rfl
  rw[hgd]at ra
  simp(disch:=first|assumption|omega)only[P4,seval,isp,lpn,e0,e2,na,ra,Aaj]
  refine Aat (t86 hp3 pll _) ?_
  by_cases hc1:(1:Int)<((pl.count pl[j]:Nat):Int)
  ·simp(disch:=first|assumption|omega)only[P4,seval,hc1]
   refine hret2 _ _ ?_
   exact no k03 (by rw[hbd,Ayy hlt2 hc1];rfl) rfl
  ·simp(disch:=first|assumption|omega)only[P4,seval,hc1,hw]
   exact hn2 _ _ _ ⟨j+1,_,_,rfl,rfl,fun k hk hkj=>by
    rcases Nat.lt_or_ge k j with h5|h5
    ·exact hall2 k hk h5
    ·have:k=j:=by omega
     subst this;exact hc1,by omega,rfl⟩ (by omega)
 have e2:¬(j:Int)<((pl.length:Nat):Int):=by omega
 have hnd2:decide pl.Nodup=true:=Aoy fun k hk=>hall2 k hk (by omega)
 rw[hnd2]at hbd
 have hfd2:Abo L y.r=(List.range L.p.length).all (ptB L y.r):=by rw[hfd,hbd];rfl
 simp(disch:=first|assumption|omega)only[P4,seval,isp,lpn,e2]
 refine hx2 _ _ _ ?_
 simp(disch:=first|assumption|omega)only[P3,seval,Aah,Aao]
 rw[Aag]
 refine Aal (fun q fr X=>∃k x10 x16 x17,fr=[A1,A2,ptr H.n 0,ptr (H.n+1) 0,.bool false,tv,pv,.int .i64 ((i:Nat):Int),.int .i64 ((j:Nat):Int),.int .i64 ((k:Nat):Int),x10,.bool false,.bool false,x13,.bool false,x15,x16,x17]/\Aac K3 X∧
  (List.range k).all (ptB L y.r)=true/\k<=L.p.length/\q=L.p.length-k) L.p.length
  ⟨0,_,_,_,rfl,Aac.refl _,rfl,by omega,rfl⟩ ?_
 rintro Q3 q fr X ⟨k,x10,x16,x17,rfl,kX,hall3,hk,rfl⟩ hn3 hx3 hret3
 have glX:=kX.at_ gl3
 have gyX:=kX.at_ gy3
 by_cases hlt3:k<L.p.length
 ·obtain⟨np,rp⟩:=(h.p.keeps (k03.trans kX)).at_ hlt3
  have e0:(0:Int)<=(k:Int):=by omega
  have e3:(k:Int)<((L.p.length:Nat):Int):=by omega
  have hw:=wrS (i:=k) (by omega)
  have hpt:ptB L y.r k=(((trk y.r).contains (L.p.getD k ([],0)).2 ==y.r.pts.any (fun x=>x.1==(k:Int)))&& !((trk y.r).contains (L.p.getD k ([],0)).2 &&y.r.fl.any (fun x=>x.1==(k:Int)))):=rfl
  have snoc:=fun e=>Afx (p:=ptB L y.r) hall3 e
  have bad:=fun e=>Al6 (p:=ptB L y.r) hlt3 e
  generalize L.p.getD k ([],0)=z at*
  simp(disch:=first|assumption|omega)only[P4,seval,glX,ip,lp,e0,e3,np,rp,Aaj]
  refine Aat (t86 (ht3.keeps kX) trl _) ?_
  have hq3:NL X y.vq y.r.pts:=(hy.keeps (k03.trans kX)).q
  have hf3:NL X y.vf y.r.fl:=(hy.keeps (k03.trans kX)).f
  have c1:=Ai7 (l:=trk y.r) (n:=z.2)
  have go:∀(b1:Bool),decide ((0:Int)<(((trk y.r).count z.2:Nat):Int))=b1->(trk y.r).contains z.2=b1:=fun b1 e=>by rw[<-c1,e]
  by_cases hin:(0:Int)<(((trk y.r).count z.2:Nat):Int)
  ·have hin':=go true (decide_eq_true hin)
   rw[hin']at hpt
   simp(disch:=first|assumption|omega)only[P4,seval,hin,gyX]
   refine Aae (t84 hq3 (by omega)) ?_
   rintro qv X1 oq
   have c2:=Ai7 (l:=y.r.pts.map (·.1)) (n:=(k:Int))
   rw[Anj]at c2
   simp(disch:=first|assumption|omega)only[P4,seval]
   refine Aat (t86 oq.sl (by rw[List.length_map];omega) _) ?_
   by_cases hp2:(0:Int)<(((y.r.pts.map (·.1)).count (k:Int):Nat):Int)
   ·rw[decide_eq_true hp2]at c2
    rw[<-c2]at hpt
    have gyX1:=oq.k.at_ gyX
    have hf4:NL X1 y.vf y.r.fl:=Sl.keeps hf3 oq.k
    simp(disch:=first|assumption|omega)only[P4,seval,hp2,gyX1]
    refine Aae (t84 hf4 (by omega)) ?_
    rintro fv X2 of
    have c3:=Ai7 (l:=y.r.fl.map (·.1)) (n:=(k:Int))
    rw[Anj]at c3
    simp(disch:=first|assumption|omega)only[P4,seval]
    refine Aat (t86 of.sl (by rw[List.length_map];omega) _) ?_
    by_cases hp3:(0:Int)<(((y.r.fl.map (·.1)).count (k:Int):Nat):Int)
    ·rw[decide_eq_true hp3]at c3
     rw[<-c3]at hpt
     simp(disch:=first|assumption|omega)only[P4,seval,hp3]
     refine hret3 _ _ ?_
     exact hq2 _ _ ⟨.bool false,rfl,by rw[hfd2,bad hpt],((k03.trans kX).trans oq.k).trans of.k⟩
    ·rw[decide_eq_false hp3]at c3
     rw[<-c3]at hpt
     simp(disch:=first|assumption|omega)only[P4,seval,hp3,hw]
     exact hn3 _ _ _ ⟨k+1,_,_,_,rfl,(kX.trans oq.k).trans of.k,snoc hpt,by omega,rfl⟩ (by omega)
   ·rw[decide_eq_false hp2]at c2
    rw[<-c2]at hpt
    simp(disch:=first|assumption|omega)only[P4,seval,hp2]
    refine hret3 _ _ ?_
    exact hq2 _ _ ⟨.bool false,rfl,by rw[hfd2,bad hpt],(k03.trans kX).trans oq.k⟩
  ·have hin':=go false (decide_eq_false hin)
   rw[hin']at hpt
   simp(disch:=first|assumption|omega)only[P4,seval,hin,gyX]
   refine Aae (t84 hq3 (by omega)) ?_
   rintro qv X1 oq
   have c2:=Ai7 (l:=y.r.pts.map (·.1)) (n:=(k:Int))
   rw[Anj]at c2
   simp(disch:=first|assumption|omega)only[P4,seval]
   refine Aat (t86 oq.sl (by rw[List.length_map];omega) _) ?_
   by_cases hp2:(0:Int)<(((y.r.pts.map (·.1)).count (k:Int):Nat):Int)
   ·rw[decide_eq_true hp2]at c2
    rw[<-c2]at hpt
    simp(disch:=first|assumption|omega)only[P4,seval,hp2]
    refine hret3 _ _ ?_
    exact hq2 _ _ ⟨.bool false,rfl,by rw[hfd2,bad hpt],(k03.trans kX).trans oq.k⟩
   ·rw[decide_eq_false hp2]at c2
    rw[<-c2]at hpt
    simp(disch:=first|assumption|omega)only[P4,seval,hp2,hw]
    exact hn3 _ _ _ ⟨k+1,_,_,_,rfl,kX.trans oq.k,snoc hpt,by omega,rfl⟩ (by omega)
 ·have e3:¬(k:Int)<((L.p.length:Nat):Int):=by omega
  have hke:k=L.p.length:=by omega
  subst hke
  simp(disch:=first|assumption|omega)only[P4,seval,glX,ip,lp,e3]
  refine hx3 _ _ _ ?_
  simp(disch:=first|assumption|omega)only[P4,seval]
  exact hq2 _ _ ⟨.bool true,rfl,by rw[hfd2,hall3],k03.trans kX⟩
theorem t20{H:Aaa}{u:V4}{xs:List RV}{L:Ly}(h:LyR H u xs L)(hf:Ah5 9223372036854775807 L):
 ∃w H',Aaq Tryz.prog 0 20 [.agg u.l.toArray] H w H'/\H'=H/\∃i,w=.tuple #[.int .i64 (Aan L),.int .i64 i]:=by
 suffices h':∃w H',Aaq Tryz.prog 0 20 [.agg u.l.toArray] H w H'/\Aac H H'/\∃i,w=.tuple #[.int .i64 (Aan L),.int .i64 i] by
  obtain⟨_,_,a,k,i,rfl⟩:=h'
  exact⟨_,_,a.gc0 k (.inr (.tuple _ _ rfl (fun i a b=>by
   match i,a with
   |0,_=>exact .int _ _
   |1,_=>exact .int _ _))),rfl,_,rfl⟩
 refine Aam f20 ?_
 intro Q hq1 hq2
 have os:=Sl.one h.s
 have op:=Sl.one h.p
 have og:=Sl.one h.g
 have or:=Sl.one h.r
 have ir:=Sl.is h.r
 have lr:=h.r.len
 rw[h.rlen]at lr
 have hul:u.l=[u.s,u.p,u.g,u.r]:=rfl
 have hce:Aan L=if Aew L then(if L.r.all (Abo L)then 0 else 50)else 2:=rfl
 obtain⟨K0,hK0⟩:∃X,X=H.alloc (.cells true false 4 [u.s,u.p,u.g,u.r] 27):=⟨_,rfl⟩
 have k0:Aac H K0:=by rw[hK0];exact(Aac.refl H).alloc _
 have gl0:K0.get H.n=some (.cells true false 4 [u.s,u.p,u.g,u.r] 27):=by rw[hK0];exact Aaa.Bfd H _
 have tM:=Bbf (h.keeps k0) hf
 simp only[hul]at tM ⊢
 simp(disch:=first|assumption|omega|(simp only[LN]<;>omega)|(simp(disch:=first|assumption|omega|(simp only[LN]<;>omega))only[Aab,Aad];assumption))only[f20,P4,seval,os,op,og,or]
 simp only[<-hK0]
 refine Aae tM ?_
 rintro _ X ⟨rfl,hX⟩
 rw[hX]
 cases hmay:Aew L with
 |false=>
  rw[hmay]at hce
  simp(disch:=first|assumption|omega)only[P4,seval]
  exact hq2 _ _ ⟨.tuple #[.int .i64 2,.int .i64 0],rfl,k0,0,by rw[hce];rfl⟩
 |true=>
 rw[hmay]at hce
 have hL:=Aa1 hmay
 have lrr:=hL.r
 simp(disch:=first|assumption|omega)only[P3,seval,Aah,Aao]
 obtain⟨A1,hA1⟩:∃v:Value,v=.agg #[u.s,u.p,u.g,u.r]:=⟨_,rfl⟩
 rw[Aag,<-hA1]
 refine Aal (fun q fr X=>∃i x6 x7,fr=[A1,ptr H.n 0,.int .i64 0,.int .i64 0,.int .i64 ((i:Nat):Int),.bool false,x6,x7]/\K0=X/\(L.r.take i).all (Abo L)=true/\i<=L.r.length/\q=L.r.length-i) L.r.length
  ⟨0,_,_,rfl,rfl,by simp,by omega,rfl⟩ ?_
 rintro Q' q fr X ⟨i,x6,x7,rfl,rfl,hall,hi,rfl⟩ hn' hx' hret
 by_cases hlt:i<L.r.length
 ·have e0:(0:Int)<=(i:Int):=by omega
  have e1:(i:Int)<((L.r.length:Nat):Int):=by omega
  have hw:=wrS (i:=i) (by omega)
  obtain⟨hyr,hyo⟩:=Af3 h hlt
  obtain⟨na,ra⟩:=(h.r.keeps k0).at_ (i:=i) (by rw[h.rlen];exact hlt)
  have hlim:=Ahq hmay (List.getElem_mem hlt)
  have snoc:=fun e=>Agy (p:=Abo L) hlt hall e
  have bad:Abo L L.r[i]=false->L.r.all (Abo L)=false:=fun e=>List.all_eq_false.2 ⟨_,List.getElem_mem hlt,by rw[e];simp⟩
  rw[<-Acn hlt,<-hyr]at hlim snoc bad
  generalize xs.getD i rv0=y at*
  have rowy:y.row=[.string ⟨y.r.n.toArray⟩,.int .i64 y.r.g,y.vp,y.vq,y.vo,y.vf]:=rfl
  have tF:=t48 (h.keeps k0) (hyo.keeps k0) hlim hL
  simp only[rowy]at ra
  simp only[hul,rowy]at tF
  simp(disch:=first|assumption|omega|(simp only[LN]<;>omega)|(simp(disch:=first|assumption|omega|(simp only[LN]<;>omega))only[Aab,Aad];assumption))only[P4,seval,gl0,ir,lr,e0,e1,na,ra,Aai]
  refine Aae tF ?_
  rintro _ X ⟨rfl,hX⟩
  rw[hX]
  cases hfo:Abo L y.r with
  |false=>
   rw[bad hfo]at hce
   simp(disch:=first|assumption|omega)only[P4,seval]
   refine hret _ _ ?_
   exact hq2 _ _ ⟨.tuple #[.int .i64 50,.int .i64 (i:Int)],rfl,k0,i,by rw[hce];rfl⟩
  |true=>
   simp(disch:=first|assumption|omega)only[P4,seval,hw]
   exact hn' _ _ _ ⟨i+1,_,_,rfl,rfl,snoc hfo,by omega,rfl⟩ (by omega)
 ·have e1:¬(i:Int)<((L.r.length:Nat):Int):=by omega
  rw[List.take_of_length_le (by omega)]at hall
  rw[hall]at hce
  simp(disch:=first|assumption|omega)only[P4,seval,gl0,ir,lr,e1]
  refine hx' _ _ _ ?_
  simp(disch:=first|assumption|omega)only[P4,seval]
  exact hq2 _ _ ⟨.tuple #[.int .i64 0,.int .i64 0],rfl,k0,0,by rw[hce];rfl⟩
def yL:Ly:=⟨[[97],[98],[99],[100],[101],[102]],[([80],1),([81],3)],[([71],0),([72],4),([75],5)],[⟨[82,49],0,[1,2],[(0,false),(1,false)],[3],[]⟩,⟨[82,50],0,[1,5],[(0,true)],[],[]⟩,⟨[82,51],1,[3,2],[(1,false)],[],[]⟩,⟨[82,52],2,[4],[],[],[(1,true)]⟩,⟨[82,53],1,[3],[(1,true)],[5],[]⟩]⟩
def yX(H:Aaa):List RV:=[⟨⟨[82,49],0,[1,2],[(0,false),(1,false)],[3],[]⟩,slc (H.n+4) 0 2 2,slc (H.n+5) 0 2 2,slc (H.n+6) 0 1 1,.slice none 0 0⟩,⟨⟨[82,50],0,[1,5],[(0,true)],[],[]⟩,slc (H.n+7) 0 2 2,slc (H.n+8) 0 1 1,.slice none 0 0,.slice none 0 0⟩,⟨⟨[82,51],1,[3,2],[(1,false)],[],[]⟩,slc (H.n+9) 0 2 2,slc (H.n+10) 0 1 1,.slice none 0 0,.slice none 0 0⟩,⟨⟨[82,52],2,[4],[],[],[(1,true)]⟩,slc (H.n+11) 0 1 1,.slice none 0 0,.slice none 0 0,slc (H.n+12) 0 1 1⟩,⟨⟨[82,53],1,[3],[(1,true)],[5],[]⟩,slc (H.n+13) 0 1 1,slc (H.n+14) 0 1 1,slc (H.n+15) 0 1 1,.slice none 0 0⟩]
def yR(H:Aaa):List Value:=((yX H).map RV.row).flatten
def yU(H:Aaa):V4:=⟨slc (H.n+1) 0 6 6,slc (H.n+2) 0 2 2,slc (H.n+3) 0 3 3,slc (H.n+16) 0 5 5⟩
def yK(H:Aaa):Aaa:=(((((((((((((((((H).alloc (.cells true false 4 [slc (H.n+1) 0 6 6,slc (H.n+2) 0 2 2,slc (H.n+3) 0 3 3,slc (H.n+16) 0 5 5] 27)).alloc (.cells true false 1 [.string ⟨#[97]⟩,.string ⟨#[98]⟩,.string ⟨#[99]⟩,.string ⟨#[100]⟩,.string ⟨#[101]⟩,.string ⟨#[102]⟩] 9)).alloc (.cells true false 2 [.string ⟨#[80]⟩,.int .i64 1,.string ⟨#[81]⟩,.int .i64 3] 89)).alloc (.cells true false 2 [.string ⟨#[71]⟩,.int .i64 0,.string ⟨#[72]⟩,.int .i64 4,.string ⟨#[75]⟩,.int .i64 5] 90)).alloc (.cells true false 1 [.int .i64 1,.int .i64 2] 3)).alloc (.cells true false 2 [.int .i64 0,.bool false,.int .i64 1,.bool false] 120)).alloc (.cells true false 1 [.int .i64 3] 3)).alloc (.cells true false 1 [.int .i64 1,.int .i64 5] 3)).alloc (.cells true false 2 [.int .i64 0,.bool true] 120)).alloc (.cells true false 1 [.int .i64 3,.int .i64 2] 3)).alloc (.cells true false 2 [.int .i64 1,.bool false] 120)).alloc (.cells true false 1 [.int .i64 4] 3)).alloc (.cells true false 2 [.int .i64 1,.bool true] 120)).alloc (.cells true false 1 [.int .i64 3] 3)).alloc (.cells true false 2 [.int .i64 1,.bool true] 120)).alloc (.cells true false 1 [.int .i64 5] 3)).alloc (.cells true false 6 (yR H) 87)
theorem Bbg(H:Aaa):Aac H (yK H):=((((((((((((((((((Aac.refl H).alloc _).alloc _).alloc _).alloc _).alloc _).alloc _).alloc _).alloc _).alloc _).alloc _).alloc _).alloc _).alloc _).alloc _).alloc _).alloc _).alloc _)
theorem yK_n(H:Aaa):(yK H).n=H.n+17:=rfl
theorem Apy(H:Aaa):LyR (yK H) (yU H) (yX H) yL:=by
 refine⟨?_,?_,?_,?_,rfl,?_⟩
 ·exact Sl.keeps (Ad2 (rows:=[[.string ⟨#[97]⟩],[.string ⟨#[98]⟩],[.string ⟨#[99]⟩],[.string ⟨#[100]⟩],[.string ⟨#[101]⟩],[.string ⟨#[102]⟩]]) (by simp) rfl rfl) ((((((((((((((((Aac.refl _).alloc _).alloc _).alloc _).alloc _).alloc _).alloc _).alloc _).alloc _).alloc _).alloc _).alloc _).alloc _).alloc _).alloc _).alloc _)
 ·exact Sl.keeps (Ad2 (rows:=[[.string ⟨#[80]⟩,.int .i64 1],[.string ⟨#[81]⟩,.int .i64 3]]) (by simp) rfl rfl) (((((((((((((((Aac.refl _).alloc _).alloc _).alloc _).alloc _).alloc _).alloc _).alloc _).alloc _).alloc _).alloc _).alloc _).alloc _).alloc _).alloc _)
 ·exact Sl.keeps (Ad2 (rows:=[[.string ⟨#[71]⟩,.int .i64 0],[.string ⟨#[72]⟩,.int .i64 4],[.string ⟨#[75]⟩,.int .i64 5]]) (by simp) rfl rfl) ((((((((((((((Aac.refl _).alloc _).alloc _).alloc _).alloc _).alloc _).alloc _).alloc _).alloc _).alloc _).alloc _).alloc _).alloc _).alloc _)
 ·exact Ad2 (rows:=(yX H).map RV.row) (by intro r hr;obtain⟨y,_,rfl⟩:=List.mem_map.1 hr;rfl) rfl rfl
 ·intro x hx
  have b4:IL (yK H) (slc (H.n+4) 0 2 2) [1,2]:=Sl.keeps (Ad2 (rows:=[[.int .i64 1],[.int .i64 2]]) (by simp) rfl rfl) (((((((((((((Aac.refl _).alloc _).alloc _).alloc _).alloc _).alloc _).alloc _).alloc _).alloc _).alloc _).alloc _).alloc _).alloc _)
  have b5:NL (yK H) (slc (H.n+5) 0 2 2) [(0,false),(1,false)]:=Sl.keeps (Ad2 (rows:=[[.int .i64 0,.bool false],[.int .i64 1,.bool false]]) (by simp) rfl rfl) ((((((((((((Aac.refl _).alloc _).alloc _).alloc _).alloc _).alloc _).alloc _).alloc _).alloc _).alloc _).alloc _).alloc _)
  have b6:IL (yK H) (slc (H.n+6) 0 1 1) [3]:=Sl.keeps (Ad2 (rows:=[[.int .i64 3]]) (by simp) rfl rfl) (((((((((((Aac.refl _).alloc _).alloc _).alloc _).alloc _).alloc _).alloc _).alloc _).alloc _).alloc _).alloc _)
  have b7:IL (yK H) (slc (H.n+7) 0 2 2) [1,5]:=Sl.keeps (Ad2 (rows:=[[.int .i64 1],[.int .i64 5]]) (by simp) rfl rfl) ((((((((((Aac.refl _).alloc _).alloc _).alloc _).alloc _).alloc _).alloc _).alloc _).alloc _).alloc _)
  have b8:NL (yK H) (slc (H.n+8) 0 1 1) [(0,true)]:=Sl.keeps (Ad2 (rows:=[[.int .i64 0,.bool true]]) (by simp) rfl rfl) (((((((((Aac.refl _).alloc _).alloc _).alloc _).alloc _).alloc _).alloc _).alloc _).alloc _)
  have b9:IL (yK H) (slc (H.n+9) 0 2 2) [3,2]:=Sl.keeps (Ad2 (rows:=[[.int .i64 3],[.int .i64 2]]) (by simp) rfl rfl) ((((((((Aac.refl _).alloc _).alloc _).alloc _).alloc _).alloc _).alloc _).alloc _)
  have b10:NL (yK H) (slc (H.n+10) 0 1 1) [(1,false)]:=Sl.keeps (Ad2 (rows:=[[.int .i64 1,.bool false]]) (by simp) rfl rfl) (((((((Aac.refl _).alloc _).alloc _).alloc _).alloc _).alloc _).alloc _)
  have b11:IL (yK H) (slc (H.n+11) 0 1 1) [4]:=Sl.keeps (Ad2 (rows:=[[.int .i64 4]]) (by simp) rfl rfl) ((((((Aac.refl _).alloc _).alloc _).alloc _).alloc _).alloc _)
  have b12:NL (yK H) (slc (H.n+12) 0 1 1) [(1,true)]:=Sl.keeps (Ad2 (rows:=[[.int .i64 1,.bool true]]) (by simp) rfl rfl) (((((Aac.refl _).alloc _).alloc _).alloc _).alloc _)
  have b13:IL (yK H) (slc (H.n+13) 0 1 1) [3]:=Sl.keeps (Ad2 (rows:=[[.int .i64 3]]) (by simp) rfl rfl) ((((Aac.refl _).alloc _).alloc _).alloc _)
  have b14:NL (yK H) (slc (H.n+14) 0 1 1) [(1,true)]:=Sl.keeps (Ad2 (rows:=[[.int .i64 1,.bool true]]) (by simp) rfl rfl) (((Aac.refl _).alloc _).alloc _)
  have b15:IL (yK H) (slc (H.n+15) 0 1 1) [5]:=Sl.keeps (Ad2 (rows:=[[.int .i64 5]]) (by simp) rfl rfl) ((Aac.refl _).alloc _)
  have iz:IL (yK H) (.slice none 0 0) []:=Sl.nil _ _
  have nz:NL (yK H) (.slice none 0 0) []:=Sl.nil _ _
  simp only[yX,List.mem_cons,List.not_mem_nil,or_false]at hx
  rcases hx with rfl|rfl|rfl|rfl|rfl
  ·exact⟨b4,b5,b6,nz⟩
  ·exact⟨b7,b8,iz,nz⟩
  ·exact⟨b9,b10,iz,nz⟩
  ·exact⟨b11,nz,iz,b12⟩
  ·exact⟨b13,b14,b15,nz⟩
theorem Ank:Aan yL=0:=by decide+kernel
theorem A2f:Ah5 9223372036854775807 yL:=by
 refine⟨?_,?_,?_,?_⟩<;>decide
theorem G1(x a b c d e f:ByteArray):Aau [.string x,.string x,.string x,.string x,.string x,.string x] [(0,1,.string a),(1,1,.string b),(2,1,.string c),(3,1,.string d),(4,1,.string e),(5,1,.string f)]=some [.string a,.string b,.string c,.string d,.string e,.string f]:=rfl
theorem G2(a b c d e f g h:Value):Aau [e,f,g,h] [(0,2,.agg #[a,b]),(2,2,.agg #[c,d])]=some [a,b,c,d]:=rfl
theorem G3(a b c d e f g h i j k l:Value):Aau [g,h,i,j,k,l] [(0,2,.agg #[a,b]),(2,2,.agg #[c,d]),(4,2,.agg #[e,f])]=some [a,b,c,d,e,f]:=rfl
theorem G4(k:IntKind)(n m:Int)(b c:Bool):Aau [.int k n,.bool b] [(0,1,.int k m),(1,1,.bool c)]=some [.int k m,.bool c]:=rfl
theorem G5(k:IntKind)(n m:Int)(b:Bool):Aau [.int k n,.bool b] [(0,1,.int k m)]=some [.int k m,.bool b]:=rfl
theorem G6(k:IntKind)(n m:Int):Aau [.int k n] [(0,1,.int k m)]=some [.int k m]:=rfl
theorem H1(x a:ByteArray)(k:IntKind)(m n:Int)(b c d e f g h i j l o p:Nat):Aau [.string x,.int k m,.slice none 0 0,.slice none 0 0,.slice none 0 0,.slice none 0 0] [(0,1,.string a),(1,1,.int k n),(2,1,slc b c d e),(3,1,slc f g h i),(4,1,slc j l o p)]=some [.string a,.int k n,slc b c d e,slc f g h i,slc j l o p,.slice none 0 0]:=rfl
theorem H2(x a:ByteArray)(k:IntKind)(m n:Int)(b c d e f g h i:Nat):Aau [.string x,.int k m,.slice none 0 0,.slice none 0 0,.slice none 0 0,.slice none 0 0] [(0,1,.string a),(1,1,.int k n),(2,1,slc b c d e),(3,1,slc f g h i)]=some [.string a,.int k n,slc b c d e,slc f g h i,.slice none 0 0,.slice none 0 0]:=rfl
theorem H3(x a:ByteArray)(k:IntKind)(m n:Int)(b c d e f g h i:Nat):Aau [.string x,.int k m,.slice none 0 0,.slice none 0 0,.slice none 0 0,.slice none 0 0] [(0,1,.string a),(1,1,.int k n),(2,1,slc b c d e),(5,1,slc f g h i)]=some [.string a,.int k n,slc b c d e,.slice none 0 0,.slice none 0 0,slc f g h i]:=rfl
theorem H4(a0 b0 c0 d0 e0 f0 a1 b1 c1 d1 e1 f1 a2 b2 c2 d2 e2 f2 a3 b3 c3 d3 e3 f3 a4 b4 c4 d4 e4 f4:Value):Aau Bd8 [(0,6,.agg #[a0,b0,c0,d0,e0,f0]),(6,6,.agg #[a1,b1,c1,d1,e1,f1]),(12,6,.agg #[a2,b2,c2,d2,e2,f2]),(18,6,.agg #[a3,b3,c3,d3,e3,f3]),(24,6,.agg #[a4,b4,c4,d4,e4,f4])]=some [a0,b0,c0,d0,e0,f0,a1,b1,c1,d1,e1,f1,a2,b2,c2,d2,e2,f2,a3,b3,c3,d3,e3,f3,a4,b4,c4,d4,e4,f4]:=rfl
theorem t27(H:Aaa):∃w H',Aaq Tryz.prog 0 27 [] H w H'/\w=.agg (yU H).l.toArray/\H'=yK H:=by
 refine Aam f27 ?_
 intro Q hq1 hq2
 simp(disch:=first|assumption|omega|(simp only[LN]<;>omega)|(simp(disch:=first|assumption|omega|(simp only[LN]<;>omega))only[Aab,Aad];assumption))only[f27,P4,seval,G1,F2,F3,F4,F8,G2,G3,G4,G5,G6,H1,H2,H3,H4,F5]
 have gg:(yK H).get H.n=some (.cells true false 4 (yU H).l 27):=Aac.at_ (((((((((((((((((Aac.refl _).alloc _).alloc _).alloc _).alloc _).alloc _).alloc _).alloc _).alloc _).alloc _).alloc _).alloc _).alloc _).alloc _).alloc _).alloc _).alloc _) (Aaa.Bfd H _)
 refine hq2 _ _ ⟨.agg (yU H).l.toArray,?_,rfl,rfl⟩
 show Ack [.cn 4 0] _ (yK H)=_
 rw[Aoa]
 show Adb 4 (ptr H.n 0) (yK H)=_
 rw[Ace,Abe,gg];rfl
structure NwC (H K:Aaa) (c sb:Nat) (wh:Int) (L:Ly) (v:Chv):Prop where
 k:Aac H K
 e:v.wh=wh/\v.sb=sb/\v.ep=0/\v.fl=0/\v.tk=false/\v.nx=.pointer none
 g:K.get c=some (.cells true false 79 (chl v Abi) 99)
 l:A7q ⟨v.ls,v.lp,.slice none 0 0,v.lr⟩ L.s.length L.p.length L.r.length
 a:AgR K sb (sd0 wh)
 lc:H.n<=c
 ls:H.n<=sb
 m:∀S K',Chg S K K'->(∀b∈S,(b<H.n\/b=c\/b=sb\/K.n<=b)/\∀o r z c T,K.get b=some (.cells o r z c T)->¬(z=1\/z=2\/z=4\/z=5))->MaM K' v.iv L
theorem u9{H:Aaa}{u:V4}{xs:List RV}{L:Ly}{wh:Int}(h:LyR H u xs L)(hf:Ah5 9223372036854775807 L)(hw:wh=0\/wh=1)(he:Aan L=0):
 ∃w K,Aaq Tryz.prog 0 9 [.int .i64 wh,.agg u.l.toArray] H w K/\∃c sb v,w=.tuple #[ptr c 0,.int .i64 0]/\NwC H K c sb wh L v:=by
 obtain⟨w,K,a,k,_,b⟩:=t9 (wh:=wh) h hf
 obtain⟨c,sb,v,e,h1,h2,h3,h4,h5,h6,h7⟩:=(b hw).2 he
 exact⟨w,K,a,c,sb,v,e,k,h1,h2,h3,h4,h5,h6,h7⟩
theorem NwC.lt{H K:Aaa}{c sb:Nat}{wh:Int}{L:Ly}{v:Chv}(h:NwC H K c sb wh L v):c<K.n/\sb<K.n/\c≠sb:=by
 obtain⟨_,_,_,g,_⟩:=h.a
 refine⟨Aaa.Bfg h.g,Aaa.Bfg g,fun e=>?_⟩
 subst e;rw[h.g]at g;cases g
theorem NwC.ty{H K:Aaa}{c sb:Nat}{wh:Int}{L:Ly}{v:Chv}(h:NwC H K c sb wh L v){Z:Aaa}(k:Aac K Z):∀b,b=c\/b=sb->∀o r z c T,Z.get b=some (.cells o r z c T)->¬(z=1\/z=2\/z=4\/z=5):=by
 obtain⟨_,_,_,g,_⟩:=h.a
 rintro b (rfl|rfl) o r z D T e
 ·rw[k.at_ h.g]at e;cases e;decide
 ·rw[k.at_ g]at e;cases e;decide
theorem NwC.ch{H K Z:Aaa}{c sb:Nat}{wh:Int}{L:Ly}{v:Chv}{S:List Nat}(h:NwC H K c sb wh L v)(k:Aac K Z)(hc:c∈S)(hs:sb∈S)(hS:∀b∈S,(b<H.n\/b=c\/b=sb\/K.n<=b)/\∀o r z c T,K.get b=some (.cells o r z c T)->¬(z=1\/z=2\/z=4\/z=5)):ChR ⟨Z,S⟩ Z c sb wh L (ch0 wh):=by
 obtain⟨e1,e2,e3,e4,e5,e6⟩:=h.e
 refine⟨v,⟨e1,e2,e3,e4,e5⟩,k.at_ h.g,h.l,e6,fun K' c'=>h.m S K' ((k.chg S).trans c' (fun x hx=>.inl hx)) hS,h.a.keeps k,Aob wh,rfl,Chg.refl _ _,.inl hc,.inl hs⟩
theorem NwC.one{H K:Aaa}{c sb:Nat}{wh:Int}{L:Ly}{v:Chv}(h:NwC H K c sb wh L v):ChR ⟨K,[c,sb]⟩ K c sb wh L (ch0 wh):=
 h.ch (Aac.refl K) (by simp) (by simp) fun b hb=>by
  simp only[List.mem_cons,List.not_mem_nil,or_false]at hb
  exact⟨by omega,h.ty (Aac.refl K) b hb⟩
structure Asi (W:Wd) (H:Aaa) (a sa b sb:Nat) (p q:Int) (L:Ly) (A B:Ch):Prop where
 ca:ChR W H a sa p L A
 cb:ChR W H b sb q L B
 n:a≠b/\sa≠sb
theorem Asi.swap{W:Wd}{H:Aaa}{a sa b sb:Nat}{p q:Int}{L:Ly}{A B:Ch}(h:Asi W H a sa b sb p q L A B):Asi W H b sb a sa q p L B A:=⟨h.cb,h.ca,fun e=>h.n.1 e.symm,fun e=>h.n.2 e.symm⟩
theorem Asi.keeps{W:Wd}{H K:Aaa}{a sa b sb:Nat}{p q:Int}{L:Ly}{A B:Ch}(h:Asi W H a sa b sb p q L A B)(k:Aac H K):Asi W K a sa b sb p q L A B:=⟨h.ca.keeps k,h.cb.keeps k,h.n⟩
theorem ChR.lt{W:Wd}{H:Aaa}{a sa:Nat}{p:Int}{L:Ly}{A:Ch}(h:ChR W H a sa p L A):a<H.n/\sa<H.n/\a≠sa:=by
 obtain⟨v,hv⟩:=h
 obtain⟨_,_,_,ga,_⟩:=hv.sd
 exact⟨Aaa.Bfg hv.g,Aaa.Bfg ga,hv.ne⟩
theorem ChR.o2{W:Wd}{H:Aaa}{a sa:Nat}{p:Int}{L:Ly}{A:Ch}(h:ChR W H a sa p L A):∀b∈[a,sa],∀o r z C T,H.get b=some (.cells o r z C T)->z≠2:=by
 obtain⟨v,hv⟩:=h
 exact fun b hb o r z C T e=>(hv.o68 b hb o r z C T e).2.1
theorem Asi.step{W:Wd}{H K:Aaa}{a sa b sb:Nat}{p q:Int}{L:Ly}{A B A':Ch}(h:Asi W H a sa b sb p q L A B)(c:Chg [a,sa] H K){sa':Nat}(hs:sa'=sa\/H.n<=sa')(hA:ChR W K a sa' p L A'):Asi W K a sa' b sb p q L A' B:=by
 obtain⟨v,hv⟩:=h.ca
 obtain⟨w,hw⟩:=h.cb
 obtain⟨_,_,_,ga,_⟩:=hv.sd
 obtain⟨_,_,_,gb,_⟩:=hw.sd
 have n1:b≠sa:=fun e=>by subst e;rw[hw.g]at ga;cases ga
 have n2:sb≠a:=fun e=>by subst e;rw[hv.g]at gb;cases gb
 have lb:=Aaa.Bfg gb
 refine⟨hA,⟨w,hw.oth c (by simp;exact⟨fun e=>h.n.1 e.symm,n1⟩) (by simp;exact⟨n2,fun e=>h.n.2 e.symm⟩) (fun x hx=>?_) hv.o68⟩,h.n.1,?_⟩
 ·simp only[List.mem_cons,List.not_mem_nil,or_false]at hx
  rcases hx with rfl|rfl
  ·exact hv.wc
  ·exact hv.ws
 ·rcases hs with rfl|hs
  ·exact h.n.2
  ·omega
theorem NwC.two{H1 K1 H2 K2:Aaa}{a sa b sb:Nat}{p q:Int}{L:Ly}{v w:Chv}(h:NwC H1 K1 a sa p L v)(k:Aac K1 H2)(h2:NwC H2 K2 b sb q L w):Asi ⟨K2,[a,sa,b,sb]⟩ K2 a sa b sb p q L (ch0 p) (ch0 q):=by
 have l1:=h.lt
 have l2:=h2.lt
 have nk:=k.n
 have c2:=h2.lc
 have s2:=h2.ls
 refine⟨h.ch (k.trans h2.k) (by simp) (by simp) fun x hx=>?_,h2.ch (Aac.refl _) (by simp) (by simp) fun x hx=>?_,by omega,by omega⟩
 ·simp only[List.mem_cons,List.not_mem_nil,or_false]at hx
  refine⟨by omega,fun o r z D T e=>?_⟩
  have lx:=Aaa.Bfg e
  exact h.ty (Aac.refl _) x (by omega) o r z D T e
 ·simp only[List.mem_cons,List.not_mem_nil,or_false]at hx
  refine⟨by omega,fun o r z D T e=>?_⟩
  rcases hx with rfl|rfl|rfl|rfl
  ·exact h.ty (k.trans h2.k) _ (.inl rfl) o r z D T e
  ·exact h.ty (k.trans h2.k) _ (.inr rfl) o r z D T e
  ·exact h2.ty (Aac.refl _) _ (.inl rfl) o r z D T e
  ·exact h2.ty (Aac.refl _) _ (.inr rfl) o r z D T e
def cwx:Inp:=⟨fun _=>false,fun i=>(3:Nat).testBit i,fun _=>false⟩
def cwc:List (Int×Int):=[(1,0)]
theorem A00(z:Value):inl cwx z=[.int .u64 0,.int .u32 3,.int .u32 0,z]:=by
 have h:Value.int .u32 3=S32 fun i=>(3:Nat).testBit i:=by
  show Value.int .u32 ((3:Nat):Int)=_
  unfold S32
  rw[A1a (by decide)]
 show[S64 _,S32 _,S32 _,z]=_
 rw[Acs,Ae5,h];rfl
theorem Axn:inR 6 2 5 cwx cwc=true:=by decide+kernel
theorem Axo:Axe yL Abi 1 0=true:=by decide+kernel
def cwC(wh:Int):Ch:=⟨Abi,1,0,sd0 wh,false,none⟩
theorem Asj(C:Ch)(wh:Int):Aod yL C wh Abi 1 0=cwC wh:=by unfold Aod;rw[Axo];rfl
theorem Ask:Amd yL Abi 1 0=0:=by unfold Amd;rw[Axo];rfl
def cwR(wh:Int):Rd:=⟨wh,1,cwx,cwc⟩
def cwD(wh:Int):Ch:={cwC wh with sd:=⟨wh,1,some (cwR wh),none,none,false⟩,tk:=false,nx:=none}
theorem Asl(wh:Int):bgB yL (cwC wh) 1 cwx cwc=true:=by
 have:=Axn
 unfold bgB
 rw[show yL.s.length=6 from rfl,show yL.p.length=2 from rfl,show yL.r.length=5 from rfl,this];rfl
theorem Axp(wh:Int):bgS yL (cwC wh) 1 cwx cwc=cwD wh:=by unfold bgS;rw[Asl];rfl
theorem Axq(wh:Int):bgR yL (cwC wh) 1 cwx cwc=cwR wh:=by unfold bgR;rw[Asl];rfl
theorem Axr(wh:Int):bgE yL (cwC wh) 1 cwx cwc=0:=by unfold bgE;rw[Asl];rfl
def cwE(wh oth:Int):Ch:={cwD wh with sd:=⟨wh,1,some (cwR wh),some (cwR oth),none,false⟩}
theorem Axs(wh:Int):inR yL.s.length yL.p.length yL.r.length (cwR wh).x (cwR wh).c=true:=Axn
theorem A01:hhS yL (cwD 0) (cwR 1)=cwE 0 1/\hhS yL (cwD 1) (cwR 0)=cwE 1 0/\hhE yL (cwD 0) (cwR 1)=0/\hhE yL (cwD 1) (cwR 0)=0:=by
 unfold hhS hhE
 rw[Axs,Axs]
 exact⟨rfl,rfl,rfl,rfl⟩
def cwT:Sta:=Acj yL Abi (Ae9 cwx cwx) (Ajj cwc cwc)
theorem A90:(((Aa0 (fun i=>decide (i<yL.r.length)&&Ad3 yL (Ae9 cwx cwx) cwT i) 64:Nat):Int)==1)=true:=by decide+kernel
theorem A91:(((Aa0 cwT.lo 64:Nat):Int)==1)=true:=by decide+kernel
theorem Axt(wh:Int):ROk (cwR wh):=⟨by show cwc.length<=1000;decide,by show∀c∈cwc,_;decide⟩
theorem Axu(f:Nat->Bool):Abz .eql (S64 f) (.int .u64 1)=some (.bool (((Aa0 f 64:Nat):Int)==1)):=by unfold S64;rw[Apc]
theorem A5c(a b c d:Int)(f:Nat->Bool)(g:Nat->Bool)(H:Aaa):Aak (.eqs [1,1,1,1] false (.agg #[.int .i64 a,.int .i64 b,S64 f,S32 g]) (.agg #[.int .i64 a,.int .i64 b,S64 f,S32 g])) H=some (.bool true,H):=by
 simp[Aak,Ae6,eqC,S64,S32]
theorem A5d:Aau [.int .u8 0,.int .i64 0] [(0,1,.int .u8 1)]=some [.int .u8 1,.int .i64 0]:=rfl
theorem A02:Aau [.int .u8 0,.int .i64 0] [(0,2,.agg #[.int .u8 1,.int .i64 0])]=some [.int .u8 1,.int .i64 0]:=rfl
theorem A5e(z:Value)(h:isS z=true):Aau [.int .u64 0,.int .u32 0,.int .u32 0,.slice none 0 0] [(1,1,.int .u32 3),(3,1,z)]=some [.int .u64 0,.int .u32 3,.int .u32 0,z]:=by
 obtain⟨_,_,_,rfl⟩:=Aeb h;rfl
theorem t8(H:Aaa):∃w K,Aaq Tryz.prog 0 8 [] H w K/\w=.bool true/\K=H:=by
 refine gcb ?_
 refine Aam f8 ?_
 intro Q hq1 hq2
 simp(disch:=first|assumption|omega)only[f8,P4,seval]
 refine Aat (t27 H) ?_
 have hul:(yU H).l=[(yU H).s,(yU H).p,(yU H).g,(yU H).r]:=rfl
 have ho:=Ai3 (Apy H)
 have ll:(yU H).l.length=4:=rfl
 obtain⟨K0,hK0⟩:∃X,X=(yK H).alloc (.cells true false 4 (yU H).l 27):=⟨_,rfl⟩
 have k0:Aac (yK H) K0:=by rw[hK0];exact(Aac.refl _).alloc _
 have gl0:K0.get (yK H).n=some (.cells true false 4 (yU H).l 27):=by rw[hK0];exact Aaa.Bfd (yK H) _
 have hl0:=(Apy H).keeps k0
 have hs4:∀(h:Aaa) (b:Nat) (c:List Value),c.length=4->∀(r:Bool) (T:Nat),Avg h b 0 4 (yU H).l (some (.cells true r 4 c T))=some (undef,h.set b (.cells true r 4 (yU H).l T)):=fun h b c hc r T=>by
  rw[Agm hc,if_pos ⟨ll,ho⟩]
 simp(disch:=first|assumption|omega|(simp only[LN]<;>omega)|(simp(disch:=first|assumption|omega|(simp only[LN]<;>omega))only[Aab,Aad];assumption))only[P4,seval,ho,ll,hs4]
 rw[<-hK0]
 refine Aae (u9 (wh:=0) hl0 A2f (.inl rfl) Ank) ?_
 rintro _ K1 ⟨a,sa,va,rfl,na⟩
 have gl1:=na.k.at_ gl0
 have hl1:=hl0.keeps na.k
 simp(disch:=first|assumption|omega)only[P4,seval,gl1,Aa9,ll]
 refine Aae (u9 (wh:=1) hl1 A2f (.inr rfl) Ank) ?_
 rintro _ K2 ⟨b,sb,vb,rfl,nb⟩
 have tw:=na.two (Aac.refl K1) nb
 obtain⟨W,hW⟩:∃W:Wd,W=⟨K2,[a,sa,b,sb]⟩:=⟨_,rfl⟩
 rw[<-hW]at tw
 have kH:Aac H K2:=((Bbg H).trans k0).trans (na.k.trans nb.k)
 simp(disch:=first|assumption|omega)only[P4,seval,Adq]
 refine Aae (t11 tw.ca (.inl rfl) Ank Abi 1 0) ?_
 rintro _ K3 ⟨rfl,c3,sa',hs3,hA⟩
 rw[Ask]
 rw[Asj]at hA
 have tw:=tw.step c3 hs3 hA
 simp(disch:=first|assumption|omega)only[P4,seval,Adq]
 refine Aae (t11 tw.cb (.inr rfl) Ank Abi 1 0) ?_
 rintro _ K4 ⟨rfl,c4,sb',hs4',hB⟩
 rw[Ask]
 rw[Asj]at hB
 have tw:=(tw.swap.step c4 hs4' hB).swap
 simp(disch:=first|assumption|omega)only[P4,seval,Adq]
 refine Aae (t15 tw.ca Ank) ?_
 rintro _ K5 ⟨rfl,c5,hA⟩
 have e5:thW yL (cwC 0)=.tuple #[.agg (stl Abi).toArray,.agg (frl 0 0 [.int .u64 0,.int .u32 0]).toArray,.int .i64 4]:=rfl
 have e5':thC yL (cwC 0)=cwC 0:=rfl
 rw[e5]
 rw[e5']at hA
 have tw:=tw.step c5 (.inl rfl) hA
 have ef0:frl 0 0 [.int .u64 0,.int .u32 0]=[.int .i64 0,.int .i64 0,.int .u64 0,.int .u32 0]:=rfl
 rw[ef0]
 have fi:=A5e (slc (K5.n+1+1) 0 1 1) rfl
 obtain⟨K6,hK6⟩:∃X,X=(((K5.alloc (.cells true false 68 (stl Abi) 43)).alloc (.cells true false 4 [.int .i64 0,.int .i64 0,.int .u64 0,.int .u32 0] 56)).alloc (.cells true false 2 [.int .u8 1,.int .i64 0] 83)).alloc (.cells true false 4 (inl cwx (slc (K5.n+1+1) 0 1 1)) 46):=⟨_,rfl⟩
 have k6:Aac K5 K6:=by rw[hK6];exact((((Aac.refl _).alloc _).alloc _).alloc _).alloc _
 have n6:K6.n=K5.n+4:=by rw[hK6];rfl
 have gi6:K6.get (K5.n+1+1+1)=some (.cells true false 4 (inl cwx (slc (K5.n+1+1) 0 1 1)) 46):=by rw[hK6];exact Aaa.Bfd (((K5.alloc _).alloc _).alloc _) _
 have sc6:SlC K6 2 (slc (K5.n+1+1) 0 1 1) (cwc.map Aer):=by
  rw[hK6]
  have h1:SlC (((K5.alloc (.cells true false 68 (stl Abi) 43)).alloc (.cells true false 4 [.int .i64 0,.int .i64 0,.int .u64 0,.int .u32 0] 56)).alloc (.cells true false 2 [.int .u8 1,.int .i64 0] 83)) 2 (slc (K5.n+1+1) 0 1 1) (cwc.map Aer):=
   ⟨Ad2 (H:=(K5.alloc _).alloc _) (rows:=[[.int .u8 1,.int .i64 0]]) (by simp) rfl rfl,.inr (.inr ⟨_,1,1,_,_,_,_,rfl,Nat.le_refl _,Aaa.Bfd ((K5.alloc _).alloc _) _⟩)⟩
  exact h1.keeps ((Aac.refl _).alloc _)
 rw[A00]at hK6 gi6
 have tw5:=tw
 have tw:=tw.keeps k6
 simp(disch:=first|assumption|omega|(simp only[LN]<;>omega)|(simp(disch:=first|assumption|omega|(simp only[LN]<;>omega))only[Aab,Aad];assumption))only[P4,seval,Adq,Aas,Aaf,Aa8,A5d,A02,fi]
 rw[<-hK6]
 have tB:=t13 tw.ca 1 (x:=cwx) sc6 (by decide) (by decide)
 rw[A00,Axp,Axq,Axr]at tB
 refine Aae tB ?_
 rintro _ K7 ⟨c7,hA,y7,rfl,hy7⟩
 have er:∀wh y,rdl (cwR wh) y=[.int .i64 wh,.int .i64 1,S64 cwx.oc,S32 cwx.nr,S32 cwx.rv,y]:=fun _ _=>rfl
 have oy7:=Sl.one hy7.s
 obtain⟨la,lsa,_⟩:=tw.ca.lt
 obtain⟨lb,lsb,_⟩:=tw.cb.lt
 obtain⟨l5a,l5sa,_⟩:=tw5.ca.lt
 obtain⟨l5b,l5sb,_⟩:=tw5.cb.lt
 have gi7:=c7.at_ gi6 (by simp;omega)
 have sc7:=sc6.oth c7 tw.ca.o2
 have tw:=tw.step c7 (.inl rfl) hA
 have n7:=c7.n
 obtain⟨K8,hK8⟩:∃X,X=K7.alloc (.cells true false 6 (rdl (cwR 0) y7) 49):=⟨_,rfl⟩
 have k8:Aac K7 K8:=by rw[hK8];exact(Aac.refl _).alloc _
 have g8:K8.get K7.n=some (.cells true false 6 (rdl (cwR 0) y7) 49):=by rw[hK8];exact Aaa.Bfd K7 _
 have gi8:=k8.at_ gi7
 have tw:=tw.keeps k8
 have tB:=t13 tw.cb 1 (x:=cwx) (sc7.keeps k8) (by decide) (by decide)
 rw[A00,Axp,Axq,Axr]at tB
 rw[er]at hK8 g8 ⊢
 simp(disch:=first|assumption|omega|(simp only[LN]<;>omega)|(simp(disch:=first|assumption|omega|(simp only[LN]<;>omega))only[Aab,Aad];assumption))only[P4,seval,oy7,gi7,O4]
 rw[<-hK8]
 refine Aae tB ?_
 rintro _ K9 ⟨c9,hB,y9,rfl,hy9⟩
 have oy9:=Sl.one hy9.s
 have n8:=k8.n
 have n9:=c9.n
 have g9:=c9.at_ g8 (by simp;omega)
 have h7:=(hy7.keeps k8).oth c9 tw.cb.o2
 have tw:=(tw.swap.step c9 (.inl rfl) hB).swap
 obtain⟨K10,hK10⟩:∃X,X=K9.alloc (.cells true false 6 (rdl (cwR 1) y9) 49):=⟨_,rfl⟩
 have k10:Aac K9 K10:=by rw[hK10];exact(Aac.refl _).alloc _
 have g10:K10.get K9.n=some (.cells true false 6 (rdl (cwR 1) y9) 49):=by rw[hK10];exact Aaa.Bfd K9 _
 have g10':=k10.at_ g9
 have tw:=tw.keeps k10
 have tH:=t14 tw.ca (Axt 1) (hy9.keeps k10)
 obtain⟨w1,w2,w3,w4⟩:=A01
 rw[w1,w3]at tH
 rw[er]at hK10 g10 tH ⊢
 simp(disch:=first|assumption|omega|(simp only[LN]<;>omega)|(simp(disch:=first|assumption|omega|(simp only[LN]<;>omega))only[Aab,Aad];assumption))only[P4,seval,oy9,O4]
 rw[<-hK10]
 refine Aae tH ?_
 rintro _ K11 ⟨rfl,c11,hA⟩
 have g11:=c11.at_ g10' (by simp;omega)
 have n10:=k10.n
 have l7:K7.n<K10.n:=Aaa.Bfg g10'
 have h8:=(h7.keeps k10).oth c11 tw.ca.o2
 have tw:=tw.step c11 (.inl rfl) hA
 have tH:=t14 tw.cb (Axt 0) h8
 rw[w2,w4,er]at tH
 simp(disch:=first|assumption|omega|(simp only[LN]<;>omega)|(simp(disch:=first|assumption|omega|(simp only[LN]<;>omega))only[Aab,Aad];assumption))only[P4,seval,g11,l7]
 refine⟨g10'.symm,Aae tH ?_⟩
 rintro _ K12 ⟨rfl,c12,hB⟩
 have tw:=(tw.swap.step c12 (.inl rfl) hB).swap
 have n11:=c11.n
 have n12:=c12.n
 simp(disch:=first|assumption|omega)only[P4,seval]
 refine Aae (t15 tw.ca Ank) ?_
 rintro _ K13 ⟨rfl,c13,hA⟩
 have n13:=c13.n
 have tw:=tw.step c13 (.inl rfl) hA
 have ew:∀p q,thW yL (cwE p q)=.tuple #[.agg (stl cwT).toArray,.agg #[.int .i64 1,.int .i64 1,S64 fun i=>decide (i<yL.r.length)&&Ad3 yL (Ae9 cwx cwx) cwT i,S32 cwT.po],.int .i64 0]:=fun _ _=>rfl
 rw[ew]
 obtain⟨f,hf⟩:∃f:Nat->Bool,f=fun i=>decide (i<yL.r.length)&&Ad3 yL (Ae9 cwx cwx) cwT i:=⟨_,rfl⟩
 rw[<-hf]
 obtain⟨K14,hK14⟩:∃X,X=(K13.alloc (.cells true false 68 (stl cwT) 43)).alloc (.cells true false 4 [.int .i64 1,.int .i64 1,S64 f,S32 cwT.po] 56):=⟨_,rfl⟩
 have k14:Aac K13 K14:=by rw[hK14];exact((Aac.refl _).alloc _).alloc _
 have gs14:K14.get K13.n=some (.cells true false 68 (stl cwT) 43):=by rw[hK14];exact((Aac.refl _).alloc _).at_ (Aaa.Bfd K13 _)
 have gf14:K14.get (K13.n+1)=some (.cells true false 4 [.int .i64 1,.int .i64 1,S64 f,S32 cwT.po] 56):=by rw[hK14];exact Aaa.Bfd (K13.alloc _) _
 have tw:=tw.keeps k14
 simp(disch:=first|assumption|omega|(simp only[LN]<;>omega)|(simp(disch:=first|assumption|omega|(simp only[LN]<;>omega))only[Aab,Aad];assumption))only[P4,seval,Adq,Aas,Aaf,Aa8,O4]
 rw[<-hK14]
 refine Aae (t15 tw.cb Ank) ?_
 rintro _ K15 ⟨rfl,c15,hB⟩
 have n14:=k14.n
 have n15:=c15.n
 have gs15:=c15.at_ gs14 (by simp;omega)
 have gf15:=c15.at_ gf14 (by simp;omega)
 have tw:=(tw.swap.step c15 (.inl rfl) hB).swap
 rw[ew,<-hf]
 obtain⟨K16,hK16⟩:∃X,X=(K15.alloc (.cells true false 68 (stl cwT) 43)).alloc (.cells true false 4 [.int .i64 1,.int .i64 1,S64 f,S32 cwT.po] 56):=⟨_,rfl⟩
 have k16:Aac K15 K16:=by rw[hK16];exact((Aac.refl _).alloc _).alloc _
 have tw:=tw.keeps k16
 have ls15:=Aaa.Bfg gs15
 have lf15:=Aaa.Bfg gf15
 have eqs:∀K,Aak (.eqs Bai false (.agg (stl cwT).toArray) (.agg (stl cwT).toArray)) K=some (.bool true,K):=fun K=>(Ahs K false cwT cwT).trans (by rw[Afy];rfl)
 have eqf:=fun K=>A5c 1 1 0 0 f cwT.po K
 have pr:=A90
 rw[<-hf]at pr
 simp(disch:=first|assumption|omega|(simp only[LN]<;>omega)|(simp(disch:=first|assumption|omega|(simp only[LN]<;>omega))only[Aab,Aad];assumption))only[P4,seval,Adq,Aas,Aaf,Aa8,O4,gs15,gf15,Aa6,eqs,eqf,Axu,pr]
 rw[<-hK16]
 refine Aae (t17 tw.ca) ?_
 rintro _ K17 ⟨rfl,c17,hA⟩
 have et:tkE (thC yL (cwE 0 1))=0:=rfl
 have es:tkS (thC yL (cwE 0 1))={cwE 0 1 with s:=cwT,nx:=none,tk:=true}:=rfl
 rw[es]at hA
 rw[et]
 simp(disch:=first|assumption|omega)only[P4,seval]
 refine Aat (t18 hA) ?_
 have lo:=A91
 have a0:=na.lc
 have s0:=na.ls
 have b0:=nb.lc
 have t0:=nb.ls
 have nk0:=(Bbg H).n
 have nk1:=k0.n
 have nk2:=na.k.n
 have nk3:=nb.k.n
 have nk4:=c3.n
 have j3:=kH.Bfh c3 (by simp;omega)
 have j4:=j3.Bfh c4 (by simp;omega)
 have j5:=j4.Bfh c5 (by simp;omega)
 have j7:=(j5.trans k6).Bfh c7 (by simp;omega)
 have j9:=(j7.trans k8).Bfh c9 (by simp;omega)
 have j11:=(j9.trans k10).Bfh c11 (by simp;omega)
 have j12:=j11.Bfh c12 (by simp;omega)
 have j13:=j12.Bfh c13 (by simp;omega)
 have j15:=(j13.trans k14).Bfh c15 (by simp;omega)
 have j17:=(j15.trans k16).Bfh c17 (by simp;omega)
 simp(disch:=first|assumption|omega)only[P4,seval,Abt,Axu,lo]
 exact hq2 _ _ ⟨.bool true,rfl,rfl,j17⟩
structure RI (L:Ly) (s:Sta):Prop where
 lo:∀j,s.lo j=true->j<L.r.length
 us:∀j,s.us j=true->s.lo j=true
 ca:∀j,s.ca j=true->s.lo j=true
 ti:∀j,s.ti j<=20
 tz:∀j,s.ca j=false->s.ti j=0
 po:∀j,s.po j=true->j<L.p.length
 cf:∀i k,s.lo i=true->s.lo k=true->i≠k->cf L i k=false
 nd:∀i,s.lo i=true->∀z∈nds (ro L i),s.po z.1.toNat=z.2
theorem ri_0(L:Ly):RI L Abi:=⟨fun _ h=>(by cases h),fun _ h=>(by cases h),fun _ h=>(by cases h),fun _=>Nat.zero_le _,fun _ _=>rfl,fun _ h=>(by cases h),fun _ _ h=>(by cases h),fun _ h=>(by cases h)⟩
theorem Atv{L:Ly}{s:Sta}(h:RI L s):Ach L s=s:=by
 obtain⟨lo,us,ca,ti,po⟩:=s
 have low:∀j,(lo j&&Abr L.r.length j)=lo j:=fun j=>by
  cases e:lo j with
  |false=>rfl
  |true=>have:=h.lo j e;unfold Abr;simp;omega
 unfold Ach
 congr 1
 ·funext j;exact low j
 ·funext j
  show(us j&&(lo j&&Abr L.r.length j))=us j
  rw[low]
  cases e:us j with
  |false=>rfl
  |true=>rw[show lo j=true from h.us j e];rfl
 ·funext j
  show(ca j&&(lo j&&Abr L.r.length j))=ca j
  rw[low]
  cases e:ca j with
  |false=>rfl
  |true=>rw[show lo j=true from h.ca j e];rfl
 ·funext j
  show(if(ca j&&(lo j&&Abr L.r.length j))=true then min (ti j) 20 else 0)=ti j
  rw[low]
  have ht:ti j<=20:=h.ti j
  cases e:ca j with
  |false=>have:=h.tz j e;simp only at this;simp[this]
  |true=>rw[show lo j=true from h.ca j e];simp;omega
 ·funext j
  show(po j&&Abr L.p.length j)=po j
  cases e:po j with
  |false=>rfl
  |true=>have:=h.po j e;unfold Abr;simp;omega
theorem Awn{L:Ly}{s:Sta}(h:RI L s):Ajm L s=true:=by
 unfold Ajm
 rw[Atv h,Afy,Bool.true_and,List.all_eq_true]
 intro i hi
 unfold iOK
 rw[Bool.and_eq_true,Bool.or_eq_true]
 refine⟨?_,?_⟩
 ·cases e:s.lo i with
  |false=>exact .inl rfl
  |true=>
   right
   rw[List.all_eq_true]
   intro k hk
   unfold kOK
   by_cases ek:i=k
   ·simp[ek]
   ·cases e2:s.lo k with
    |false=>simp
    |true=>simp[h.cf i k e e2 ek]
 ·rw[List.all_eq_true]
  intro z hz
  unfold nOK
  cases e:s.lo i with
  |false=>rfl
  |true=>rw[h.nd i e z hz];simp
theorem A2d{L:Ly}(he:Aan L=0){i k:Nat}(hi:i<L.r.length)(hk:k<L.r.length)(hc:cf L i k=false){p:Int}{a b:Bool}(h1:(p,a)∈nds (ro L i))(h2:(p,b)∈nds (ro L k)):a=b:=by
 have s1:=(Adu (Aet he hi)).1 h1
 have s2:=(Adu (Aet he hk)).1 h2
 have hg:=(Aay he (List.getElem_mem hi)).nd (p,a) (by rw[<-Acn hi];exact h1)
 obtain⟨m,rfl⟩:∃m:Nat,p=(m:Int):=⟨p.toNat,by have:=hg.1;simp only at this;omega⟩
 have hm:m<L.p.length:=by have:=hg.2;simp only at this;omega
 unfold cf Ac8 at hc
 rw[Bool.or_eq_false_iff]at hc
 have:=(List.any_eq_false.1 hc.2) m (List.mem_range.2 hm)
 simp only[cPt,s1,s2,Option.isSome_some,Bool.and_self,Bool.true_or,Bool.true_and,Bool.not_eq_true,Bool.not_eq_false']at this
 simpa using this
theorem A7k{L:Ly}{x:Inp}{s:Sta}(he:Aan L=0)(h:RI L s){i:Nat}(hi:i<L.r.length)(hs:Ajc L x s i=true):RI L {s with lo:=fun j=>s.lo j||decide (j=i),po:=poD (nds (ro L i)) s.po}:=by
 unfold Ajc at hs
 simp only[Bool.and_eq_true,Bool.not_eq_true',List.all_eq_true,List.mem_range]at hs
 obtain⟨⟨hlo,hfr⟩,hcf,hnd⟩:=hs
 have hn:=Aet he hi
 have h0:∀z∈nds (ro L i),0<=z.1:=fun z hz=>(Af4 he hi z hz).1
 have hcfi:∀k,s.lo k=true->cf L i k=false:=fun k hk=>by
  have:=hcf k (h.lo k hk)
  rw[hk]at this;simpa using this
 have hcm:∀k,cf L k i=cf L i k:=fun k=>Alx L _ _
 have lo':∀j,(s.lo j||decide (j=i))=true->s.lo j=true\/j=i:=fun j e=>by simpa using e
 have poz:∀z∈nds (ro L i),poD (nds (ro L i)) s.po z.1.toNat=z.2:=fun z hz=>by
  rw[Ah8 hn h0]
  have e:((z.1.toNat:Nat):Int)=z.1:=by have:=h0 z hz;omega
  rw[e,(Adu hn).1 (show(z.1,z.2)∈_ from hz)]
 refine⟨fun j e=>?_,fun j e=>?_,fun j e=>?_,h.ti,h.tz,fun j e=>?_,fun a b ea eb hab=>?_,fun k e z hz=>?_⟩
 ·rcases lo' j e with e|e
  ·exact h.lo j e
  ·rw[e];exact hi
 ·show(s.lo j||_)=true
  rw[h.us j e];rfl
 ·show(s.lo j||_)=true
  rw[h.ca j e];rfl
 ·have e':poD (nds (ro L i)) s.po j=true:=e
  rw[Ah8 hn h0]at e'
  cases hsd:Abp (j:Int) (nds (ro L i))with
  |none=>rw[hsd]at e';exact h.po j e'
  |some b=>
   have hm:=(Adu hn).2 hsd
   have hg:=(Aay he (List.getElem_mem hi)).nd _ (by rw[<-Acn hi];exact hm)
   have:=hg.2;simp only at this;omega
 ·rcases lo' a ea with e1|e1<;>rcases lo' b eb with e2|e2
  ·exact h.cf a b e1 e2 hab
  ·subst e2;rw[hcm];exact hcfi a e1
  ·subst e1;exact hcfi b e2
  ·exact absurd (e1.trans e2.symm) hab
 ·rcases lo' k e with e1|e1
  ·have hk:=h.lo k e1
   show poD (nds (ro L i)) s.po z.1.toNat=z.2
   rw[Ah8 hn h0]
   have ez:((z.1.toNat:Nat):Int)=z.1:=by have:=(Af4 he hk z hz).1;omega
   rw[ez]
   cases hsd:Abp z.1 (nds (ro L i))with
   |none=>exact h.nd k e1 z hz
   |some b=>
    have hm:=(Adu hn).2 hsd
    exact A2d he hi hk (hcfi k e1) hm hz
  ·subst e1;exact poz z hz
theorem A7l{L:Ly}{x:Inp}{s:Sta}(he:Aan L=0)(h:RI L s)(kd n:Int):RI L (Ahz L x s kd n):=by
 unfold Ahz
 by_cases hok:okC L kd n=true
 case neg=>rw[if_neg hok];exact h
 rw[if_pos hok]
 have hb:=hok
 unfold okC at hb
 simp only[Bool.and_eq_true,decide_eq_true_eq]at hb
 by_cases h1:kd=1/\Ajc L x s n.toNat=true
 ·rw[if_pos h1]
  have hn:n.toNat<L.r.length:=by have:=hb.2;rw[h1.1]at this;simp at this;omega
  exact A7k he h hn h1.2
 rw[if_neg h1]
 by_cases h2:kd=2/\((s.lo n.toNat&& !s.us n.toNat)&& !s.ca n.toNat)=true
 ·rw[if_pos h2]
  have hl:s.lo n.toNat=true:=by have:=h2.2;simp at this;exact this.1.1
  refine⟨h.lo,h.us,fun j e=>?_,Aj5 h.ti (by split<;>omega),fun j e=>?_,h.po,h.cf,h.nd⟩
  ·have e':(s.ca j||decide (j=n.toNat))=true:=e
   rw[Bool.or_eq_true,decide_eq_true_eq]at e'
   rcases e' with e'|e'
   ·exact h.ca j e'
   ·rw[e'];exact hl
  ·have e':(s.ca j||decide (j=n.toNat))=false:=e
   rw[Bool.or_eq_false_iff,decide_eq_false_iff_not]at e'
   show upd _ _ _ j=0
   unfold upd;rw[if_neg e'.2];exact h.tz j e'.1
 rw[if_neg h2]
 by_cases h3:kd=3/\(!Abx x.oc (L.p.getD n.toNat ([],0)).2 && !Aes L s n)=true
 ·rw[if_pos h3]
  have hn:n.toNat<L.p.length:=by have:=hb.2;rw[h3.1]at this;simp at this;omega
  have hnd:Aes L s n=false:=by have:=h3.2;simp at this;exact this.2
  have hne:((n.toNat:Nat):Int)=n:=by omega
  refine⟨h.lo,h.us,h.ca,h.ti,h.tz,fun j e=>?_,h.cf,fun k e z hz=>?_⟩
  ·have e':(s.po j ^^ decide (j=n.toNat))=true:=e
   by_cases ej:j=n.toNat
   ·omega
   ·simp[ej]at e';exact h.po j e'
  ·show(s.po z.1.toNat ^^ decide (z.1.toNat=n.toNat))=z.2
   have hk:=h.lo k e
   have hz0:=(Af4 he hk z hz).1
   have hne2:z.1.toNat≠n.toNat:=fun e2=>by
    have:z.1=n:=by omega
    unfold Aes at hnd
    have h5:=(List.any_eq_false.1 hnd) k (List.mem_range.2 hk)
    have h6:((nds (ro L k)).any fun z=>s.lo k&&(z.1==n))=true:=List.any_eq_true.2 ⟨z,hz,by rw[e,this];simp⟩
    exact h5 h6
   simp[hne2];exact h.nd k e z hz
 ·rw[if_neg h3];exact h
theorem Ayw{L:Ly}{x:Inp}(he:Aan L=0):∀{cs:List (Int×Int)} {s:Sta},RI L s->RI L (Alb L x s cs)
 |[],s,h=>h
 |c::cs,s,h=>Ayw he (cs:=cs) (A7l he h _ _)
theorem Ayx{L:Ly}{s:Sta}(h:RI L s)(i:Nat):RI L (Ah7 s i):=by
 have sub:∀j,(Ah7 s i).lo j=true->s.lo j=true:=fun j e=>by
  have e':(s.lo j&& !decide (j=i))=true:=e
  simp at e';exact e'.1
 refine⟨fun j e=>h.lo j (sub j e),fun j e=>?_,fun j e=>?_,Aj5 h.ti (by omega),fun j e=>?_,h.po,fun a b ea eb hab=>h.cf a b (sub a ea) (sub b eb) hab,fun k e z hz=>h.nd k (sub k e) z hz⟩
 ·have e':(s.us j&& !decide (j=i))=true:=e
  show(s.lo j&& !decide (j=i))=true
  rw[Bool.and_eq_true]at e' ⊢
  exact⟨h.us j e'.1,e'.2⟩
 ·have e':(s.ca j&& !decide (j=i))=true:=e
  show(s.lo j&& !decide (j=i))=true
  rw[Bool.and_eq_true]at e' ⊢
  exact⟨h.ca j e'.1,e'.2⟩
 ·have e':(s.ca j&& !decide (j=i))=false:=e
  show upd s.ti i 0 j=0
  unfold upd
  by_cases ej:j=i
  ·rw[if_pos ej]
  ·rw[if_neg ej]
   simp[ej]at e';exact h.tz j e'
theorem Bbe{L:Ly}{x:Inp}{us:Nat->Bool}{s:Sta}(h:RI L s){i:Nat}(hl:s.lo i=true):RI L (roD L x us s i):=by
 unfold roD
 split
 ·split
  ·exact Ayx h i
  ·exact h
 ·split
  ·refine⟨h.lo,fun j e=>?_,h.ca,h.ti,h.tz,h.po,h.cf,h.nd⟩
   have e':(s.us j||decide (j=i))=true:=e
   rw[Bool.or_eq_true,decide_eq_true_eq]at e'
   rcases e' with e'|e'
   ·exact h.us j e'
   ·rw[e'];exact hl
  ·split
   ·rename_i h3
    rw[Bool.and_eq_true]at h3
    refine⟨h.lo,h.us,h.ca,Aj5 h.ti (by have:=h.ti i;omega),fun j e=>?_,h.po,h.cf,h.nd⟩
    show upd _ _ _ j=0
    unfold upd
    by_cases ej:j=i
    ·subst ej;have e':s.ca j=false:=e;rw[h3.1]at e';cases e'
    ·rw[if_neg ej];exact h.tz j e
   ·split
    ·exact Ayx h i
    ·exact h
theorem Atw{L:Ly}{x:Inp}{us:Nat->Bool}{s:Sta}(h:RI L s):∀k,RI L (Ak7 L x us s k)
 |0=>h
 |k+1=>by
  rw[Al9]
  split
  ·rename_i e;exact Bbe (Atw h k) e
  ·exact Atw h k
theorem A2e{L:Ly}(he:Aan L=0){s:Sta}(h:RI L s)(x:Inp)(cs:List (Int×Int)):RI L (Acj L s x cs):=by
 unfold Acj
 rw[Atv h]
 exact Atw (Ayw he h) _
structure IV where
 x:Inp
 v:Value
 c:List (Int×Int)
def iv0:IV:=⟨xn,.slice none 0 0,[]⟩
def A7m(p:IV):List Value:=inl p.x p.v
structure InL (H:Aaa) (v:Value) (l:List IV):Prop where
 s:Sl H 4 v (l.map A7m)
 c:∀p∈l,SlC H 2 p.v (p.c.map Aer)/\∀c∈p.c,0<=c.1/\c.1<256
theorem InL.keeps{H K:Aaa}{v:Value}{l:List IV}(h:InL H v l)(k:Aac H K):InL K v l:=⟨h.s.keeps k,fun p hp=>⟨(h.c p hp).1.keeps k,(h.c p hp).2⟩⟩
theorem InL.at_{H:Aaa}{v:Value}{l:List IV}(h:InL H v l){i:Nat}(hi:i<l.length):nnS v=true/\Afs H 4 v i=some (inl (l.getD i iv0).x (l.getD i iv0).v):=by
 have:=Sl.at_ h.s (by omega) (i:=i) (by simpa using hi)
 refine⟨this.1,?_⟩
 rw[this.2];simp[List.getD,List.getElem?_eq_getElem hi,A7m]
structure CV where
 k:Int
 n:Int
 x:Inp
 v:Value
 c:List (Int×Int)
 r:Rd
 z:Value
 s:Sta
 ep:Int
def Aa3(p:CV):List Value:=.int .i64 p.k:: .int .i64 p.n::S64 p.x.oc::S32 p.x.nr::S32 p.x.rv::p.v:: .int .i64 p.r.ch:: .int .i64 p.r.cy::S64 p.r.x.oc::S32 p.r.x.nr::S32 p.r.x.rv::p.z::(stl p.s++[.int .i64 p.ep])
def cv0:CV:=⟨0,0,xn,.slice none 0 0,[],⟨0,0,xn,[]⟩,.slice none 0 0,Abi,0⟩
structure CvO (H:Aaa) (p:CV):Prop where
 a:SlC H 2 p.v (p.c.map Aer)
 b:SlC H 2 p.z (p.r.c.map Aer)
 ka:∀c∈p.c,0<=c.1/\c.1<256
 kb:∀c∈p.r.c,0<=c.1/\c.1<256
theorem CvO.keeps{H K:Aaa}{p:CV}(h:CvO H p)(k:Aac H K):CvO K p:=⟨h.a.keeps k,h.b.keeps k,h.ka,h.kb⟩
structure CvL (H:Aaa) (v:Value) (l:List CV):Prop where
 s:Sl H 81 v (l.map Aa3)
 c:∀p∈l,CvO H p
theorem CvL.keeps{H K:Aaa}{v:Value}{l:List CV}(h:CvL H v l)(k:Aac H K):CvL K v l:=⟨h.s.keeps k,fun p hp=>(h.c p hp).keeps k⟩
theorem CvL.at_{H:Aaa}{v:Value}{l:List CV}(h:CvL H v l){i:Nat}(hi:i<l.length):nnS v=true/\Afs H 81 v i=some (Aa3 (l.getD i cv0)):=by
 have:=Sl.at_ h.s (by omega) (i:=i) (by simpa using hi)
 refine⟨this.1,?_⟩
 rw[this.2];simp[List.getD,List.getElem?_eq_getElem hi]
section
variable (p:CV)
theorem Alv:(Aa3 p).length=81:=by simp[Aa3,Aaf]
theorem cv_s:((Aa3 p).drop 12).take 68=stl p.s:=by
 show(stl p.s++_).take 68=_
 rw[List.take_append_of_le_length (by rw[Aaf];omega),List.take_of_length_le (by rw[Aaf];omega)]
theorem A92:(Aa3 p)[80]? =some (.int .i64 p.ep):=by
 show(stl p.s++_)[68]? =_
 rw[List.getElem?_append_right (by rw[Aaf];omega),Aaf];rfl
end
theorem t50{H:Aaa}(n:Int):∃w K,Aaq Tryz.prog 0 50 [.int .i64 n,.int .i64 7] H w K/\(∃m,w=.int .i64 m)/\K=H:=by
 refine Aam f50 ?_
 intro Q hq1 hq2
 have e7:(7:Int)≠0:=by omega
 simp(disch:=first|assumption|omega)only[f50,P4,seval,A27,e7]
 exact hq2 _ _ ⟨_,rfl,⟨_,rfl⟩,rfl⟩
def fwB(p:CV):Bool:= !decide (20<((p.c.length:Nat):Int))&& !decide (20<((p.r.c.length:Nat):Int))
theorem t19{H:Aaa}{v:Value}{l:List CV}(h:CvL H v l)(hl:l.length<=9223372036854775807):∃w K,Aaq Tryz.prog 0 19 [v,.int .i64 50] H w K/\(∃b,w=.bool b/\(b=true->l.length<=50/\∀p∈l,p.c.length<=20/\p.r.c.length<=20))/\K=H:=by
 refine Aam f19 ?_
 intro Q hq1 hq2
 have isv:=Sl.is h.s
 have lv:Ab9 v=l.length:=by have:=Sl.len h.s;simpa using this
 by_cases h50:(50:Int)<((l.length:Nat):Int)
 ·simp(disch:=first|assumption|omega)only[f19,P4,seval,isv,lv,h50]
  exact hq2 _ _ ⟨_,rfl,⟨false,rfl,fun e=>by cases e⟩,rfl⟩
 simp(disch:=first|assumption|omega)only[f19,P3,seval,Aah,Aao,isv,lv,h50]
 rw[Aag]
 refine Aal (fun q fr K=>∃i x5 x6,fr=[v,.int .i64 50,.bool false,.int .i64 ((i:Nat):Int),.bool false,x5,x6]/\K=H/\(∀j,j<i->fwB (l.getD j cv0)=true)/\i<=l.length/\q=l.length-i) l.length
  ⟨0,_,_,rfl,rfl,fun j hj=>absurd hj (by omega),by omega,rfl⟩ ?_
 rintro Q' q fr K ⟨i,x5,x6,rfl,rfl,hall,hi,rfl⟩ hn' hx' hret
 by_cases hlt:i<l.length
 ·obtain⟨nn,ra⟩:=h.at_ hlt
  have e0:(0:Int)<=(i:Int):=by omega
  have e1:(i:Int)<((l.length:Nat):Int):=by omega
  have hw:=wrS (i:=i) (by omega)
  have mem:l.getD i cv0∈l:=by rw[List.getD_eq_getElem?_getD,List.getElem?_eq_getElem hlt];exact List.getElem_mem hlt
  have oc:=h.c _ mem
  obtain⟨P,eP⟩:∃P,l.getD i cv0=P:=⟨_,rfl⟩
  rw[eP]at oc ra
  have m5:(Aa3 P)[5]? =some P.v:=rfl
  have m11:(Aa3 P)[11]? =some P.z:=rfl
  have isa:=Sl.is oc.a.s
  have isb:=Sl.is oc.b.s
  have la:Ab9 P.v=P.c.length:=by have:=Sl.len oc.a.s;simpa using this
  have lb:Ab9 P.z=P.r.c.length:=by have:=Sl.len oc.b.s;simpa using this
  by_cases c1:(20:Int)<((P.c.length:Nat):Int)
  ·simp(disch:=first|assumption|omega)only[P4,seval,isv,lv,e0,e1,nn,ra,Aaj,m5,m11,isa,isb,la,lb,c1]
   exact hret _ _ (hq2 _ _ ⟨_,rfl,⟨false,rfl,fun e=>by cases e⟩,rfl⟩)
  by_cases c2:(20:Int)<((P.r.c.length:Nat):Int)
  ·simp(disch:=first|assumption|omega)only[P4,seval,isv,lv,e0,e1,nn,ra,Aaj,m5,m11,isa,isb,la,lb,c1,c2]
   exact hret _ _ (hq2 _ _ ⟨_,rfl,⟨false,rfl,fun e=>by cases e⟩,rfl⟩)
  simp(disch:=first|assumption|omega)only[P4,seval,isv,lv,e0,e1,nn,ra,Aaj,m5,m11,isa,isb,la,lb,c1,c2,hw]
  refine hn' _ _ _ ⟨i+1,_,_,rfl,rfl,fun j hj=>?_,by omega,rfl⟩ (by omega)
  rcases Nat.lt_or_ge j i with h|h
  ·exact hall j h
  ·have:j=i:=by omega
   subst this
   rw[eP]
   unfold fwB
   simp only[c1,c2];rfl
 ·have e1:¬(i:Int)<((l.length:Nat):Int):=by omega
  have hil:i=l.length:=by omega
  simp(disch:=first|assumption|omega)only[P4,seval,isv,lv,e1]
  refine hx' _ _ _ ?_
  simp(disch:=first|assumption|omega)only[P4,seval]
  refine hq2 _ _ ⟨_,rfl,⟨true,rfl,fun _=>⟨by omega,fun p hp=>?_⟩⟩,rfl⟩
  obtain⟨j,hj,rfl⟩:=List.getElem_of_mem hp
  have:=hall j (by omega)
  rw[List.getD_eq_getElem?_getD,List.getElem?_eq_getElem hj]at this
  unfold fwB at this
  simp at this
  omega
theorem t54{H:Aaa}(a b:Int)(f g:Nat->Bool):∃w K,Aaq Tryz.prog 0 54 [.agg #[.int .i64 a,.int .i64 b,S64 f,S32 g],.agg #[.int .i64 a,.int .i64 b,S64 f,S32 g]] H w K/\w=.bool true/\K=H:=by
 refine gcb ?_
 refine Aam f54 ?_
 intro Q hq1 hq2
 have rg:∀(o r:Bool) (T:Nat),Ac5 (some (.cells o r 4 [.int .i64 a,.int .i64 b,S64 f,S32 g] T)) 2 2=some [S64 f,S32 g]:=fun _ _ _=>rfl
 have k:=((Aac.refl H).alloc (.cells true false 4 [.int .i64 a,.int .i64 b,S64 f,S32 g] 56)).alloc (.cells true false 4 [.int .i64 a,.int .i64 b,S64 f,S32 g] 130)
 simp(disch:=first|assumption|omega|(simp only[LN]<;>omega)|(simp(disch:=first|assumption|omega|(simp only[LN]<;>omega))only[Aab,Aad];assumption))only[f54,P4,seval,O4,rg,A2c]
 exact hq2 _ _ ⟨.bool true,rfl,rfl,k⟩
structure PD (W:Wd) (H:Aaa) (c sb:Nat) (wh:Int) (L:Ly) (d sd:Nat) (u:V4) (C:Ch):Prop where
 p:ChR W H c sb wh L C
 q:DhR H d sd u C
 wd:W.B.n<=d
 ws:W.B.n<=sd
section
variable {W:Wd} {H K:Aaa} {c sb:Nat} {wh:Int} {L:Ly} {d sd:Nat} {u:V4} {C:Ch}
theorem PD.keeps(h:PD W H c sb wh L d sd u C)(k:Aac H K):PD W K c sb wh L d sd u C:=⟨h.p.keeps k,h.q.keeps k,h.wd,h.ws⟩
theorem DhR.ty(h:DhR H d sd u C):∀b∈[d,sd],∀o r z C T,H.get b=some (.cells o r z C T)->(z=145\/z=20)/\T≠49:=by
 obtain⟨v,hv⟩:=h
 obtain⟨n,g,_⟩:=hv.g
 obtain⟨_,_,_,_,_,_,gs,_⟩:=hv.sd
 intro b hb o r z C T e
 simp only[List.mem_cons,List.not_mem_nil,or_false]at hb
 rcases hb with rfl|rfl
 ·rw[g]at e;cases e;exact⟨.inl rfl,by decide⟩
 ·rw[gs]at e;cases e;exact⟨.inr rfl,by decide⟩
theorem PD.ne(h:PD W H c sb wh L d sd u C):(c≠d/\c≠sd)/\sb≠d/\sb≠sd:=by
 obtain⟨v,hv⟩:=h.p
 obtain⟨_,_,_,ga,_⟩:=hv.sd
 obtain⟨x,hx⟩:=h.q
 obtain⟨n,g,_⟩:=hx.g
 obtain⟨_,_,_,_,_,_,gs,_⟩:=hx.sd
 have gc:=hv.g
 refine⟨⟨?_,?_⟩,?_,?_⟩
 ·rintro rfl;rw[gc]at g;cases g
 ·rintro rfl;rw[gc]at gs;cases gs
 ·rintro rfl;rw[ga]at g;cases g
 ·rintro rfl;rw[ga]at gs;cases gs
theorem DhR.lt(h:DhR H d sd u C):d<H.n/\sd<H.n:=by
 obtain⟨v,hv⟩:=h
 obtain⟨n,g,_⟩:=hv.g
 obtain⟨_,_,_,_,_,_,gs,_⟩:=hv.sd
 exact⟨Aaa.Bfg g,Aaa.Bfg gs⟩
theorem PD.oth(h:PD W H c sb wh L d sd u C)(k:Chg [c,sb] H K):DhR K d sd u C:=by
 obtain⟨⟨n1,n2⟩,n3,n4⟩:=h.ne
 obtain⟨v,hv⟩:=h.p
 obtain⟨x,hx⟩:=h.q
 refine⟨x,hx.oth k (by simp;omega) (by simp;omega) fun b hb o r z C T e=>(hv.o68 b hb o r z C T e).2.1⟩
theorem PD.both{M:Aaa}{C':Ch}{sb' sd':Nat}(h:PD W H c sb wh L d sd u C)(k:Chg [c,sb] H K)(hs:sb'=sb\/H.n<=sb')(hp:ChR W K c sb' wh L C')(hq:DhR M d sd' u C')(ht:sd'=sd\/K.n<=sd')(k2:Chg [d,sd] K M):PD W M c sb' wh L d sd' u C':=by
 obtain⟨⟨n1,n2⟩,n3,n4⟩:=h.ne
 have hd:=h.oth k
 have ty:=hd.ty
 have l2:=h.q.lt
 obtain⟨v,hv⟩:=hp
 have wk:=hv.w.n
 have hw:=h.ws
 have hwd:=h.wd
 refine⟨⟨v,hv.oth k2 (by simp;omega) (by simp;omega) (fun x hx=>?_) fun b hb o r z C T e=>?_⟩,hq,h.wd,by omega⟩
 ·simp only[List.mem_cons,List.not_mem_nil,or_false]at hx
  rcases hx with rfl|rfl
  ·exact .inr h.wd
  ·exact .inr h.ws
 ·obtain⟨a,b⟩:=ty b hb o r z C T e
  exact⟨by omega,by omega,b⟩
theorem PD.chg{M:Aaa}(h:PD W H c sb wh L d sd u C)(k:Chg [c,sb] H K)(k2:Chg [d,sd] K M):Chg [c,sb,d,sd] H M:=
 (k.mono (T:=[c,sb,d,sd]) (by simp)).trans k2 (by simp)
end
theorem A93(L:Ly)(C:Ch):∃t a b f g e,thW L C=.tuple #[.agg (stl t).toArray,.agg #[.int .i64 a,.int .i64 b,S64 f,S32 g],.int .i64 e]:=by
 unfold thW
 split
 ·exact⟨thS L C,C.sd.cy,C.ep,_,_,0,rfl⟩
 ·exact⟨Abi,0,0,fun _=>false,fun _=>false,4,by rw[Acs,Ae5];rfl⟩
def DoR(W:Wd)(H:Aaa)(c sb:Nat)(wh:Int)(L:Ly)(d sd:Nat)(u:V4)(w:Value)(K:Aaa):Prop:=
 w=.bool true/\Chg [c,sb,d,sd] H K/\∃sb' sd' C',(sb'=sb\/H.n<=sb')/\(sd'=sd\/H.n<=sd')/\PD W K c sb' wh L d sd' u C'
theorem PD.fin{W:Wd}{H K0 K1 K2 K3 K4:Aaa}{c sb:Nat}{wh:Int}{L:Ly}{d sd:Nat}{u:V4}{C C':Ch}{sb' sd':Nat}(h0:PD W K0 c sb wh L d sd u C)(k0:Aac H K0)(k1:Chg [c,sb] K0 K1)(hs:sb'=sb\/H.n<=sb')(hp:ChR W K1 c sb' wh L C')(k2:Aac K1 K2)(k3:Chg [d,sd] K2 K3)(ht:sd'=sd\/K2.n<=sd')(hq:DhR K3 d sd' u C')(k4:Aac K3 K4)(hB:sb'=sb\/K0.n<=sb'):DoR W H c sb wh L d sd u (.bool true) K4:=by
 have c3:Chg [d,sd] K1 K3:=(k2.chg [d,sd]).trans k3 (fun x hx=>.inl hx)
 have n0:=k0.n
 have n1:=k1.n
 have n2:=k2.n
 have hq':=h0.both k1 hB hp hq (by omega) c3
 exact⟨rfl,((k0.chg _).trans (h0.chg k1 c3) (fun x hx=>.inl hx)).trans (k4.chg [c,sb,d,sd]) (fun x hx=>.inl hx),sb',sd',C',hs,by omega,hq'.keeps k4⟩
theorem A03(L:Ly)(C:Ch)(cy:Int)(x:Inp){cs:List (Int×Int)}(h:cs.length<=1000):(bgR L C cy x cs).c.length<=1000:=by
 unfold bgR Ait
 split
 ·split
  ·simp[R0]
  ·exact h
 ·simp[R0]
theorem t22{W:Wd}{B H:Aaa}{c sb:Nat}{wh:Int}{L:Ly}{d sd:Nat}{u:V4}{xs:List RV}{C:Ch}{p:CV}(h:PD W H c sb wh L d sd u C)(kB:Aac B H)(oB:(B.n<=c/\B.n<=sb)/\B.n<=d/\B.n<=sd)(hl:LyR B u xs L)(he:Aan L=0)(hw:wh=0\/wh=1)(o:CvO B p)(hc:p.c.length<=20/\p.r.c.length<=20):
 ∃w K,Aaq Tryz.prog 0 22 [ptr c 0,ptr d 0,.agg (Aa3 p).toArray] H w K/\DoR W H c sb wh L d sd u w K:=by
 refine Aam f22 ?_
 intro Q hq1 hq2
 have len:=Alv p
 have cs:=cv_s p
 have c80:=A92 p
 have oa:=Sl.one o.a.s
 have ob:=Sl.one o.b.s
 have one:(Aa3 p).all Value.oneCell'=true:=by
  unfold Aa3
  simp only[List.all_cons,List.all_append,Aas,O4,oa,ob];rfl
 have c0:(Aa3 p)[0]? =some (.int .i64 p.k):=rfl
 have c1:(Aa3 p)[1]? =some (.int .i64 p.n):=rfl
 obtain⟨K0,hK0⟩:∃X,X=H.alloc (.cells true false 81 (Aa3 p) 71):=⟨_,rfl⟩
 have k0:Aac H K0:=by rw[hK0];exact(Aac.refl H).alloc _
 have n0:K0.n=H.n+1:=by rw[hK0];rfl
 have g0:K0.get H.n=some (.cells true false 81 (Aa3 p) 71):=by rw[hK0];exact Aaa.Bfd H _
 have l0:=Aaa.Bfg g0
 have lp:=h.p.lt
 have lq:=h.q.lt
 have h0:=h.keeps k0
 have b0:=kB.trans k0
 have o0:=o.keeps b0
 have bad:DoR W H c sb wh L d sd u (.bool true) K0:=⟨rfl,k0.chg _,sb,sd,C,.inl rfl,.inl rfl,h0⟩
 simp(disch:=first|assumption|omega)only[f22,P4,seval,one,len]
 rw[<-hK0]
 simp(disch:=first|assumption|omega)only[P4,seval,g0,c0]
 refine Aae (t50 _) ?_
 rintro _ X ⟨⟨m,rfl⟩,hX⟩
 rw[hX]
 have be:∀x:Int,(x==x)=true:=fun x=>by simp
 by_cases m0:m=0
 ·subst m0
  have tB:=t13 h0.p p.n (x:=p.x) o0.a (by omega) o.ka
  have ix:inl p.x p.v=[S64 p.x.oc,S32 p.x.nr,S32 p.x.rv,p.v]:=rfl
  have t2:((Aa3 p).drop 2).take 4=[S64 p.x.oc,S32 p.x.nr,S32 p.x.rv,p.v]:=rfl
  rw[ix]at tB
  obtain⟨R,hR⟩:∃R,R=bgR L C p.n p.x p.c:=⟨_,rfl⟩
  have RL:R.c.length<=1000:=by rw[hR];exact A03 L C p.n p.x (by omega)
  rw[<-hR]at tB
  simp(disch:=first|assumption|omega)only[P3,seval,Aah,Aao,g0,c0,c1]
  rw[Aag]
  simp(disch:=first|assumption|omega)only[P4,seval,g0,c0,c1,t2]
  refine Aae tB ?_
  rintro _ K1 ⟨k1,hp,y1,rfl,hy1⟩
  have er:∀y,rdl R y=[.int .i64 R.ch,.int .i64 R.cy,S64 R.x.oc,S32 R.x.nr,S32 R.x.rv,y]:=fun _=>rfl
  have oy1:=Sl.one hy1.s
  have g1:=k1.at_ g0 (by simp;omega)
  have n1:=k1.n
  have b1:=b0.Bfh k1 (by simp;omega)
  obtain⟨K2,hK2⟩:∃X,X=K1.alloc (.cells true false 6 (rdl R y1) 49):=⟨_,rfl⟩
  have k2:Aac K1 K2:=by rw[hK2];exact(Aac.refl _).alloc _
  have gr2:K2.get K1.n=some (.cells true false 6 (rdl R y1) 49):=by rw[hK2];exact Aaa.Bfd K1 _
  have g2:=k2.at_ g1
  have b2:=b1.trans k2
  have hd2:=(h0.oth k1).keeps k2
  have tD:=t51 hd2 (hl.keeps b2) he p.n (x:=p.x) (o.keeps b2).a (by omega) o.ka
  rw[<-hR,ix]at tD
  rw[er]at hK2 gr2 ⊢
  simp(disch:=first|assumption|omega|(simp only[LN]<;>omega)|(simp(disch:=first|assumption|omega|(simp only[LN]<;>omega))only[Aab,Aad];assumption))only[P4,seval,oy1,g1,c1,t2,O4]
  rw[<-hK2]
  refine Aae tD ?_
  rintro _ K3 ⟨k3,hq,y3,rfl,hy3⟩
  have oy3:=Sl.one hy3.s
  have n2:=k2.n
  have n3:=k3.n
  have gr3:=k3.at_ gr2 (by simp;omega)
  have hy1':=(hy1.keeps k2).oth k3 (fun b hb o r z C T e=>by have:=(hd2.ty b hb o r z C T e).1;omega)
  obtain⟨K4,hK4⟩:∃X,X=K3.alloc (.cells true false 6 (rdl R y3) 126):=⟨_,rfl⟩
  have k4:Aac K3 K4:=by rw[hK4];exact(Aac.refl _).alloc _
  have gr4:K4.get K3.n=some (.cells true false 6 (rdl R y3) 126):=by rw[hK4];exact Aaa.Bfd K3 _
  have gr4':=k4.at_ gr3
  have l3:=Aaa.Bfg gr3
  have tS:=t25 (x:=R.x) (y:=R.x) (hy1'.keeps k4).s (hy3.keeps k4).s (by omega) (by omega)
  rw[Aw6]at tS
  have ir:∀y,inl R.x y=[S64 R.x.oc,S32 R.x.nr,S32 R.x.rv,y]:=fun _=>rfl
  simp only[ir]at tS
  rw[er]at hK4 gr4 ⊢
  have rg:∀(y:Value) (o r:Bool) (T:Nat),Ac5 (some (.cells o r 6 [.int .i64 R.ch,.int .i64 R.cy,S64 R.x.oc,S32 R.x.nr,S32 R.x.rv,y] T)) 2 4=some [S64 R.x.oc,S32 R.x.nr,S32 R.x.rv,y]:=fun _ _ _ _=>rfl
  simp(disch:=first|assumption|omega|(simp only[LN]<;>omega)|(simp(disch:=first|assumption|omega|(simp only[LN]<;>omega))only[Aab,Aad];assumption))only[P4,seval,oy3,O4,gr3]
  rw[<-hK4]
  refine Aae tS ?_
  rintro _ X ⟨rfl,hX⟩
  rw[hX]
  simp(disch:=first|assumption|omega)only[P4,seval]
  exact hq2 _ _ ⟨_,rfl,h0.fin k0 k1 (.inl rfl) hp k2 k3 (.inl rfl) hq k4 (.inl rfl)⟩
 have e0:(m==0)=false:=by simpa using m0
 by_cases m1:m=1
 ·subst m1
  have okr:ROk p.r:=⟨by omega,o.kb⟩
  have tH:=t14 h0.p okr o0.b
  have er:∀y,rdl p.r y=[.int .i64 p.r.ch,.int .i64 p.r.cy,S64 p.r.x.oc,S32 p.r.x.nr,S32 p.r.x.rv,y]:=fun _=>rfl
  have t6:((Aa3 p).drop 6).take 6=[.int .i64 p.r.ch,.int .i64 p.r.cy,S64 p.r.x.oc,S32 p.r.x.nr,S32 p.r.x.rv,p.z]:=rfl
  have t8:((Aa3 p).drop 8).take 4=[S64 p.r.x.oc,S32 p.r.x.nr,S32 p.r.x.rv,p.z]:=rfl
  have c6:(Aa3 p)[6]? =some (.int .i64 p.r.ch):=rfl
  have c7:(Aa3 p)[7]? =some (.int .i64 p.r.cy):=rfl
  rw[er]at tH
  simp(disch:=first|assumption|omega)only[P3,seval,Aah,Aao]
  rw[Aag]
  simp(disch:=first|assumption|omega)only[P4,seval,g0,t6]
  refine Aae tH ?_
  rintro _ K1 ⟨rfl,k1,hp⟩
  have g1:=k1.at_ g0 (by simp;omega)
  have b1:=b0.Bfh k1 (by simp;omega)
  have tD:=t52 (h0.oth k1) (hl.keeps b1) he okr (o.keeps b1).b
  rw[er]at tD
  have fl:Aau [.int .i64 0,.int .i64 0,.int .u64 0,.int .u32 0,.int .u32 0,.slice none 0 0] [(0,1,.int .i64 p.r.ch),(1,1,.int .i64 p.r.cy),(2,4,.agg #[S64 p.r.x.oc,S32 p.r.x.nr,S32 p.r.x.rv,p.z])]=some [.int .i64 p.r.ch,.int .i64 p.r.cy,S64 p.r.x.oc,S32 p.r.x.nr,S32 p.r.x.rv,p.z]:=rfl
  simp(disch:=first|assumption|omega)only[P4,seval,g1,c6,c7,t8,fl]
  refine⟨g0.symm,g0.symm,g0.symm,Aae tD ?_⟩
  rintro _ K2 ⟨rfl,k2,hq⟩
  simp(disch:=first|assumption|omega)only[P4,seval,be]
  exact hq2 _ _ ⟨_,rfl,h0.fin k0 k1 (.inl rfl) hp (Aac.refl _) k2 (.inl rfl) hq (Aac.refl _) (.inl rfl)⟩
 have e1:(m==1)=false:=by simpa using m1
 by_cases m2:m=2
 ·subst m2
  obtain⟨t,a,b,f,g,e,ew⟩:=A93 L C
  have tA:=t15 h0.p he
  rw[ew]at tA
  simp(disch:=first|assumption|omega)only[P3,seval,Aah,Aao]
  rw[Aag]
  simp(disch:=first|assumption|omega)only[P4,seval]
  refine Aae tA ?_
  rintro _ K1 ⟨rfl,k1,hp⟩
  have b1:=b0.Bfh k1 (by simp;omega)
  obtain⟨K2,hK2⟩:∃X,X=(K1.alloc (.cells true false 68 (stl t) 43)).alloc (.cells true false 4 [.int .i64 a,.int .i64 b,S64 f,S32 g] 56):=⟨_,rfl⟩
  have k2:Aac K1 K2:=by rw[hK2];exact((Aac.refl _).alloc _).alloc _
  have gs2:K2.get K1.n=some (.cells true false 68 (stl t) 43):=by rw[hK2];exact((Aac.refl _).alloc _).at_ (Aaa.Bfd K1 _)
  have gf2:K2.get (K1.n+1)=some (.cells true false 4 [.int .i64 a,.int .i64 b,S64 f,S32 g] 56):=by rw[hK2];exact Aaa.Bfd (K1.alloc _) _
  have hd2:=(h0.oth k1).keeps k2
  have n1:=k1.n
  have n2:=k2.n
  have tD:=t53 hd2 (hl.keeps (b1.trans k2)) he
  rw[ew]at tD
  simp(disch:=first|assumption|omega|(simp only[LN]<;>omega)|(simp(disch:=first|assumption|omega|(simp only[LN]<;>omega))only[Aab,Aad];assumption))only[P4,seval,Aiv,Aas,Aaf,Aa8,O4]
  rw[<-hK2]
  refine Aae tD ?_
  rintro _ K3 ⟨rfl,k3,hq⟩
  have n3:=k3.n
  have ls:=Aaa.Bfg gs2
  have lf:=Aaa.Bfg gf2
  have gs3:=k3.at_ gs2 (by simp;omega)
  have gf3:=k3.at_ gf2 (by simp;omega)
  obtain⟨K4,hK4⟩:∃X,X=(K3.alloc (.cells true false 68 (stl t) 43)).alloc (.cells true false 4 [.int .i64 a,.int .i64 b,S64 f,S32 g] 130):=⟨_,rfl⟩
  have k4:Aac K3 K4:=by rw[hK4];exact((Aac.refl _).alloc _).alloc _
  have gs4:K4.get K3.n=some (.cells true false 68 (stl t) 43):=by rw[hK4];exact((Aac.refl _).alloc _).at_ (Aaa.Bfd K3 _)
  have gf4:K4.get (K3.n+1)=some (.cells true false 4 [.int .i64 a,.int .i64 b,S64 f,S32 g] 130):=by rw[hK4];exact Aaa.Bfd (K3.alloc _) _
  have gs4':=k4.at_ gs3
  have gf4':=k4.at_ gf3
  have eqs:∀K,Aak (.eqs Baj false (.agg (stl t).toArray) (.agg (stl t).toArray)) K=some (.bool true,K):=fun K=>(Ahs K false t t).trans (by rw[Afy];rfl)
  simp(disch:=first|assumption|omega|(simp only[LN]<;>omega)|(simp(disch:=first|assumption|omega|(simp only[LN]<;>omega))only[Aab,Aad];assumption))only[P4,seval,Aiv,Aas,Aaf,Aa8,O4,gs3,gf3,gs4,gs4',gf4,gf4',Aa6,Aa9,eqs]
  rw[<-hK4]
  refine Aat (t54 a b f g) ?_
  simp(disch:=first|assumption|omega)only[P4,seval,be]
  exact hq2 _ _ ⟨_,rfl,h0.fin k0 k1 (.inl rfl) hp k2 k3 (.inl rfl) hq k4 (.inl rfl)⟩
 have e2:(m==2)=false:=by simpa using m2
 by_cases m3:m=3
 ·subst m3
  simp(disch:=first|assumption|omega)only[P3,seval,Aah,Aao]
  rw[Aag]
  simp(disch:=first|assumption|omega)only[P4,seval]
  refine Aae (t17 h0.p) ?_
  rintro _ K1 ⟨rfl,k1,hp⟩
  simp(disch:=first|assumption|omega)only[P4,seval]
  refine Aae (t55 (h0.oth k1)) ?_
  rintro _ K2 ⟨rfl,k2,hq⟩
  simp(disch:=first|assumption|omega)only[P4,seval,be]
  exact hq2 _ _ ⟨_,rfl,h0.fin k0 k1 (.inl rfl) hp (Aac.refl _) k2 (.inl rfl) hq (Aac.refl _) (.inl rfl)⟩
 have e3:(m==3)=false:=by simpa using m3
 by_cases m4:m=4
 ·subst m4
  have t12:((Aa3 p).drop 12).take 68=stl p.s:=cs
  simp(disch:=first|assumption|omega)only[P3,seval,Aah,Aao]
  rw[Aag]
  have rgc:∀(o r:Bool) (T:Nat),Ac5 (some (.cells o r 81 (Aa3 p) T)) 12 68=some (stl p.s):=fun _ _ _=>by rw[<-cs];rfl
  simp(disch:=first|assumption|omega)only[P4,seval,g0,cs]
  refine Aae (t26 h0.p p.s) ?_
  rintro _ K1 ⟨rfl,k1,hp⟩
  have g1:=k1.at_ g0 (by simp;omega)
  obtain⟨x,hx⟩:=h0.oth k1
  obtain⟨n,gd,hn⟩:=hx.g
  have ld:=Aaa.Bfg gd
  have ms:=A0y x C.s n
  have lenD:=Ac6 x C.s n
  have sS:=Axm x C.s n (Asd C.s p.s)
  simp(disch:=first|assumption|omega)only[P4,seval,g1,cs,gd,ms]
  refine Aat (t56 K1 C.s p.s) ?_
  have cS:=Chg.set K1 ld (.cells true false 145 (dhl x (Asd C.s p.s) n) 74)
  have hne:=hx.ne
  have hq:DhR (K1.set d (.cells true false 145 (dhl x (Asd C.s p.s) n) 74)) d sd u {C with s:=Asd C.s p.s}:=⟨x,hx.e,⟨n,Aaa.Bfe gd _,hn⟩,hx.sd.oth cS (by simpa using fun e=>hne e.symm) hx.o2,hx.ok⟩
  simp(disch:=first|assumption|omega)only[P4,seval,gd,Aas,Aaf,lenD,sS]
  exact hq2 _ _ ⟨_,rfl,h0.fin k0 k1 (.inl rfl) hp (Aac.refl _) (cS.mono (by simp)) (.inl rfl) hq (Aac.refl _) (.inl rfl)⟩
 have e4:(m==4)=false:=by simpa using m4
 by_cases m5:m=5
 ·subst m5
  have ech:C.sd.ch=wh:=by obtain⟨v,hv⟩:=h0.p;exact hv.ch
  simp(disch:=first|assumption|omega)only[P3,seval,Aah,Aao]
  rw[Aag]
  simp(disch:=first|assumption|omega)only[P4,seval,g0,c1,cs,c80]
  refine Aae (t11 h0.p hw he p.s p.ep p.n) ?_
  rintro _ K1 ⟨rfl,k1,sb',hs,hp⟩
  have g1:=k1.at_ g0 (by simp;omega)
  have b1:=b0.Bfh k1 (by simp;omega)
  have tD:=t57 (h0.oth k1) (hl.keeps b1) he p.s p.ep p.n
  rw[ech]at tD
  simp(disch:=first|assumption|omega)only[P4,seval,g1,c1,cs,c80]
  refine⟨g0.symm,g0.symm,g0.symm,Aae tD ?_⟩
  rintro _ K2 ⟨rfl,k2,sd',ht,hq⟩
  simp(disch:=first|assumption|omega)only[P4,seval,be]
  exact hq2 _ _ ⟨_,rfl,h0.fin k0 k1 (by omega) hp (Aac.refl _) k2 ht hq (Aac.refl _) hs⟩
 have e5:(m==5)=false:=by simpa using m5
 simp(disch:=first|assumption|omega)only[P3,seval,Aah,Aao,e0,e1,e2,e3,e4,e5]
 rw[Aag]
 simp(disch:=first|assumption|omega)only[P4,seval,e0,e1,e2,e3,e4,e5]
 refine Aae (u14 h0.p (.inr ⟨_,rfl⟩)) ?_
 rintro _ K1 ⟨rfl,k1⟩
 simp(disch:=first|assumption|omega)only[P4,seval]
 refine Aae (u14 (h0.p.keeps k1) (.inl rfl)) ?_
 rintro _ K2 ⟨rfl,k2⟩
 simp(disch:=first|assumption|omega)only[P4,seval]
 exact hq2 _ _ ⟨_,rfl,h0.fin k0 (k1.chg _) (.inl rfl) (h0.p.keeps k1) k2 (Chg.refl _ _) (.inl rfl) ((h0.q.keeps k1).keeps k2) (Aac.refl _) (.inl rfl)⟩
end Go.AM.Fd
