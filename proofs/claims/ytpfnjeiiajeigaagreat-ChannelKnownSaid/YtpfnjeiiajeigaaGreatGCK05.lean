/- Part of the proof. -/
import Derived.Test.YtpfnjeiiajeigaaGreatGCK04
set_option maxRecDepth 100000
set_option maxHeartbeats 0
set_option linter.unusedSimpArgs false
set_option linter.unusedVariables false
namespace Go.AM.Fd
open Nat (reduceAdd reduceEqDiff reduceLT reduceLeDiff reduceMul reduceSub)
open Go.Proofs Go.AM.F
def Alb(L:Ly)(x:Inp)(s:Sta)(cs:List (Int×Int)):Sta:=cs.foldl (fun s c=>Ahz L x s c.1 c.2) s
def Ak7(L:Ly)(x:Inp)(us:Nat->Bool)(s:Sta)(i:Nat):Sta:=(List.range i).foldl (fun s i=>if s.lo i then roD L x us s i else s) s
def Acj(L:Ly)(s:Sta)(x:Inp)(cs:List (Int×Int)):Sta:=Ak7 L x (Ach L s).us (Alb L x (Ach L s) (cs.take 8)) L.r.length
theorem Al8(L:Ly)(x:Inp)(s:Sta)(cs:List (Int×Int))(c:Int×Int):Alb L x s (cs++[c])=Ahz L x (Alb L x s cs) c.1 c.2:=by
 unfold Alb;rw[List.foldl_append];rfl
theorem Al9(L:Ly)(x:Inp)(us:Nat->Bool)(s:Sta)(i:Nat):Ak7 L x us s (i+1)=if(Ak7 L x us s i).lo i then roD L x us (Ak7 L x us s i) i else Ak7 L x us s i:=by
 unfold Ak7;rw[List.range_succ,List.foldl_append];rfl
theorem Aj5{t:Nat->Nat}{i n m:Nat}(h:∀j,t j<=m)(hn:n<=m)(j:Nat):upd t i n j<=m:=by
 unfold upd;split
 ·exact hn
 ·exact h j
theorem A1p{L:Ly}{x:Inp}{s:Sta}{kd n:Int}(h:∀i,s.ti i<=20)(i:Nat):(Ahz L x s kd n).ti i<=20:=by
 unfold Ahz
 repeat' split
 all_goals first|exact h i|exact Aj5 h (by omega) i|(refine Aj5 h ?_ i;split<;>omega)
theorem A6t{L:Ly}{x:Inp}{us:Nat->Bool}{s:Sta}{k:Nat}(h:∀i,s.ti i<=20)(i:Nat):(roD L x us s k).ti i<=20:=by
 unfold roD Ah7
 repeat' split
 all_goals first|exact h i|exact Aj5 h (by have:=h k;omega) i
theorem Anf{L:Ly}{x:Inp}:∀{cs:List (Int×Int)} {s:Sta},(∀i,s.ti i<=20)->∀i,(Alb L x s cs).ti i<=20
 |[],s,h=>h
 |c::cs,s,h=>Anf (cs:=cs) (A1p h)
theorem Ak8{L:Ly}{x:Inp}{us:Nat->Bool}{s:Sta}(h:∀i,s.ti i<=20):∀k i,(Ak7 L x us s k).ti i<=20
 |0=>h
 |k+1=>by
  rw[Al9]
  split
  ·exact A6t (Ak8 h k)
  ·exact Ak8 h k
theorem Ayn(b:Nat->Bool):Aau [.int .u64 0,.int .u32 0] [(1,1,S32 b)]=some [.int .u64 0,S32 b]:=rfl
theorem t89{H:Aaa}{u:V4}{xs:List RV}{L:Ly}{s:Sta}{x:Inp}{cv:Value}{cs:List (Int×Int)}(h:LyR H u xs L)(he:Aan L=0)(hc:CL H cv cs)(hcl:cs.length<=1000000):
 ∃w H',Aaq Tryz.prog 0 89 [.agg u.l.toArray,.agg (stl s).toArray,.agg (inl x cv).toArray] H w H'/\w=.tuple #[.agg (stl (Acj L s x cs)).toArray,.agg #[S64 (fun i=>decide (i<L.r.length)&&Ad3 L x (Acj L s x cs) i),S32 (Acj L s x cs).po]]/\H'=H:=by
 suffices h':∃w H',Aaq Tryz.prog 0 89 [.agg u.l.toArray,.agg (stl s).toArray,.agg (inl x cv).toArray] H w H'/\w=.tuple #[.agg (stl (Acj L s x cs)).toArray,.agg #[S64 (fun i=>decide (i<L.r.length)&&Ad3 L x (Acj L s x cs) i),S32 (Acj L s x cs).po]]/\Aac H H' by
  obtain⟨_,_,a,rfl,k⟩:=h'
  exact⟨_,_,a.gc0 k (.inr (NV.tuple_of (.cons (Aoo _ _) (.cons (NV.agg_of (l:=[S64 (fun i=>decide (i<L.r.length)&&Ad3 L x (Acj L s x cs) i),S32 (Acj L s x cs).po]) (NL.plain rfl)) .nil)))),rfl,rfl⟩
 refine Aam f89 ?_
 intro Q hq1 hq2
 have hmay:=Aar he
 have hL:=Aa1 hmay
 have lr:=hL.r
 have lpp:=hL.p
 have os:=Sl.one h.s
 have op:=Sl.one h.p
 have og:=Sl.one h.g
 have or:=Sl.one h.r
 have ir:=Sl.is h.r
 have lenr:=h.r.len
 rw[h.rlen]at lenr
 have isc:=Sl.is hc
 have onec:=Sl.one hc
 have clen:=hc.len
 have hul:u.l=[u.s,u.p,u.g,u.r]:=rfl
 have hinl:inl x cv=[S64 x.oc,S32 x.nr,S32 x.rv,cv]:=rfl
 obtain⟨K0,hK0⟩:∃X,X=((((H.alloc (.cells true false 4 [u.s,u.p,u.g,u.r] 27)).alloc (.cells true false 68 (stl s) 43)).alloc (.cells true false 4 (inl x cv) 46)).alloc (.cells true false 68 (stl Abi) 43)).alloc (.cells true false 2 [.int .u64 0,.int .u32 0] 54):=⟨_,rfl⟩
 have k0:Aac H K0:=by rw[hK0];exact(((((Aac.refl H).alloc _).alloc _).alloc _).alloc _).alloc _
 have n0:K0.n=H.n+5:=by rw[hK0];rfl
 have gl0:K0.get H.n=some (.cells true false 4 [u.s,u.p,u.g,u.r] 27):=by rw[hK0];exact(((((Aac.refl _).alloc _).alloc _).alloc _).alloc _).at_ (Aaa.Bfd H _)
 have gs0:K0.get (H.n+1)=some (.cells true false 68 (stl s) 43):=by rw[hK0];exact((((Aac.refl _).alloc _).alloc _).alloc _).at_ (Aaa.Bfd (H.alloc _) _)
 have gi0:K0.get (H.n+2)=some (.cells true false 4 (inl x cv) 46):=by rw[hK0];exact(((Aac.refl _).alloc _).alloc _).at_ (Aaa.Bfd ((H.alloc _).alloc _) _)
 have gw0:K0.get (H.n+3)=some (.cells true false 68 (stl Abi) 43):=by rw[hK0];exact((Aac.refl _).alloc _).at_ (Aaa.Bfd (((H.alloc _).alloc _).alloc _) _)
 have go0:K0.get (H.n+4)=some (.cells true false 2 [.int .u64 0,.int .u32 0] 54):=by rw[hK0];exact Aaa.Bfd ((((H.alloc _).alloc _).alloc _).alloc _) _
 have l1:=Aaa.Bfg gs0
 have tT:=Bfb (h.keeps k0) hL s
 have tC:=fun K (k:Aac H K) (t:Sta) (kd n:Int)=>t113 (x:=x) (cv:=cv) (h.keeps k) he t isc kd n
 have tR:=fun K (k:Aac H K) (t:Sta) (us:Nat->Bool) (ht:∀i,t.ti i<256) (i:Nat) (hi:i<L.r.length)=>t114 (x:=x) (cv:=cv) (h.keeps k) he t us isc ht hi
 have tP:=fun K (k:Aac H K) (t:Sta) (i:Nat) (hi:i<L.r.length)=>t115 (x:=x) (cv:=cv) (h.keeps k) he t isc hi
 rw[hinl]at hK0 gi0
 rw[hul]at tT
 simp only[hul,hinl]at tC tR tP
 rw[hul,hinl]
 simp(disch:=first|assumption|omega|(simp only[LN]<;>omega)|(simp(disch:=first|assumption|omega|(simp only[LN]<;>omega))only[Aab,Aad];assumption))only[f89,P4,seval,os,op,og,or,Aas,Aaf,Aa6,onec,O4,Ak6]
 simp only[<-hK0]
 refine Aae tT ?_
 rintro _ X ⟨rfl,hX⟩
 rw[hX]
 obtain⟨s0,hs0e⟩:∃t,t=Ach L s:=⟨_,rfl⟩
 rw[<-hs0e]
 obtain⟨K1,hK1⟩:∃X,X=K0.set (H.n+1) (.cells true false 68 (stl s0) 43):=⟨_,rfl⟩
 have k1:Aac H K1:=by rw[hK1];exact k0.set (by omega) l1 _
 have oth:∀b,b≠H.n+1->K1.get b=K0.get b:=fun b hb=>by rw[hK1];exact Aaa.Bff K0 hb l1 _
 have gs1:K1.get (H.n+1)=some (.cells true false 68 (stl s0) 43):=by rw[hK1];exact Aaa.Bfe gs0 _
 have gl1:=(oth H.n (by omega)).trans gl0
 have gi1:=(oth (H.n+2) (by omega)).trans gi0
 have gw1:=(oth (H.n+3) (by omega)).trans gw0
 have go1:=(oth (H.n+4) (by omega)).trans go0
 have n1:K1.n=H.n+5:=by rw[hK1,Ab6,n0]
 simp(disch:=first|assumption|omega)only[P3,seval,Aah,Aao,gs0,Aa8,Aee]
 simp only[<-hK1]
 obtain⟨A1,hA1⟩:∃v:Value,v=.agg #[u.s,u.p,u.g,u.r]:=⟨_,rfl⟩
 obtain⟨A2,hA2⟩:∃v:Value,v=.agg (stl s).toArray:=⟨_,rfl⟩
 obtain⟨A4,hA4⟩:∃v:Value,v=.agg #[S64 x.oc,S32 x.nr,S32 x.rv,cv]:=⟨_,rfl⟩
 rw[Aag,<-hA1,<-hA2,<-hA4]
 refine Aal (fun q fr X=>∃i x13,fr=[A1,A2,A4,ptr H.n 0,ptr (H.n+1) 0,ptr (H.n+2) 0,ptr (H.n+3) 0,ptr (H.n+4) 0,S64 s0.us,.int .i64 ((i:Nat):Int),undef,undef,undef,x13,undef,undef,undef,undef]∧
  Chg [H.n+1] K1 X/\X.n=K1.n/\X.get (H.n+1)=some (.cells true false 68 (stl (Alb L x s0 (cs.take i))) 43)/\i<=cs.length/\i<=8/\q=8-i) 8
  ⟨0,_,rfl,Chg.refl _ _,rfl,gs1,by omega,by omega,rfl⟩ ?_
 rintro Q' q fr X ⟨i,x13,rfl,cX,nX,gsX,hi,hi8,rfl⟩ hn' hx' hret
 have kX:Aac H X:=k1.Bfh cX (by simp)
 have glX:=cX.at_ gl1 (by simp)
 have giX:=cX.at_ gi1 (by simp)
 have lX:=Aaa.Bfg gsX
 -- behind the commands
 have goon:∀{v9 v13:Value} (hcm:Alb L x s0 (cs.take i)=Alb L x s0 (cs.take 8)),Q' (.exit 0) [A1,A2,A4,ptr H.n 0,ptr (H.n+1) 0,ptr (H.n+2) 0,ptr (H.n+3) 0,ptr (H.n+4) 0,S64 s0.us,v9,undef,undef,undef,v13,undef,undef,undef,undef] X:=by
  intro v9 v13 hcm
  rw[hcm]at gsX
  obtain⟨s1,hs1⟩:∃t,t=Alb L x s0 (cs.take 8):=⟨_,rfl⟩
  rw[<-hs1]at gsX
  have ti1:∀i,s1.ti i<=20:=by rw[hs1,hs0e];exact Anf (Ane L s)
  have hst:Acj L s x cs=Ak7 L x s0.us s1 L.r.length:=by unfold Acj;rw[hs1,hs0e]
  rw[hst]at hq1 hq2
  refine hx' _ _ _ ?_
  simp(disch:=first|assumption|omega)only[P3,seval,Aah,Aao]
  rw[Aag]
  refine Aal (fun q fr Y=>∃k x14 x15,fr=[A1,A2,A4,ptr H.n 0,ptr (H.n+1) 0,ptr (H.n+2) 0,ptr (H.n+3) 0,ptr (H.n+4) 0,S64 s0.us,v9,.int .i64 ((k:Nat):Int),undef,undef,v13,x14,x15,undef,undef]∧
   Chg [H.n+1] K1 Y/\Y.n=K1.n/\Y.get (H.n+1)=some (.cells true false 68 (stl (Ak7 L x s0.us s1 k)) 43)/\k<=L.r.length/\q=L.r.length-k) L.r.length
   ⟨0,_,_,rfl,cX,nX,gsX,by omega,rfl⟩ ?_
  rintro Q2 q fr Y ⟨k,x14,x15,rfl,cY,nY,gsY,hk,rfl⟩ hn2 hx2 hret2
  have kY:Aac H Y:=k1.Bfh cY (by simp)
  have glY:=cY.at_ gl1 (by simp)
  have giY:=cY.at_ gi1 (by simp)
  have gwY:=cY.at_ gw1 (by simp)
  have goY:=cY.at_ go1 (by simp)
  have lY:=Aaa.Bfg gsY
  by_cases hlk:k<L.r.length
  ·have kN:k<64:=by omega
   have c0:(0:Int)<=(k:Int):=by omega
   have c1:((k:Nat):Int)<((L.r.length:Nat):Int):=by omega
   have hw2:=wrS (i:=k) (by omega)
   have hrs:=Al9 L x s0.us s1 k
   have tik:=Ak8 (L:=L) (x:=x) (us:=s0.us) ti1 k
   generalize Ak7 L x s0.us s1 k=t at*
   simp(disch:=first|assumption|omega)only[P4,seval,glY,gsY,Abt,ir,lenr,c1]
   refine Aae (Amf _ _) ?_
   rintro _ Z ⟨rfl,hZ⟩
   rw[hZ,Aa4 _ kN]
   cases hlo:t.lo k with
   |false=>
    rw[hlo]at hrs
    simp(disch:=first|assumption|omega)only[P4,seval,hw2]
    exact hn2 _ _ _ ⟨k+1,_,_,rfl,cY,nY,by rw[hrs];exact gsY,by omega,rfl⟩ (by omega)
   |true=>
    rw[hlo]at hrs
    simp(disch:=first|assumption|omega|(simp only[LN]<;>omega)|(simp(disch:=first|assumption|omega|(simp only[LN]<;>omega))only[Aab,Aad];assumption))only[P4,seval,glY,gsY,giY,Aa6]
    refine Aat (tR _ kY t s0.us (fun i=>by have:=tik i;omega) k hlk) ?_
    simp(disch:=first|assumption|omega)only[P4,seval,gsY,Aa8,hw2]
    exact hn2 _ _ _ ⟨k+1,_,_,rfl,cY.trans (Chg.set Y lY _) (by simp),by rw[Ab6];exact nY,by rw[Aaa.Bfe gsY,hrs];rfl,by omega,rfl⟩ (by omega)
  ·have c1:¬((k:Nat):Int)<((L.r.length:Nat):Int):=by omega
   have hke:k=L.r.length:=by omega
   subst hke
   obtain⟨t,ht⟩:∃t,t=Ak7 L x s0.us s1 L.r.length:=⟨_,rfl⟩
   rw[<-ht]at hq1 hq2 gsY
   simp(disch:=first|assumption|omega)only[P4,seval,glY,ir,lenr,c1]
   refine hx2 _ _ _ ?_
   obtain⟨Z0,hZ0⟩:∃Z,Z=Y.alloc (.cells true false 2 [S64 fun j=>decide (j<0)&&Ad3 L x t j,S32 t.po] 54):=⟨_,rfl⟩
   have kZ0:Aac Y Z0:=by rw[hZ0];exact(Aac.refl Y).alloc _
   have gz0:Z0.get Y.n=some (.cells true false 2 [S64 fun j=>decide (j<0)&&Ad3 L x t j,S32 t.po] 54):=by rw[hZ0];exact Aaa.Bfd Y _
   have e00:Value.int .u64 0=S64 fun j=>decide (j<0)&&Ad3 L x t j:=by rw[Acs];exact Abk fun i _=>by simp
   simp(disch:=first|assumption|omega|(simp only[LN]<;>omega)|(simp(disch:=first|assumption|omega|(simp only[LN]<;>omega))only[Aab,Aad];assumption))only[P3,seval,Aah,Aao,gsY,Ab0,Ayn,Ae2,Ab3]
   rw[e00,<-hZ0,Aag]
   refine Aal (fun q fr Z=>∃k x16 x17,fr=[A1,A2,A4,ptr H.n 0,ptr (H.n+1) 0,ptr (H.n+2) 0,ptr (H.n+3) 0,ptr (H.n+4) 0,S64 s0.us,v9,.int .i64 ((L.r.length:Nat):Int),ptr Y.n 0,.int .i64 ((k:Nat):Int),v13,.bool false,x15,x16,x17]∧
    Chg [Y.n] Z0 Z/\Z.get Y.n=some (.cells true false 2 [S64 fun j=>decide (j<k)&&Ad3 L x t j,S32 t.po] 54)/\k<=L.r.length/\q=L.r.length-k) L.r.length
    ⟨0,_,_,rfl,Chg.refl _ _,gz0,by omega,rfl⟩ ?_
   rintro Q3 q fr Z ⟨k,x16,x17,rfl,cZ,gz,hk,rfl⟩ hn3 hx3 hret3
   have lYn:=Nat.lt_of_lt_of_le (Aaa.Bfg gwY) (Nat.le_refl _)
   have kYZ:Aac Y Z:=kZ0.Bfh cZ (by simp)
   have kZ:Aac H Z:=kY.trans kYZ
   have glZ:=kYZ.at_ glY
   have giZ:=kYZ.at_ giY
   have gsZ:=kYZ.at_ gsY
   have gwZ:=kYZ.at_ gwY
   have goZ:=kYZ.at_ goY
   have lZ:=Aaa.Bfg gz
   by_cases hlk:k<L.r.length
   ·have kN:k<64:=by omega
    have c1:((k:Nat):Int)<((L.r.length:Nat):Int):=by omega
    have hw2:=wrS (i:=k) (by omega)
    have sh:=Ad6 kN
    simp(disch:=first|assumption|omega|(simp only[LN]<;>omega)|(simp(disch:=first|assumption|omega|(simp only[LN]<;>omega))only[Aab,Aad];assumption))only[P4,seval,glZ,giZ,gsZ,ir,lenr,c1,Aa6]
    refine Aat (tP _ kZ t k hlk) ?_
    cases hp:Ad3 L x t k with
    |false=>
     simp(disch:=first|assumption|omega)only[P4,seval,hw2]
     exact hn3 _ _ _ ⟨k+1,_,_,rfl,cZ,by rw[gz,Aos (Ad3 L x t) k hp],by omega,rfl⟩ (by omega)
    |true=>
     simp(disch:=first|assumption|omega)only[P4,seval,gz,sh,Agw,Aci,Abn,hw2]
     refine hn3 _ _ _ ⟨k+1,_,_,rfl,cZ.trans (Chg.set Z lZ _) (by simp),?_,by omega,rfl⟩ (by omega)
     rw[Aaa.Bfe gz,<-Aor (Ad3 L x t) k hp]
     congr 4
     congr 1
     funext j
     simp only[Acu,Int.ofNat_inj]
   ·have c1:¬((k:Nat):Int)<((L.r.length:Nat):Int):=by omega
    have hke:k=L.r.length:=by omega
    subst hke
    have hwl:=Aaa.Bfg gwZ
    have hol:=Aaa.Bfg goZ
    have oa:∀o,(Z.set (H.n+3) o).get (H.n+4)=Z.get (H.n+4):=fun o=>Aaa.Bff Z (by omega) hwl o
    simp(disch:=first|assumption|omega)only[P4,seval,glZ,ir,lenr,c1]
    refine hx3 _ _ _ ?_
    simp(disch:=first|assumption|omega|(simp only[LN]<;>omega)|(simp(disch:=first|assumption|omega|(simp only[LN]<;>omega))only[Aab,Aad];assumption))only[P4,seval,gsZ,gz,gwZ,goZ,oa,Aa6,Aa8,O4]
    obtain⟨pr,hpr⟩:∃pr:Nat->Bool,pr=fun j=>decide (j<L.r.length)&&Ad3 L x t j:=⟨_,rfl⟩
    rw[<-hpr]at hq2 ⊢
    refine⟨by simp,hq2 _ _ ⟨.tuple #[.agg (stl t).toArray,.agg #[S64 pr,S32 t.po]],?_,rfl,(kZ.set (by omega) hwl _).set (by omega) (by rw[Ab6];exact hol) _⟩⟩
    have ga3:((Z.set (H.n+3) (.cells true false 68 (stl t) 43)).set (H.n+4) (.cells true false 2 [S64 pr,S32 t.po] 54)).get (H.n+3)=some (.cells true false 68 (stl t) 43):=by
     rw[Aaa.Bff _ (by omega) (by rw[Ab6];exact hol)];exact Aaa.Bfe gwZ _
    have go3:((Z.set (H.n+3) (.cells true false 68 (stl t) 43)).set (H.n+4) (.cells true false 2 [S64 pr,S32 t.po] 54)).get (H.n+4)=some (.cells true false 2 [S64 pr,S32 t.po] 54):=
     Aaa.Bfe ((oa _).trans goZ) _
    show Ack [.cn 68 6,.cn 2 7] _ _=_
    have r1':Adb 68 (ptr (H.n+3) 0) ((Z.set (H.n+3) (.cells true false 68 (stl t) 43)).set (H.n+4) (.cells true false 2 [S64 pr,S32 t.po] 54))=some (.agg (stl t).toArray):=by
     rw[Ace,Abe,ga3,Aa6];rfl
    have r2':Adb 2 (ptr (H.n+4) 0) ((Z.set (H.n+3) (.cells true false 68 (stl t) 43)).set (H.n+4) (.cells true false 2 [S64 pr,S32 t.po] 54))=some (.agg #[S64 pr,S32 t.po]):=by
     rw[Ace,Abe,go3];rfl
    have e5:∀l:List Value,l.getD 6 undef=ptr (H.n+3) 0->l.getD 7 undef=ptr (H.n+4) 0->∀K,Adb 68 (ptr (H.n+3) 0) K=some (.agg (stl t).toArray)->Adb 2 (ptr (H.n+4) 0) K=some (.agg #[S64 pr,S32 t.po])→
     Ack [.cn 68 6,.cn 2 7] l K=some (.tuple #[.agg (stl t).toArray,.agg #[S64 pr,S32 t.po]]):=fun l a b K c d=>by
     simp only[Ack,Af0,RX.get,a,b,c,d];rfl
    exact e5 _ rfl rfl _ r1' r2'
 by_cases h1:i<cs.length
 ·by_cases h2:i<8
  ·obtain⟨nc,rc⟩:=(hc.keeps kX).at_ h1
   have e0:(0:Int)<=(i:Int):=by omega
   have e1:(i:Int)<((cs.length:Nat):Int):=by omega
   have e8:(i:Int)<8:=by omega
   have hw:=wrS (i:=i) (by omega)
   have hgd:cs.getD i (0,0)=cs[i]:=by rw[List.getD_eq_getElem?_getD,List.getElem?_eq_getElem h1];rfl
   have htk:cs.take (i+1)=cs.take i++[cs[i]]:=by rw[List.take_add_one,List.getElem?_eq_getElem h1];rfl
   rw[hgd]at rc
   generalize cs[i]=c at*
   obtain⟨kd,n⟩:=c
   simp(disch:=first|assumption|omega|(simp only[LN]<;>omega)|(simp(disch:=first|assumption|omega|(simp only[LN]<;>omega))only[Aab,Aad];assumption))only[P4,seval,glX,giX,gsX,isc,clen,nc,rc,e0,e1,e8,Aai,Aa6]
   refine Aat (tC _ kX _ kd n) ?_
   simp(disch:=first|assumption|omega)only[P4,seval,gsX,Aa8,hw]
   exact hn' _ _ _ ⟨i+1,_,rfl,cX.trans (Chg.set X lX _) (by simp),by rw[Ab6];exact nX,by rw[Aaa.Bfe gsX,htk,Al8],by omega,by omega,rfl⟩ (by omega)
  ·have e1:(i:Int)<((cs.length:Nat):Int):=by omega
   have e8:¬(i:Int)<8:=by omega
   have hi8':i=8:=by omega
   simp(disch:=first|assumption|omega)only[P4,seval,giX,isc,clen,e1,e8]
   exact goon (by rw[hi8'])
 ·have e1:¬(i:Int)<((cs.length:Nat):Int):=by omega
  have hil:i=cs.length:=by omega
  simp(disch:=first|assumption|omega)only[P4,seval,giX,isc,clen,e1]
  exact goon (by rw[List.take_of_length_le (by omega),List.take_of_length_le (by omega)])
theorem Ayq:Bdu=stl Abi:=Ac9
theorem Ayr:Bdv=List.replicate 68 1:=rfl
theorem t42{H:Aaa}(f:Nat->Bool){n:Int}(h:0<=n):∃w H',Aaq Tryz.prog 0 42 [S64 f,.int .i64 n] H w H'/\w=.bool (Abx f n)/\H'=H:=by
 refine Aam f42 ?_
 intro Q hq1 hq2
 obtain⟨m,rfl⟩:∃m:Nat,n=(m:Int):=⟨n.toNat,by omega⟩
 simp(disch:=first|assumption|omega)only[f42,P4,seval,Apu,Ayh,A1i,Aci,Be1]
 refine hq2 _ _ ⟨.bool _,rfl,?_,rfl⟩
 unfold Abx
 have e:decide ((m:Int)<64)=decide (m<64):=by rw[decide_eq_decide];omega
 simp[e]
def Ama(L:Ly)(s:Sta)(i:Nat):Sta where
 lo:=fun j=>s.lo j&&decide (j<i)
 us:=fun j=>s.us j&&(s.lo j&&decide (j<i))
 ca:=fun j=>s.ca j&&(s.lo j&&decide (j<i))
 ti:=fun j=>if s.ca j&&(s.lo j&&decide (j<i))then min (s.ti j) 20 else 0
 po:=fun j=>s.po j&&Abr L.p.length j
theorem A62(L:Ly)(s:Sta):stl (Ama L s 0)=stl {Abi with po:=fun j=>s.po j&&Abr L.p.length j}:=
 Ade (fun _ _=>by simp[Ama,Abi]) (fun _ _=>by simp[Ama,Abi]) (fun _ _=>by simp[Ama,Abi]) (fun _ _=>by simp[Ama,Abi]) (fun _ _=>rfl)
theorem A63(L:Ly)(s:Sta):Ama L s L.r.length=Ach L s:=by
 have e:∀j:Nat,decide (j<L.r.length)=Abr L.r.length j:=fun j=>by unfold Abr;rw[decide_eq_decide];omega
 unfold Ama Ach
 simp only[e]
def Ba6(s:Sta)(i:Nat)(t:Sta):Sta:=if s.lo i then⟨fun j=>t.lo j||decide (j=i),if s.us i then(fun j=>t.us j||decide (j=i))else t.us,if s.ca i then(fun j=>t.ca j||decide (j=i))else t.ca,if s.ca i then upd t.ti i (min (s.ti i) 20)else t.ti,t.po⟩else t
theorem A64(L:Ly)(s:Sta)(i:Nat):stl (Ama L s (i+1))=stl (Ba6 s i (Ama L s i)):=by
 have lt:∀j,j≠i->decide (j<i+1)=decide (j<i):=fun j h=>by rw[decide_eq_decide];omega
 have lp:∀j,j≠i->(j<i+1)=(j<i):=fun j h=>propext (by omega)
 unfold Ba6
 cases h1:s.lo i with
 |false=>
  refine Ade (fun j _=>?_) (fun j _=>?_) (fun j _=>?_) (fun j _=>?_) (fun _ _=>rfl)
  all_goals
   by_cases e:j=i
   ·subst e;simp[Ama,h1]
   ·simp[Ama,lt j e,lp j e]
 |true=>
  simp only[if_true]
  cases h2:s.us i<;>cases h3:s.ca i<;>
  ·refine Ade (fun j _=>?_) (fun j _=>?_) (fun j _=>?_) (fun j _=>?_) (fun _ _=>rfl)
   all_goals
    by_cases e:j=i
    ·subst e;simp[Ama,upd,h1,h2,h3]
    ·simp[Ama,upd,lt j e,lp j e,e]
theorem t41{H:Aaa}{b:Nat}{L:Ly}(h:MaA H b L)(hL:L.r.length<=64)(s:Sta):∃w H',Aaq Tryz.prog 0 41 [ptr b 0,.agg (stl s).toArray] H w H'/\w=.agg (stl (Ach L s)).toArray/\H'=H:=by
 refine Ayf ?_
 refine Aam f41 ?_
 intro Q hq1 hq2
 obtain⟨vl,vi,ls,own,room,T,gb,sl,ok,si⟩:=h.x
 have hbl:=Aaa.Bfg gb
 obtain⟨K0,hK0⟩:∃X,X=((H.alloc (.cells true false 68 (stl s) 43)).alloc (.cells true false 68 (stl Abi) 43)).alloc (.cells true false 68 (stl {Abi with po:=fun j=>s.po j&&Abr L.p.length j}) 43):=⟨_,rfl⟩
 have k0:Aac H K0:=by rw[hK0];exact(((Aac.refl H).alloc _).alloc _).alloc _
 have n0:K0.n=H.n+3:=by rw[hK0];rfl
 have gs0:K0.get H.n=some (.cells true false 68 (stl s) 43):=by rw[hK0];exact(((Aac.refl _).alloc _).alloc _).at_ (Aaa.Bfd H _)
 have gw0:K0.get (H.n+1)=some (.cells true false 68 (stl Abi) 43):=by rw[hK0];exact((Aac.refl _).alloc _).at_ (Aaa.Bfd (H.alloc _) _)
 have go0:K0.get (H.n+2)=some (.cells true false 68 (stl (Ama L s 0)) 43):=by rw[hK0,A62];exact Aaa.Bfd ((H.alloc _).alloc _) _
 have gb0:=k0.at_ gb
 have hb1:¬b=H.n:=by omega
 have hb2:¬b=H.n+1:=by omega
 have hb3:¬b=H.n+2:=by omega
 have hbl1:b<H.n+1:=by omega
 have hbl2:b<H.n+2:=by omega
 have isl:=Sl.is sl
 have lenl:Ab9 vl=L.r.length:=by have:=Sl.len sl;simpa[Ado]using this
 unfold amc at gb gb0
 simp(disch:=first|assumption|omega|(simp only[LN]<;>omega)|(simp(disch:=first|assumption|omega|(simp only[LN]<;>omega))only[Aab,Aad];assumption))only[f41,P3,seval,Aah,Aao,Aas,Aaf,Ayq,Ab0,Afl,gb,hbl,hbl1,hbl2,hb1,hb2,hb3,Afa,Ab3,Ae2,isl,lenl]
 rw[<-hK0,Aag]
 have h12:H.n+1+1=H.n+2:=rfl
 rw[h12]
 refine Aal (fun q fr K=>∃i x5 x9 x10 x11 x12,fr=[ptr b 0,.agg (stl s).toArray,ptr H.n 0,ptr (H.n+1) 0,ptr (H.n+2) 0,x5,.bool false,.int .i64 ((L.r.length:Nat):Int),.int .i64 ((i:Nat):Int),x9,x10,x11,x12]∧
  Chg [H.n+2] K0 K/\K.get (H.n+2)=some (.cells true false 68 (stl (Ama L s i)) 43)/\i<=L.r.length/\q=L.r.length-i) L.r.length
  ⟨0,_,_,_,_,_,rfl,Chg.refl _ _,go0,by omega,rfl⟩ ?_
 rintro Q' q fr K ⟨i,x5,x9,x10,x11,x12,rfl,cK,go,hi,rfl⟩ hn' hx' hret
 have gs:=cK.at_ gs0 (by simp)
 have gw:=cK.at_ gw0 (by simp)
 have hol:=Aaa.Bfg go
 have hwl:=Aaa.Bfg gw
 by_cases hlt:i<L.r.length
 ·have iN:i<64:=by omega
  have e0:(0:Int)<=(i:Int):=by omega
  have e1:(i:Int)<((L.r.length:Nat):Int):=by omega
  have e64:(i:Int)<64:=by omega
  have hw:=wrS (i:=i) (by omega)
  have sh:=Ad6 iN
  have gsx:∀o,(K.set (H.n+2) o).get H.n=some (.cells true false 68 (stl s) 43):=fun o=>by rw[Aaa.Bff K (by omega) hol];exact gs
  have gox:∀o,(K.set (H.n+2) o).get (H.n+2)=some o:=fun o=>Aaa.Bfe go o
  have hmn:min ((s.ti i:Nat):Int) 20=((min (s.ti i) 20:Nat):Int):=by omega
  have st:=Ak2 s iN
  have st1:=fun t:Sta=>Ajl t iN (min (s.ti i) 20)
  have hll:3+i<68:=by omega
  have hstep:=A64 L s i
  unfold Ba6 at hstep
  generalize Ama L s i=t at*
  have fin:∀{v10 v11 v12:Value} (t':Sta),stl (Ama L s (i+1))=stl t'->Q' .normal [ptr b 0,.agg (stl s).toArray,ptr H.n 0,ptr (H.n+1) 0,ptr (H.n+2) 0,.int .i64 ((i:Nat):Int),.bool false,.int .i64 ((L.r.length:Nat):Int),.int .i64 ((i+1:Nat):Int),.bool true,v10,v11,v12] (K.set (H.n+2) (.cells true false 68 (stl t') 43)):=fun t' e=>
   hn' _ _ _ ⟨i+1,_,_,_,_,_,rfl,cK.trans (Chg.set K hol _) (by simp),by rw[e];exact Aaa.Bfe go _,by omega,rfl⟩ (by omega)
  simp(disch:=first|assumption|omega)only[P4,seval,e1,gs,Abt]
  refine Aae (t42 _ e0) ?_
  rintro _ X ⟨rfl,hX⟩
  rw[hX,Aa4 _ iN]
  cases h1:s.lo i with
  |false=>
   rw[h1]at hstep
   simp(disch:=first|assumption|omega)only[P4,seval,hw]
   exact hn' _ _ _ ⟨i+1,_,_,_,_,_,rfl,cK,by rw[hstep];exact go,by omega,rfl⟩ (by omega)
  |true=>
  rw[h1]at hstep
  simp(disch:=first|assumption|omega)only[P4,seval,gs,go,gsx,gox,Abt,Aee,Adm,Ahh,Ahx,Agt,sh,Agw,Aci,Abn,Aaf]
  refine Aae (t42 _ e0) ?_
  rintro _ X ⟨rfl,hX⟩
  rw[hX,Aa4 _ iN]
  cases h2:s.us i with
  |false=>
   rw[h2]at hstep
   simp(disch:=first|assumption|omega)only[P4,seval,gs,go,gsx,gox,Abt,Aee,Adm,Ahh,Ahx,Agt,sh,Agw,Aci,Abn,Aaf]
   refine Aae (t42 _ e0) ?_
   rintro _ X ⟨rfl,hX⟩
   rw[hX,Aa4 _ iN]
   cases h3:s.ca i with
   |false=>
    rw[h3]at hstep
    simp(disch:=first|assumption|omega)only[P4,seval,hw]
    exact fin _ hstep
   |true=>
    rw[h3]at hstep
    simp(disch:=first|assumption|omega)only[P4,seval,gs,go,gsx,gox,Abt,Aee,Adm,Ahh,Ahx,Agt,sh,Agw,Aci,Abn,Aaf,e0,e64,Afj,hmn,Aaz,st,st1,hll,Int.toNat_natCast,Nat.mul_one,hw]
    exact fin _ hstep
  |true=>
   rw[h2]at hstep
   simp(disch:=first|assumption|omega)only[P4,seval,gs,go,gsx,gox,Abt,Aee,Adm,Ahh,Ahx,Agt,sh,Agw,Aci,Abn,Aaf]
   refine Aae (t42 _ e0) ?_
   rintro _ X ⟨rfl,hX⟩
   rw[hX,Aa4 _ iN]
   cases h3:s.ca i with
   |false=>
    rw[h3]at hstep
    simp(disch:=first|assumption|omega)only[P4,seval,hw]
    exact fin _ hstep
   |true=>
    rw[h3]at hstep
    simp(disch:=first|assumption|omega)only[P4,seval,gs,go,gsx,gox,Abt,Aee,Adm,Ahh,Ahx,Agt,sh,Agw,Aci,Abn,Aaf,e0,e64,Afj,hmn,Aaz,st,st1,hll,Int.toNat_natCast,Nat.mul_one,hw]
    exact fin _ hstep
 ·have e1:¬((i:Nat):Int)<((L.r.length:Nat):Int):=by omega
  have hie:i=L.r.length:=by omega
  subst hie
  rw[A63]at go
  simp(disch:=first|assumption|omega)only[P4,seval,e1]
  refine hx' _ _ _ ?_
  simp(disch:=first|assumption|omega)only[P4,seval,go,gw,Aa6,Aa8]
  refine hq2 _ _ ⟨_,?_,rfl,(k0.Bfh cK (by simp)).set (by omega) hwl _⟩
  show Ack [.cn 68 3] _ _=_
  rw[Aoa]
  show Adb 68 (ptr (H.n+1) 0) _=_
  rw[Ace,Abe,Aaa.Bfe gw,Aa9 (Aaf _)];rfl
def p64(f:Nat->Bool):Nat->Bool:=fun i=>decide (i<32)&&f i
theorem Ai5(f:Nat->Bool){n:Int}(h:0<=n)(h2:n<32):Abx (p64 f) n=f n.toNat:=by
 unfold Abx p64
 have e1:n<64:=by omega
 have e2:n.toNat<32:=by omega
 simp[h,e1,e2]
theorem t44{H:Aaa}{s:Sta}{b T:Nat}{o r:Bool}{n:Int}(gb:H.get b=some (.cells o r 68 (stl s) T))(h:0<=n):
 ∃w H',Aaq Tryz.prog 0 44 [.int .i64 n,ptr b 0] H w H'/\w=.bool (Abx s.lo n)/\H'=H:=by
 refine Aam f44 ?_
 intro Q hq1 hq2
 simp(disch:=first|assumption|omega)only[f44,P4,seval,gb,Abt]
 refine Aat (t42 _ h) ?_
 simp(disch:=first|assumption|omega)only[P4,seval]
 exact hq2 _ _ ⟨_,rfl,rfl,rfl⟩
theorem t46{H:Aaa}{s:Sta}{b T:Nat}{o r:Bool}{z:Int×Bool}(gb:H.get b=some (.cells o r 68 (stl s) T))(h:0<=z.1):
 ∃w H',Aaq Tryz.prog 0 46 [.agg (Aft z).toArray,ptr b 0] H w H'/\w=.bool (Abx (p64 s.po) z.1 != z.2)/\H'=H:=by
 refine gcb ?_
 refine Aam f46 ?_
 intro Q hq1 hq2
 have kA:=(Aac.refl H).alloc (.cells true false 2 [.int .i64 z.1,.bool z.2] 120)
 have lb:=Aaa.Bfg gb
 have hb:¬b=H.n:=by omega
 have es:S64 (fun i=>decide (i<32)&&s.po i)=S64 (p64 s.po):=rfl
 unfold Aft
 simp(disch:=first|assumption|omega)only[f46,P4,seval,gb,Ab0,A6e,lb,hb]
 rw[es]
 refine Aat (t42 _ h) ?_
 have bx:∀a c:Bool,(if true=true then !(a==c)else(a==c))=(a != c):=fun a c=>by cases a<;>cases c<;>rfl
 simp(disch:=first|assumption|omega)only[P4,seval]
 exact hq2 _ _ ⟨_,rfl,by cases Abx (p64 s.po) z.1<;>cases z.2<;>rfl,kA⟩
def Ays(L:Ly)(s:Sta)(i:Nat):Bool:= !s.lo i||(!((cfl L i L.r.length).any fun k=>Abx s.lo k)&& !((nds (ro L i)).any fun z=>Abx (p64 s.po) z.1 != z.2))
def A2m(L:Ly)(s:Sta):Bool:=Atz (Ach L s) s&&(List.range L.r.length).all (Ays L s)
theorem A65{L:Ly}{i n:Nat}:∀x∈cfl L i n,0<=x/\x<n:=by
 intro x hx
 unfold cfl at hx
 obtain⟨k,hk,rfl⟩:=List.mem_map.1 hx
 have:=List.mem_range.1 (List.mem_filter.1 hk).1
 omega
theorem Atp{L:Ly}{i:Nat}(hL:L.r.length<=64)(s:Sta):((cfl L i L.r.length).any fun k=>Abx s.lo k)=(List.range L.r.length).any fun k=>(decide (i≠k)&&s.lo k)&&cf L i k:=by
 unfold cfl
 rw[List.any_map,List.any_filter,Bool.eq_iff_iff,List.any_eq_true,List.any_eq_true]
 constructor
 ·rintro⟨k,hk,h⟩
  have:=List.mem_range.1 hk
  refine⟨k,hk,?_⟩
  simp only[Function.comp,Aa4 s.lo (show k<64 by omega),Bool.and_eq_true,bne_iff_ne]at h
  simp[h.1.2,h.2];exact fun e=>h.1.1 e.symm
 ·rintro⟨k,hk,h⟩
  have:=List.mem_range.1 hk
  refine⟨k,hk,?_⟩
  simp only[Function.comp,Aa4 s.lo (show k<64 by omega)]
  simp only[Bool.and_eq_true,decide_eq_true_eq]at h
  simp[h.1.2,h.2];exact fun e=>h.1.1 e.symm
theorem Af4{L:Ly}(he:Aan L=0){i:Nat}(hi:i<L.r.length):∀z∈nds (ro L i),0<=z.1/\z.1<32:=by
 intro z hz
 have hg:=(Aay he (List.getElem_mem hi)).nd z (by rw[<-Acn hi];exact hz)
 have:=(Aa1 (Aar he)).p
 exact⟨hg.1,by omega⟩
theorem A66{L:Ly}(he:Aan L=0)(s:Sta):A2m L s=Ajm L s:=by
 have hL:=(Aa1 (Aar he)).r
 unfold A2m Ajm
 congr 1
 apply Bool.eq_iff_iff.2
 rw[List.all_eq_true,List.all_eq_true]
 have key:∀i,i<L.r.length->Ays L s i=iOK L s i:=by
  intro i hi
  unfold Ays iOK
  rw[Atp hL]
  have e1:((nds (ro L i)).any fun z=>Abx (p64 s.po) z.1 != z.2)=(nds (ro L i)).any fun z=>s.po z.1.toNat != z.2:=by
   rw[Bool.eq_iff_iff,List.any_eq_true,List.any_eq_true]
   constructor
   ·rintro⟨z,hz,h⟩;exact⟨z,hz,by rw[Ai5 _ (Af4 he hi z hz).1 (Af4 he hi z hz).2]at h;exact h⟩
   ·rintro⟨z,hz,h⟩;exact⟨z,hz,by rw[Ai5 _ (Af4 he hi z hz).1 (Af4 he hi z hz).2];exact h⟩
  rw[e1,List.not_any_eq_all_not,List.not_any_eq_all_not]
  cases hlo:s.lo i with
  |false=>simp[nOK,hlo]
  |true=>
   have ek:kOK L s i=fun k=> !((decide (i≠k)&&s.lo k)&&cf L i k):=rfl
   have en:nOK s i=fun z=> !(s.lo i&&(s.po z.1.toNat != z.2)):=rfl
   rw[ek,en]
   simp only[hlo,Bool.not_true,Bool.false_or,Bool.true_and]
 constructor
 ·intro h i hi;rw[<-key i (List.mem_range.1 hi)];exact h i hi
 ·intro h i hi;rw[key i (List.mem_range.1 hi)];exact h i hi
theorem t16{H:Aaa}{b:Nat}{L:Ly}(h:MaA H b L)(he:Aan L=0)(s:Sta):∃w H',Aaq Tryz.prog 0 16 [ptr b 0,.agg (stl s).toArray] H w H'/\w=.bool (Ajm L s)/\H'=H:=by
 rw[<-A66 he]
 refine gcb ?_
 refine Aam f16 ?_
 intro Q hq1 hq2
 have hLm:=Aa1 (Aar he)
 have lr:=hLm.r
 obtain⟨K0,hK0⟩:∃X,X=H.alloc (.cells true false 68 (stl s) 43):=⟨_,rfl⟩
 have k0:Aac H K0:=by rw[hK0];exact(Aac.refl H).alloc _
 have gs0:K0.get H.n=some (.cells true false 68 (stl s) 43):=by rw[hK0];exact Aaa.Bfd H _
 have tT:=t41 (h.keeps k0) lr s
 obtain⟨vl,vi,ls,own,room,T,gb,sl,ok,si⟩:=h.x
 have gb0:=k0.at_ gb
 have isl:=Sl.is sl
 have lenl:Ab9 vl=L.r.length:=by have:=Sl.len sl;simpa[Ado]using this
 have bl:=Aaa.Bfg gb
 have eqs0:=fun K neg a b=>Ahs K neg a b
 have l0:=Aaa.Bfg gs0
 unfold amc at gb0
 simp(disch:=first|assumption|omega)only[f16,P4,seval,Aas,Aaf,Aa6]
 rw[<-hK0]
 refine Aae tT ?_
 rintro _ X ⟨rfl,hX⟩
 rw[hX]
 cases hst:Atz (Ach L s) s with
 |false=>
  have hr:A2m L s=false:=by unfold A2m;rw[hst];rfl
  simp(disch:=first|assumption|omega|(simp only[LN]<;>omega)|(simp(disch:=first|assumption|omega|(simp only[LN]<;>omega))only[Aab,Aad];assumption))only[Aag,P3,↓reduceIte,reduceAdd,reduceEqDiff,reduceCtorEq,Aah,reduceLT,Aao,reduceLeDiff,reduceMul,reduceSub,reduceIte,gs0,l0,Aa6,Ayr,eqs0,hst]
  exact hq2 _ _ ⟨.bool false,rfl,by rw[hr],k0⟩
 |true=>
 have hr:A2m L s=(List.range L.r.length).all (Ays L s):=by unfold A2m;rw[hst];rfl
 simp(disch:=first|assumption|omega|(simp only[LN]<;>omega)|(simp(disch:=first|assumption|omega|(simp only[LN]<;>omega))only[Aab,Aad];assumption))only[P3,↓reduceIte,reduceAdd,reduceEqDiff,reduceCtorEq,Aah,reduceLT,Aao,reduceLeDiff,reduceMul,reduceSub,reduceIte,gs0,l0,Aa6,Ayr,eqs0,hst,gb0,isl,lenl]
 rw[Aag]
 obtain⟨A2,hA2⟩:∃v:Value,v=.agg (stl s).toArray:=⟨_,rfl⟩
 rw[<-hA2]
 refine Aal (fun q fr K=>∃i x4 x5 x10 x11 x12,fr=[ptr b 0,A2,ptr H.n 0,.bool false,x4,x5,.bool false,vl,.int .i64 ((L.r.length:Nat):Int),.int .i64 ((i:Nat):Int),x10,x11,x12]∧
  Aac K0 K/\(List.range i).all (Ays L s)=true/\i<=L.r.length/\q=L.r.length-i) L.r.length
  ⟨0,_,_,_,_,_,rfl,Aac.refl _,rfl,by omega,rfl⟩ ?_
 rintro Q' q fr K ⟨i,x4,x5,x10,x11,x12,rfl,kK,hall,hi,rfl⟩ hn' hx' hret
 by_cases hlt:i<L.r.length
 ·have iN:i<64:=by omega
  have e0:(0:Int)<=(i:Int):=by omega
  have e1:(i:Int)<((L.r.length:Nat):Int):=by omega
  have hw:=wrS (i:=i) (by omega)
  obtain⟨na,ra⟩:=((sl.keeps k0).keeps kK).at_ (by omega) (i:=i) (by simp[Ado];exact hlt)
  have era:(Ado L ls L.r.length)[i]'(by simp[Ado];exact hlt)=Ah9 L i (ls i):=by simp[Ado]
  rw[era]at ra
  have oki:=((ok i hlt).keeps k0).keeps kK
  have w1:=Aap (Sl.is oki.t.s)
  have w2:=Aap (Sl.is oki.n.s)
  have w3:=Aap (Sl.is oki.c.s)
  have w4:∀x:Int,one1 (Value.int .i64 x)=True:=fun x=>by simp[one1,Aav]
  have snoc:=fun e=>Afx (p:=Ays L s) hall e
  have bad:=fun e=>Al6 (p:=Ays L s) hlt e
  have hrg:Ays L s i=(!s.lo i||(!((cfl L i L.r.length).any fun k=>Abx s.lo k)&& !((nds (ro L i)).any fun z=>Abx (p64 s.po) z.1 != z.2))):=rfl
  have gsK:=kK.at_ gs0
  have tIn:=fun K' n h=>t42 (H:=K') s.lo (n:=n) h
  have lcf:=Anh L i L.r.length
  have lnd:(nds (ro L i)).length<=32:=by
   have hgood:=Aay he (List.getElem_mem hlt)
   rw[<-Acn hlt]at hgood
   have:=hgood.lim.q;have:=hgood.lim.f;simp[nds];omega
  unfold Ah9 at ra
  have kKA:=kK.alloc (.cells true false 5 (Ah9 L i (ls i)) 107)
  have gsA:=kKA.at_ gs0
  have okA:=oki.keeps ((Aac.refl K).alloc (.cells true false 5 (Ah9 L i (ls i)) 107))
  obtain⟨KA,hKA⟩:∃X,X=K.alloc (.cells true false 5 (Ah9 L i (ls i)) 107):=⟨_,rfl⟩
  have gaA:KA.get K.n=some (.cells true false 5 (Ah9 L i (ls i)) 107):=by rw[hKA];exact Aaa.Bfd K _
  rw[<-hKA]at kKA gsA okA
  unfold Ah9 at gaA hKA
  have lA:=Aaa.Bfg gsA
  have lA2:=Aaa.Bfg gaA
  simp(disch:=first|assumption|omega|(simp only[LN]<;>omega)|(simp(disch:=first|assumption|omega|(simp only[LN]<;>omega))only[Aab,Aad];assumption))only[P4,seval,e1,lenl,na,ra,Aai,w1,w2,w3,w4]
  rw[<-hKA]
  simp(disch:=first|assumption|omega)only[P4,seval,gsA,Abt]
  refine Aae (t42 _ e0) ?_
  rintro _ X ⟨rfl,hX⟩
  rw[hX,Aa4 _ iN]
  cases h1:s.lo i with
  |false=>
   rw[h1]at hrg
   simp(disch:=first|assumption|omega)only[P4,seval,hw]
   exact hn' _ _ _ ⟨i+1,_,_,_,_,_,rfl,kKA,snoc hrg,by omega,rfl⟩ (by omega)
  |true=>
  rw[h1]at hrg
  simp(disch:=first|assumption|omega)only[P4,seval,gsA,gaA]
  refine Aat (t43 okA.c.s (by omega) (p:=fun k=>Abx s.lo k) (fun x hx=>t44 gsA (A65 x hx).1)) ?_
  cases h2:(cfl L i L.r.length).any fun k=>Abx s.lo k with
  |true=>
   rw[h2]at hrg
   simp(disch:=first|assumption|omega)only[P4,seval]
   refine hret _ _ ?_
   exact hq2 _ _ ⟨_,rfl,by rw[hr,bad hrg];rfl,k0.trans kKA⟩
  |false=>
  rw[h2]at hrg
  simp(disch:=first|assumption|omega)only[P4,seval,gsA,gaA]
  refine Aat (t45 okA.n.s (by omega) (p:=fun z=>Abx (p64 s.po) z.1 != z.2) (fun z hz=>t46 gsA (Af4 he hlt z hz).1)) ?_
  cases h3:(nds (ro L i)).any fun z=>Abx (p64 s.po) z.1 != z.2 with
  |true=>
   rw[h3]at hrg
   simp(disch:=first|assumption|omega)only[P4,seval]
   refine hret _ _ ?_
   exact hq2 _ _ ⟨_,rfl,by rw[hr,bad hrg];rfl,k0.trans kKA⟩
  |false=>
   rw[h3]at hrg
   simp(disch:=first|assumption|omega)only[P4,seval,hw]
   exact hn' _ _ _ ⟨i+1,_,_,_,_,_,rfl,kKA,snoc hrg,by omega,rfl⟩ (by omega)
 ·have e1:¬((i:Nat):Int)<((L.r.length:Nat):Int):=by omega
  have hie:i=L.r.length:=by omega
  subst hie
  simp(disch:=first|assumption|omega)only[P4,seval,e1]
  refine hx' _ _ _ ?_
  simp(disch:=first|assumption|omega)only[P4,seval]
  exact hq2 _ _ ⟨_,rfl,by rw[hr,hall];rfl,k0.trans kK⟩
def cyl(b:Nat)(s:Sta)(x:Inp)(cv:Value)(us:Nat->Bool):List Value:=ptr b 0::(stl s++[S64 x.oc,S32 x.nr,S32 x.rv,cv,S64 us])
theorem Ada(b:Nat)(s:Sta)(x:Inp)(cv:Value)(us:Nat->Bool):(cyl b s x cv us).length=74:=by simp[cyl,Aaf]
section
variable {b:Nat} {s:Sta} {x:Inp} {cv:Value} {us:Nat->Bool}
theorem Atq{i:Nat}(h:i<68):(cyl b s x cv us)[i+1]? =(stl s)[i]? :=by
 show(stl s++_)[i]? =_
 rw[List.getElem?_append_left (by rw[Aaf];exact h)]
theorem A67{i:Nat}:(cyl b s x cv us)[i+69]? =[S64 x.oc,S32 x.nr,S32 x.rv,cv,S64 us][i]? :=by
 show(stl s++_)[i+68]? =_
 rw[List.getElem?_append_right (by rw[Aaf];omega),Aaf];rfl
theorem Aeh:(cyl b s x cv us)[0]? =some (ptr b 0):=rfl
theorem Atr:(cyl b s x cv us)[1]? =some (S64 s.lo):=(Atq (by omega)).trans (Abt s)
theorem Apx:(cyl b s x cv us)[2]? =some (S64 s.us):=(Atq (by omega)).trans (Aee s)
theorem Ani:(cyl b s x cv us)[3]? =some (S64 s.ca):=(Atq (by omega)).trans (Adm s)
theorem Amb:(cyl b s x cv us)[68]? =some (S32 s.po):=(Atq (by omega)).trans (Ab0 s)
theorem A68:(cyl b s x cv us)[69]? =some (S64 x.oc):=A67 (i:=0)
theorem A69:(cyl b s x cv us)[73]? =some (S64 us):=A67 (i:=4)
theorem Ba7{i:Nat}(h:i<64):(cyl b s x cv us)[4+i]? =some (.int .u8 (s.ti i:Nat)):=by
 have e:4+i=(3+i)+1:=by omega
 rw[e,Atq (by omega),Ak2 s h]
theorem Ai6{i:Nat}(h:i<68)(v:Value){s':Sta}(hs:(stl s).set i v=stl s'):(cyl b s x cv us).set (i+1) v=cyl b s' x cv us:=by
 show _::(stl s++_).set i v=_
 rw[List.set_append_left _ _ (by rw[Aaf];exact h),hs];rfl
theorem Awl(f:Nat->Bool):(cyl b s x cv us).set 1 (S64 f)=cyl b {s with lo:=f} x cv us:=Ai6 (by omega) _ (Ahh s f)
theorem A12(f:Nat->Bool):(cyl b s x cv us).set 2 (S64 f)=cyl b {s with us:=f} x cv us:=Ai6 (by omega) _ (Ahx s f)
theorem Awm(f:Nat->Bool):(cyl b s x cv us).set 3 (S64 f)=cyl b {s with ca:=f} x cv us:=Ai6 (by omega) _ (Agt s f)
theorem Ats(f:Nat->Bool):(cyl b s x cv us).set 68 (S32 f)=cyl b {s with po:=f} x cv us:=Ai6 (by omega) _ (Afl s f)
theorem A13{i:Nat}(h:i<64)(n:Nat):(cyl b s x cv us).set (4+i) (.int .u8 (n:Nat))=cyl b {s with ti:=upd s.ti i n} x cv us:=by
 have e:4+i=(3+i)+1:=by omega
 rw[e];exact Ai6 (by omega) _ (Ajl s h n)
theorem A7a{i:Nat}(h:i<64):(cyl b s x cv us).set (4+i) (.int .u8 0)=cyl b {s with ti:=upd s.ti i 0} x cv us:=A13 h 0
theorem A14{i:Nat}(h:i<64):(cyl b s x cv us).set (4+i) (.int .u8 20)=cyl b {s with ti:=upd s.ti i 20} x cv us:=A13 h 20
theorem A7b(f:Nat->Bool):(cyl b s x cv us).set 73 (S64 f)=cyl b s x cv f:=by
 show _::(stl s++_).set 72 _=_
 rw[List.set_append_right _ _ (by rw[Aaf];omega),Aaf];rfl
theorem A7c:((cyl b s x cv us).drop 1).take 68=stl s:=by
 show(stl s++_).take 68=_
 rw[List.take_append_of_le_length (by rw[Aaf];omega),List.take_of_length_le (by rw[Aaf];omega)]
theorem A7d:((cyl b s x cv us).drop 69).take 4=inl x cv:=by
 have e:cyl b s x cv us=(ptr b 0::stl s)++[S64 x.oc,S32 x.nr,S32 x.rv,cv,S64 us]:=rfl
 rw[e,List.drop_append,List.drop_of_length_le (by simp[Aaf])]
 simp[Aaf,inl]
theorem A15(o r:Bool)(T:Nat):Ac5 (some (.cells o r 74 (cyl b s x cv us) T)) 1 68=some (stl s):=by
 rw[Agl,if_pos (by rw[Ada];omega),A7c]
theorem A16(o r:Bool)(T:Nat):Ac5 (some (.cells o r 74 (cyl b s x cv us) T)) 69 4=some (inl x cv):=by
 rw[Agl,if_pos (by rw[Ada];omega),A7d]
end
def CyR(H:Aaa)(c b:Nat)(s:Sta)(x:Inp)(cv:Value)(us:Nat->Bool):Prop:=H.get c=some (.cells true false 74 (cyl b s x cv us) 241)
section
variable {H:Aaa} {c b:Nat} {s:Sta} {x:Inp} {cv:Value} {us:Nat->Bool}
theorem A2n(h:CyR H c b s x cv us){n:Int}(hn:0<=n):∃w H',Aaq Tryz.prog 0 165 [ptr c 0,.int .i64 n] H w H'/\w=.bool (!Abx x.oc n)/\H'=H:=by
 refine Aam Bd5 ?_
 intro Q hq1 hq2
 unfold CyR at h
 simp(disch:=first|assumption|omega)only[Bd5,P4,seval,h,A68]
 refine Aat (t42 _ hn) ?_
 simp(disch:=first|assumption|omega)only[P4,seval]
 exact hq2 _ _ ⟨_,rfl,rfl,rfl⟩
theorem A2o(h:CyR H c b s x cv us){n:Int}(hn:0<=n):∃w H',Aaq Tryz.prog 0 158 [ptr c 0,.int .i64 n] H w H'/\w=.bool (Abx s.lo n)/\H'=H:=by
 refine Aam Bd2 ?_
 intro Q hq1 hq2
 unfold CyR at h
 simp(disch:=first|assumption|omega)only[Bd2,P4,seval,h,Atr]
 refine Aat (t42 _ hn) ?_
 simp(disch:=first|assumption|omega)only[P4,seval]
 exact hq2 _ _ ⟨_,rfl,rfl,rfl⟩
theorem t169(h:CyR H c b s x cv us){p T:Nat}{o r:Bool}(hp:H.get p=some (.cells o r 1 [ptr c 0] T)){n:Int}(hn:0<=n):∃w H',Aaq Tryz.prog 0 169 [.int .i64 n,ptr p 0] H w H'/\w=.bool (Abx x.oc n)/\H'=H:=by
 refine Aam Bd7 ?_
 intro Q hq1 hq2
 simp(disch:=first|assumption|omega)only[Bd7,P4,seval,hp]
 refine Aat (A2n h hn) ?_
 simp(disch:=first|assumption|omega)only[P4,seval]
 exact hq2 _ _ ⟨.bool _,rfl,by simp,rfl⟩
end
theorem A7e{L:Ly}(he:Aan L=0){i:Nat}(hi:i<L.r.length):∀z∈trk (ro L i),0<=z:=by
 intro z hz
 exact((Aay he (List.getElem_mem hi)).tr z (by rw[<-Acn hi];exact hz)).1
theorem A7f{L:Ly}(he:Aan L=0){i:Nat}(hi:i<L.r.length):(trk (ro L i)).length<=1000000:=by
 have hgood:=Aay he (List.getElem_mem hi)
 rw[<-Acn hi]at hgood
 have:=hgood.lim.p;have:=hgood.lim.o;simp[trk];omega
theorem Att{L:Ly}(he:Aan L=0){i:Nat}(hi:i<L.r.length):(nds (ro L i)).length<=32:=by
 have hgood:=Aay he (List.getElem_mem hi)
 rw[<-Acn hi]at hgood
 have:=hgood.lim.q;have:=hgood.lim.f;simp[nds];omega
theorem MaA.row{H:Aaa}{L:Ly}{vl:Value}{ls:Nat->V3}(sl:Sl H 5 vl (Ado L ls L.r.length)){i:Nat}(hi:i<L.r.length):nnS vl=true/\Afs H 5 vl i=some (Ah9 L i (ls i)):=by
 obtain⟨na,ra⟩:=sl.at_ (by omega) (i:=i) (by simp[Ado];exact hi)
 refine⟨na,?_⟩
 rw[ra];simp[Ado]
theorem A77{H:Aaa}{c b:Nat}{s:Sta}{x:Inp}{cv:Value}{us:Nat->Bool}{L:Ly}(h:CyR H c b s x cv us)(hm:MaA H b L)(he:Aan L=0){i:Nat}(hi:i<L.r.length):
 ∃w H',Aaq Tryz.prog 0 164 [ptr c 0,.int .i64 (i:Nat)] H w H'/\w=.bool (frD x (ro L i))/\H'=H:=by
 refine gcb ?_
 refine Aam Bd4 ?_
 intro Q hq1 hq2
 have lr:=(Aa1 (Aar he)).r
 obtain⟨vl,vi,ls,own,room,T,gb,sl,ok,si⟩:=hm.x
 have isl:=Sl.is sl
 have lenl:Ab9 vl=L.r.length:=by have:=Sl.len sl;simpa[Ado]using this
 have e0:(0:Int)<=(i:Int):=by omega
 have e1:(i:Int)<((L.r.length:Nat):Int):=by omega
 obtain⟨K0,hK0⟩:∃X,X=H.alloc (.cells true false 1 [ptr c 0] 239):=⟨_,rfl⟩
 have k0:Aac H K0:=by rw[hK0];exact(Aac.refl H).alloc _
 have gp0:K0.get H.n=some (.cells true false 1 [ptr c 0] 239):=by rw[hK0];exact Aaa.Bfd H _
 have h0:CyR K0 c b s x cv us:=k0.at_ h
 have gb0:=k0.at_ gb
 obtain⟨na,ra⟩:=MaA.row (sl.keeps k0) hi
 have oki:=(ok i hi).keeps k0
 have gc0:=h0
 unfold CyR at gc0
 unfold amc at gb0
 unfold Ah9 at ra
 have tF:=t43 oki.t.s (A7f he hi) (p:=fun z=>Abx x.oc z) (g:=169) (fi:= #[]) (ca:= #[ptr H.n 0]) (fun z hz=>t169 h0 gp0 (A7e he hi z hz))
 simp(disch:=first|assumption|omega)only[Bd4,P4,seval]
 rw[<-hK0]
 simp(disch:=first|assumption|omega)only[P4,seval,gp0,gc0,Aeh,gb0,isl,lenl,na,ra,e0,e1,Aaj]
 refine Aae tF ?_
 rintro _ X ⟨rfl,hX⟩
 rw[hX]
 simp(disch:=first|assumption|omega)only[P4,seval]
 refine hq2 _ _ ⟨.bool _,rfl,?_,k0⟩
 unfold frD
 rw[<-List.not_any_eq_all_not]
theorem t167{H:Aaa}{x:Inp}{p q T T':Nat}{o r o' r':Bool}(hp:H.get p=some (.cells o r 1 [S32 (Ac0 x)] T))(hq:H.get q=some (.cells o' r' 1 [S32 (Acz x)] T')){z:Int×Bool}(h:0<=z.1/\z.1<32):
 ∃w H',Aaq Tryz.prog 0 167 [.agg (Aft z).toArray,ptr p 0,ptr q 0] H w H'/\w=.bool (!(if z.2 then Ac0 x z.1.toNat else Acz x z.1.toNat))/\H'=H:=by
 refine gcb ?_
 refine Aam Bac ?_
 intro Q hq1 hq2
 obtain⟨zp,zb⟩:=z
 simp only at h
 have kA:=(Aac.refl H).alloc (.cells true false 2 [.int .i64 zp,.bool zb] 120)
 have lp:=Aaa.Bfg hp
 have lq:=Aaa.Bfg hq
 have np:¬p=H.n:=by omega
 have nq:¬q=H.n:=by omega
 have e1:S64 (fun i=>decide (i<32)&&Ac0 x i)=S64 (p64 (Ac0 x)):=rfl
 have e2:S64 (fun i=>decide (i<32)&&Acz x i)=S64 (p64 (Acz x)):=rfl
 unfold Aft
 cases zb with
 |true=>
  simp(disch:=first|assumption|omega)only[Bac,P4,seval,hp,hq,lp,lq,np,nq,A6e]
  rw[e1]
  refine Aae (t42 _ h.1) ?_
  rintro _ X ⟨rfl,hX⟩
  rw[hX,Ai5 _ h.1 h.2]
  simp(disch:=first|assumption|omega)only[P4,seval]
  exact hq2 _ _ ⟨.bool _,rfl,rfl,kA⟩
 |false=>
  simp(disch:=first|assumption|omega)only[Bac,P4,seval,hp,hq,lp,lq,np,nq,A6e]
  rw[e2]
  refine Aae (t42 _ h.1) ?_
  rintro _ X ⟨rfl,hX⟩
  rw[hX,Ai5 _ h.1 h.2]
  simp(disch:=first|assumption|omega)only[P4,seval]
  exact hq2 _ _ ⟨.bool _,rfl,rfl,kA⟩
theorem t160{H:Aaa}{c b:Nat}{s:Sta}{x:Inp}{cv:Value}{us:Nat->Bool}{L:Ly}(h:CyR H c b s x cv us)(hm:MaA H b L)(he:Aan L=0)(hcv:isS cv=true){i:Nat}(hi:i<L.r.length):
 ∃w H',Aaq Tryz.prog 0 160 [ptr c 0,.int .i64 (i:Nat)] H w H'/\w=.bool (Ad3 L x s i)/\H'=H:=by
 refine gcb ?_
 refine Aam Bd3 ?_
 intro Q hq1 hq2
 have lr:=(Aa1 (Aar he)).r
 obtain⟨vl,vi,ls,own,room,T,gb,sl,ok,si⟩:=hm.x
 have isl:=Sl.is sl
 have lenl:Ab9 vl=L.r.length:=by have:=Sl.len sl;simpa[Ado]using this
 have e0:(0:Int)<=(i:Int):=by omega
 have e1:(i:Int)<((L.r.length:Nat):Int):=by omega
 have iN:i<64:=by omega
 have gc:=h
 unfold CyR at gc
 have hp:Ad3 L x s i=((((s.lo i&& !s.us i)&& !s.ca i)&&frD x (ro L i))&&(nds (ro L i)).all fun z=>if z.2 then Ac0 x z.1.toNat else Acz x z.1.toNat):=rfl
 simp(disch:=first|assumption|omega)only[Bd3,P4,seval]
 refine Aae (A2o h e0) ?_
 rintro _ X ⟨rfl,hX⟩
 rw[hX,Aa4 _ iN]
 cases h1:s.lo i with
 |false=>
  rw[h1]at hp
  simp(disch:=first|assumption|omega)only[P4,seval]
  exact hq2 _ _ ⟨.bool _,rfl,by rw[hp];rfl,Aac.refl _⟩
 |true=>
 rw[h1]at hp
 simp(disch:=first|assumption|omega)only[P4,seval,gc,Apx]
 refine Aae (t42 _ e0) ?_
 rintro _ X ⟨rfl,hX⟩
 rw[hX,Aa4 _ iN]
 cases h2:s.us i with
 |true=>
  rw[h2]at hp
  simp(disch:=first|assumption|omega)only[P4,seval]
  exact hq2 _ _ ⟨.bool _,rfl,by rw[hp];rfl,Aac.refl _⟩
 |false=>
 rw[h2]at hp
 simp(disch:=first|assumption|omega)only[P4,seval,gc,Ani]
 refine Aae (t42 _ e0) ?_
 rintro _ X ⟨rfl,hX⟩
 rw[hX,Aa4 _ iN]
 cases h3:s.ca i with
 |true=>
  rw[h3]at hp
  simp(disch:=first|assumption|omega)only[P4,seval]
  exact hq2 _ _ ⟨.bool _,rfl,by rw[hp];rfl,Aac.refl _⟩
 |false=>
 rw[h3]at hp
 simp(disch:=first|assumption|omega)only[P4,seval]
 refine Aat (A77 h hm he hi) ?_
 cases h4:frD x (ro L i)with
 |false=>
  rw[h4]at hp
  simp(disch:=first|assumption|omega)only[P4,seval]
  exact hq2 _ _ ⟨.bool _,rfl,by rw[hp];rfl,Aac.refl _⟩
 |true=>
 rw[h4]at hp
 have hinl:inl x cv=[S64 x.oc,S32 x.nr,S32 x.rv,cv]:=rfl
 have tS:=fun K=>Be6 (H:=K) (x:=x) (cv:=cv) hcv
 simp(disch:=first|assumption|omega)only[P4,seval,gc,A16]
 refine Aat (tS _) ?_
 obtain⟨K0,hK0⟩:∃X,X=(H.alloc (.cells true false 1 [S32 (Acz x)] 41)).alloc (.cells true false 1 [S32 (Ac0 x)] 41):=⟨_,rfl⟩
 have k0:Aac H K0:=by rw[hK0];exact((Aac.refl H).alloc _).alloc _
 have gp0:K0.get H.n=some (.cells true false 1 [S32 (Acz x)] 41):=by rw[hK0];exact((Aac.refl _).alloc _).at_ (Aaa.Bfd H _)
 have gq0:K0.get (H.n+1)=some (.cells true false 1 [S32 (Ac0 x)] 41):=by rw[hK0];exact Aaa.Bfd (H.alloc _) _
 have gc0:=k0.at_ gc
 have gb0:=k0.at_ gb
 obtain⟨na,ra⟩:=MaA.row (sl.keeps k0) hi
 have oki:=(ok i hi).keeps k0
 unfold amc at gb0
 unfold Ah9 at ra
 have tF:=t45 oki.n.s (Nat.le_trans (Att he hi) (by omega)) (p:=fun z=> !(if z.2 then Ac0 x z.1.toNat else Acz x z.1.toNat)) (g:=167) (fi:= #[]) (ca:= #[ptr (H.n+1) 0,ptr H.n 0]) (fun z hz=>t167 gq0 gp0 (Af4 he hi z hz))
 simp(disch:=first|assumption|omega|(simp only[LN]<;>omega)|(simp(disch:=first|assumption|omega|(simp only[LN]<;>omega))only[Aab,Aad];assumption))only[P4,seval,Ae2,Ab3]
 rw[<-hK0]
 simp(disch:=first|assumption|omega)only[P4,seval,gc0,Aeh,gb0,isl,lenl,na,ra,e0,e1,Aaj]
 refine Aae tF ?_
 rintro _ X ⟨rfl,hX⟩
 rw[hX]
 simp(disch:=first|assumption|omega)only[P4,seval]
 refine hq2 _ _ ⟨.bool _,rfl,?_,k0⟩
 rw[hp]
 have en:∀l:List (Int×Bool),(!(l.any fun z=> !(if z.2 then Ac0 x z.1.toNat else Acz x z.1.toNat)))=l.all fun z=>if z.2 then Ac0 x z.1.toNat else Acz x z.1.toNat:=fun l=>by
  rw[List.not_any_eq_all_not];congr 1;funext z;simp
 rw[<-en];rfl
theorem A7g{L:Ly}(he:Aan L=0){i:Nat}(hi:i<L.r.length):0<=(ro L i).path.getD 0 0:=by
 have hg:=Aay he (List.getElem_mem hi)
 rw[<-Acn hi]at hg
 have hne:=hg.ne
 refine(hg.tr _ ?_).1
 refine List.mem_append_left _ ?_
 rw[List.getD_eq_getElem?_getD,List.getElem?_eq_getElem hne]
 exact List.getElem_mem hne
theorem t159{H:Aaa}{c b:Nat}{s:Sta}{x:Inp}{cv:Value}{us:Nat->Bool}{L:Ly}(h:CyR H c b s x cv us)(hm:MaA H b L)(he:Aan L=0)(hti:∀j,s.ti j<256){i:Nat}(hi:i<L.r.length):
 ∃w H',Aaq Tryz.prog 0 159 [ptr c 0,.int .i64 (i:Nat)] H w H'/\Chg [c] H H'/\CyR H' c b (roD L x us s i) x cv us:=by
 refine Aam A5n ?_
 intro Q hq1 hq2
 have lr:=(Aa1 (Aar he)).r
 obtain⟨vl,vi,ls,own,room,T,gb,sl,ok,si⟩:=hm.x
 have isl:=Sl.is sl
 have lenl:Ab9 vl=L.r.length:=by have:=Sl.len sl;simpa[Ado]using this
 have e0:(0:Int)<=(i:Int):=by omega
 have e1:(i:Int)<((L.r.length:Nat):Int):=by omega
 have e64:(i:Int)<64:=by omega
 have iN:i<64:=by omega
 have gc:=h
 unfold CyR at gc
 have cl:=Aaa.Bfg gc
 obtain⟨na,ra⟩:=MaA.row sl hi
 have oki:=ok i hi
 have w1:=Aap (Sl.is oki.t.s)
 have w2:=Aap (Sl.is oki.n.s)
 have w3:=Aap (Sl.is oki.c.s)
 have w4:∀x:Int,one1 (Value.int .i64 x)=True:=fun x=>by simp[one1,Aav]
 obtain⟨K0,hK0⟩:∃X,X=H.alloc (.cells true false 5 (Ah9 L i (ls i)) 107):=⟨_,rfl⟩
 have k0:Aac H K0:=by rw[hK0];exact(Aac.refl H).alloc _
 have gr0:K0.get H.n=some (.cells true false 5 (Ah9 L i (ls i)) 107):=by rw[hK0];exact Aaa.Bfd H _
 have gc0:=k0.at_ gc
 have h0:CyR K0 c b s x cv us:=gc0
 have hm0:=hm.keeps k0
 have gcx:∀o,(K0.set c o).get c=some o:=fun o=>Aaa.Bfe gc0 o
 have cl0:=Aaa.Bfg gc0
 have rl0:=Aaa.Bfg gr0
 have hro:roD L x us s i=(if us i then(if frD x (ro L i)then Ah7 s i else s)
  else if Abx x.oc ((ro L i).path.getD 0 0)then{s with us:=fun j=>s.us j||decide (j=i)}
  else if s.ca i&&decide (0<s.ti i)then{s with ti:=upd s.ti i (s.ti i-1)}
  else if s.ca i&&frD x (ro L i)then Ah7 s i
  else s):=rfl
 have hrel:Ah7 s i=⟨fun j=>s.lo j&& !decide (j=i),fun j=>s.us j&& !decide (j=i),fun j=>s.ca j&& !decide (j=i),upd s.ti i 0,s.po⟩:=rfl
 have fin:∀{fr:List Value} (t:Sta),roD L x us s i=t->Ack A5n.res fr (K0.set c (.cells true false 74 (cyl b t x cv us) 241))=some (.tuple #[])->Q .normal fr (K0.set c (.cells true false 74 (cyl b t x cv us) 241)):=fun t e hr=>
  hq1 _ _ ⟨_,hr,(k0.chg [c]).trans (Chg.set K0 cl0 _) (by simp),by unfold CyR;rw[e];exact gcx _⟩
 have fin0:∀{fr:List Value},roD L x us s i=s->Ack A5n.res fr K0=some (.tuple #[])->Q .normal fr K0:=fun e hr=>
  hq1 _ _ ⟨_,hr,k0.chg [c],by rw[e];exact h0⟩
 unfold amc at gb
 unfold Ah9 at ra gr0 hK0
 have sh:=Ad6 iN
 have hp0:=A7g he hi
 have z0:=fun t:Sta=>A7a (b:=b) (s:=t) (x:=x) (cv:=cv) (us:=us) iN
 have z1:=A13 (b:=b) (s:=s) (x:=x) (cv:=cv) (us:=us) iN (s.ti i-1)
 have ct:=Ba7 (b:=b) (s:=s) (x:=x) (cv:=cv) (us:=us) iN
 have hll:4+i<74:=by omega
 have rel:∀{fr:List Value},roD L x us s i=Ah7 s i->Ack A5n.res fr (K0.set c (.cells true false 74 (cyl b ⟨fun j=>s.lo j&& !decide (j=i),fun j=>s.us j&& !decide (j=i),fun j=>s.ca j&& !decide (j=i),upd s.ti i 0,s.po⟩ x cv us) 241))=some (.tuple #[])->Q .normal fr (K0.set c (.cells true false 74 (cyl b ⟨fun j=>s.lo j&& !decide (j=i),fun j=>s.us j&& !decide (j=i),fun j=>s.ca j&& !decide (j=i),upd s.ti i 0,s.po⟩ x cv us) 241)):=fun e hr=>fin _ (e.trans hrel) hr
 simp(disch:=first|assumption|omega|(simp only[LN]<;>omega)|(simp(disch:=first|assumption|omega|(simp only[LN]<;>omega))only[Aab,Aad];assumption))only[A5n,P3,seval,Aah,Aao,gc,Aeh,gb,isl,lenl,na,ra,e0,e1,Aai,w1,w2,w3,w4]
 rw[<-hK0]
 simp(disch:=first|assumption|omega)only[P4,seval,gc0,A69]
 refine Aae (t42 _ e0) ?_
 rintro _ X ⟨rfl,hX⟩
 rw[hX,Aa4 _ iN]
 cases h1:us i with
 |true=>
  rw[h1]at hro
  simp(disch:=first|assumption|omega)only[P4,seval]
  refine Aat (A77 h0 hm0 he hi) ?_
  cases h2:frD x (ro L i)with
  |true=>
   rw[h2]at hro
   simp(disch:=first|assumption|omega)only[P4,seval,gc0,gcx,cl0,Ada,Atr,Apx,Ani,Awl,A12,Awm,z0,hll,sh,Ad1,Aci,Abn,e0,e64,Aaz,Int.toNat_natCast,Nat.mul_one]
   exact rel hro rfl
  |false=>
   rw[h2]at hro
   simp(disch:=first|assumption|omega)only[P4,seval]
   exact fin0 hro rfl
 |false=>
 rw[h1]at hro
 simp(disch:=first|assumption|omega)only[P4,seval,gr0,rl0]
 refine Aat (A2n h0 hp0) ?_
 cases h2:Abx x.oc ((ro L i).path.getD 0 0)with
 |true=>
  rw[h2]at hro
  simp(disch:=first|assumption|omega)only[P4,seval,gc0,gcx,cl0,Ada,Atr,Apx,Ani,Awl,A12,Awm,sh,Agw,Aci,Abn,e0,e64,Aaz,Int.toNat_natCast,Nat.mul_one]
  exact fin _ hro rfl
 |false=>
 rw[h2]at hro
 simp(disch:=first|assumption|omega)only[P4,seval,gc0,Ani]
 refine Aae (t42 _ e0) ?_
 rintro _ X ⟨rfl,hX⟩
 rw[hX,Aa4 _ iN]
 cases h3:s.ca i with
 |false=>
  rw[h3]at hro
  simp(disch:=first|assumption|omega)only[P4,seval]
  exact fin0 hro rfl
 |true=>
 rw[h3]at hro
 by_cases hp:0<s.ti i
 ·have hp':(0:Int)<((s.ti i:Nat):Int):=by omega
  have hsub:IntKind.u8.wrap (((s.ti i:Nat):Int)-1)=((s.ti i-1:Nat):Int):=by have:=hti i;rw[Aks];omega
  simp(disch:=first|assumption|omega)only[P4,seval,gc0,gcx,cl0,Ada,ct,hp',hsub,z1,hll,e0,e64,Aaz,Int.toNat_natCast,Nat.mul_one]
  exact fin _ (by rw[hro];simp[hp]) rfl
 ·have hp':¬(0:Int)<((s.ti i:Nat):Int):=by omega
  simp(disch:=first|assumption|omega)only[P4,seval,gc0,gcx,cl0,Ada,ct,hp',hll,e0,e64,Aaz,Int.toNat_natCast,Nat.mul_one]
  refine Aat (A77 h0 hm0 he hi) ?_
  cases h4:frD x (ro L i)with
  |true=>
   rw[h4]at hro
   simp(disch:=first|assumption|omega)only[P4,seval,gc0,gcx,cl0,Ada,Atr,Apx,Ani,Awl,A12,Awm,z0,hll,sh,Ad1,Aci,Abn,e0,e64,Aaz,Int.toNat_natCast,Nat.mul_one]
   exact rel (by rw[hro];simp[hp]) rfl
  |false=>
   rw[h4]at hro
   simp(disch:=first|assumption|omega)only[P4,seval]
   exact fin0 (by rw[hro];simp[hp]) rfl
theorem Atu{L:Ly}(he:Aan L=0){m:Nat}(hm:m<L.p.length):0<=(L.p.getD m ([],0)).2 :=by
 have:=Aar he
 simp only[Aew,inB,Bool.and_eq_true,Bool.not_eq_true',List.all_eq_true,decide_eq_true_eq]at this
 exact(this.2.2.1.1 _ (Adt hm)).1
theorem A17{L:Ly}(he:Aan L=0){m:Nat}(hm:m<L.g.length):0<=(L.g.getD m ([],0)).2 :=by
 have:=Aar he
 simp only[Aew,inB,Bool.and_eq_true,Bool.not_eq_true',List.all_eq_true,decide_eq_true_eq]at this
 exact(this.2.2.1.2 _ (Adt hm)).1
def A2p(L:Ly)(x:Inp)(s:Sta)(i:Nat):Sta:=if Ajc L x s i then{s with lo:=fun j=>s.lo j||decide (j=i),po:=poD (nds (ro L i)) s.po}else s
theorem Ba8(f:Nat->Bool)(m:Nat):(fun p=>f p||decide (p=m))=fun p=>if p=m then true else f p:=by
 funext p;by_cases e:p=m<;>simp[e]
theorem Ba9(f:Nat->Bool)(m:Nat):(fun p=>f p&& !decide (p=m))=fun p=>if p=m then false else f p:=by
 funext p;by_cases e:p=m<;>simp[e]
theorem A7h{L:Ly}{s:Sta}{i:Nat}(hL:L.r.length<=64)(h:s.lo i=false):(List.range L.r.length).all (fun k=> !(s.lo k&&cf L i k))= !((cfl L i L.r.length).any fun k=>Abx s.lo k):=by
 rw[Atp hL,List.not_any_eq_all_not,Bool.eq_iff_iff,List.all_eq_true,List.all_eq_true]
 constructor
 ·intro h2 k hk
  have:=h2 k hk
  cases h3:s.lo k<;>simp_all
 ·intro h2 k hk
  have:=h2 k hk
  by_cases e:i=k
  ·subst e;simp[h]
  ·simp[e]at this;cases h3:s.lo k<;>simp_all
theorem t161{H:Aaa}{c b:Nat}{s:Sta}{x:Inp}{cv:Value}{us:Nat->Bool}{L:Ly}(h:CyR H c b s x cv us)(hm:MaA H b L)(he:Aan L=0){i:Nat}(hi:i<L.r.length):
 ∃w H',Aaq Tryz.prog 0 161 [ptr c 0,.int .i64 (i:Nat)] H w H'/\Chg [c] H H'/\CyR H' c b (A2p L x s i) x cv us:=by
 refine Aam Baa ?_
 intro Q hq1 hq2
 have lr:=(Aa1 (Aar he)).r
 have lpp:=(Aa1 (Aar he)).p
 obtain⟨vl,vi,ls,own,room,T,gb,sl,ok,si⟩:=hm.x
 have isl:=Sl.is sl
 have lenl:Ab9 vl=L.r.length:=by have:=Sl.len sl;simpa[Ado]using this
 have e0:(0:Int)<=(i:Int):=by omega
 have e1:(i:Int)<((L.r.length:Nat):Int):=by omega
 have iN:i<64:=by omega
 have gc:=h
 unfold CyR at gc
 have cl:=Aaa.Bfg gc
 obtain⟨na,ra⟩:=MaA.row sl hi
 have oki:=ok i hi
 have w1:=Aap (Sl.is oki.t.s)
 have w2:=Aap (Sl.is oki.n.s)
 have w3:=Aap (Sl.is oki.c.s)
 have w4:∀x:Int,one1 (Value.int .i64 x)=True:=fun x=>by simp[one1,Aav]
 obtain⟨K0,hK0⟩:∃X,X=H.alloc (.cells true false 5 (Ah9 L i (ls i)) 107):=⟨_,rfl⟩
 have k0:Aac H K0:=by rw[hK0];exact(Aac.refl H).alloc _
 have gr0:K0.get H.n=some (.cells true false 5 (Ah9 L i (ls i)) 107):=by rw[hK0];exact Aaa.Bfd H _
 have gc0:=k0.at_ gc
 have h0:CyR K0 c b s x cv us:=gc0
 have hm0:=hm.keeps k0
 have gb0:=k0.at_ gb
 have oki0:=oki.keeps k0
 have si0:=si.keeps k0
 have cl0:=Aaa.Bfg gc0
 have rl0:=Aaa.Bfg gr0
 have hset:Ajc L x s i=((!s.lo i&&frD x (ro L i))&&((List.range L.r.length).all (fun k=> !(s.lo k&&cf L i k))&&(nds (ro L i)).all fun z=> !((s.po z.1.toNat != z.2)&&Abx x.oc (L.p.getD z.1.toNat ([],0)).2))):=rfl
 have hsA:A2p L x s i=if Ajc L x s i then{s with lo:=fun j=>s.lo j||decide (j=i),po:=poD (nds (ro L i)) s.po}else s:=rfl
 have no:∀{fr:List Value} {K:Aaa},Aac H K->Ajc L x s i=false->Ack Baa.res fr K=some (.tuple #[])->Q .ret fr K:=fun k e hr=>
  hq2 _ _ ⟨_,hr,k.chg [c],by rw[hsA,e];exact k.at_ h⟩
 have lcf:=Anh L i L.r.length
 have lnd:=Att he hi
 have hrng:=Af4 he hi
 have hndp:∀z∈nds (ro L i),0<=z.1/\z.1<L.p.length:=by
  have hg:=Aay he (List.getElem_mem hi)
  rw[<-Acn hi]at hg;exact hg.nd
 unfold amc at gb gb0
 unfold Ah9 at ra gr0 hK0
 have sh:=Ad6 iN
 simp(disch:=first|assumption|omega|(simp only[LN]<;>omega)|(simp(disch:=first|assumption|omega|(simp only[LN]<;>omega))only[Aab,Aad];assumption))only[Baa,P3,seval,Aah,Aao,gc,Aeh,gb,isl,lenl,na,ra,e0,e1,Aai,w1,w2,w3,w4]
 rw[<-hK0]
 refine Aae (A2o h0 e0) ?_
 rintro _ X ⟨rfl,hX⟩
 rw[hX,Aa4 _ iN]
 cases h1:s.lo i with
 |true=>
  rw[h1]at hset
  simp(disch:=first|assumption|omega)only[P4,seval]
  exact no k0 hset rfl
 |false=>
 have hcf:=A7h (L:=L) (i:=i) lr h1
 rw[h1,hcf]at hset
 simp(disch:=first|assumption|omega)only[P4,seval]
 refine Aat (A77 h0 hm0 he hi) ?_
 cases h2:frD x (ro L i)with
 |false=>
  rw[h2]at hset
  simp(disch:=first|assumption|omega)only[P4,seval]
  exact no k0 (by rw[hset];rfl) rfl
 |true=>
 rw[h2]at hset
 simp(disch:=first|assumption|omega)only[P4,seval,gr0,rl0]
 refine Aat (t43 oki0.c.s (by omega) (p:=fun k=>Abx s.lo k) (g:=158) (fi:= #[ptr c 0]) (ca:= #[]) (fun z hz=>A2o h0 (A65 z hz).1)) ?_
 cases h3:(cfl L i L.r.length).any fun k=>Abx s.lo k with
 |true=>
  rw[h3]at hset
  simp(disch:=first|assumption|omega)only[P4,seval]
  exact no k0 (by rw[hset];rfl) rfl
 |false=>
 rw[h3]at hset
 have isn:=Sl.is oki0.n.s
 have lenn:Ab9 (ls i).n=(nds (ro L i)).length:=NL.len oki0.n.s
 simp(disch:=first|assumption|omega)only[P3,seval,Aah,Aao,gr0,rl0,isn,lenn]
 rw[Aag]
 have isi:=Sl.is si0
 have leni:Ab9 vi=L.p.length:=by have:=IL.len si0;simpa using this
 obtain⟨l,hl⟩:∃l,l=nds (ro L i):=⟨_,rfl⟩
 have oln:NL K0 (ls i).n l:=by rw[hl];exact oki0.n.s
 rw[<-hl]at hset hsA lnd hrng hndp lenn ⊢
 refine Aal (fun q fr K=>∃j x3 x9 x10,fr=[ptr c 0,.int .i64 ((i:Nat):Int),ptr H.n 0,x3,undef,.bool false,(ls i).n,.int .i64 ((l.length:Nat):Int),.int .i64 ((j:Nat):Int),x9,x10,undef,undef,undef,undef,undef]∧
  Aac K0 K/\((l.take j).all fun z=> !((s.po z.1.toNat != z.2)&&Abx x.oc (L.p.getD z.1.toNat ([],0)).2))=true/\j<=l.length/\q=l.length-j) l.length
  ⟨0,_,_,_,rfl,Aac.refl _,by simp,by omega,rfl⟩ ?_
 rintro Q3 q fr K ⟨j,x3,x9,x10,rfl,kK,hj,hjl,rfl⟩ hn3 hx3 hret3
 have gcK:=kK.at_ gc0
 have gbK:=kK.at_ gb0
 by_cases hjlt:j<l.length
 ·obtain⟨nj,rj⟩:=(oln.keeps kK).at_ hjlt
  have j0:(0:Int)<=(j:Int):=by omega
  have j1:(j:Int)<((l.length:Nat):Int):=by omega
  have hw3:=wrS (i:=j) (by omega)
  have hgd:l.getD j (0,false)=l[j]:=by rw[List.getD_eq_getElem?_getD,List.getElem?_eq_getElem hjlt];rfl
  have hmem:=List.getElem_mem hjlt
  have hrg:=hrng _ hmem
  have hpp:=hndp _ hmem
  have ok1:(!((s.po l[j].1.toNat != l[j].2)&&Abx x.oc (L.p.getD l[j].1.toNat ([],0)).2))=true->((l.take (j+1)).all fun z=> !((s.po z.1.toNat != z.2)&&Abx x.oc (L.p.getD z.1.toNat ([],0)).2))=true:=fun e=>Agy hjlt hj e
  have bad1:(!((s.po l[j].1.toNat != l[j].2)&&Abx x.oc (L.p.getD l[j].1.toNat ([],0)).2))=false->Ajc L x s i=false:=fun e=>by
   have:(l.all fun z=> !((s.po z.1.toNat != z.2)&&Abx x.oc (L.p.getD z.1.toNat ([],0)).2))=false:=List.all_eq_false.2 ⟨_,hmem,by rw[e];simp⟩
   rw[hset,this];rfl
  rw[hgd]at rj
  generalize l[j]=z at*
  obtain⟨zp,zb⟩:=z
  obtain⟨m,rfl⟩:∃m:Nat,zp=(m:Int):=⟨zp.toNat,by have:=hrg.1;simp only at this;omega⟩
  have hmp:m<L.p.length:=by have:=hpp.2;simp only at*;omega
  have hm32:m<32:=by omega
  have hmt:(Int.toNat (m:Int))=m:=by omega
  simp only[hmt]at ok1 bad1
  have hlie:=Atu he hmp
  have hli:(L.p.map (·.2)).getD m 0=(L.p.getD m ([],0)).2 :=by
   rw[List.getD_eq_getElem?_getD,List.getD_eq_getElem?_getD,List.getElem?_map,List.getElem?_eq_getElem hmp];rfl
  obtain⟨np,rp⟩:=(si0.keeps kK).at_ (i:=m) (by simpa using hmp)
  rw[hli]at rp
  have m0:(0:Int)<=(m:Int):=by omega
  have m1:(m:Int)<((L.p.length:Nat):Int):=by omega
  generalize L.p.getD m ([],0)=w at*
  obtain⟨KA,hKA⟩:∃X,X=K.alloc (.cells true false 2 [.int .i64 (m:Int),.bool zb] 120):=⟨_,rfl⟩
  have kA:Aac K KA:=by rw[hKA];exact(Aac.refl K).alloc _
  have gzA:KA.get K.n=some (.cells true false 2 [.int .i64 (m:Int),.bool zb] 120):=by rw[hKA];exact Aaa.Bfd K _
  have gcA:=kA.at_ gcK
  have gbA:=kA.at_ gbK
  have hA:CyR KA c b s x cv us:=gcA
  obtain⟨npA,rpA⟩:nnS vi=true/\Afs KA 1 vi m=some [.int .i64 w.2]:=by
   obtain⟨q1,q2⟩:=((si0.keeps kK).keeps kA).at_ (i:=m) (by simpa using hmp)
   rw[hli]at q2;exact⟨q1,q2⟩
  have lzA:=Aaa.Bfg gzA
  have lcA:=Aaa.Bfg gcA
  have lbA:=Aaa.Bfg gbA
  have es:S64 (fun i=>decide (i<32)&&s.po i)=S64 (p64 s.po):=rfl
  have hin:=Ai5 s.po (n:=(m:Int)) (by omega) (by omega)
  rw[hmt]at hin
  have kHA:=(k0.trans kK).trans kA
  simp(disch:=first|assumption|omega|(simp only[LN]<;>omega)|(simp(disch:=first|assumption|omega|(simp only[LN]<;>omega))only[Aab,Aad];assumption))only[P4,seval,j1,lenn,nj,rj,Aai]
  rw[<-hKA]
  simp(disch:=first|assumption|omega)only[P4,seval,gcA,gzA,Amb,A6e,lzA,lcA,lbA]
  rw[es]
  refine Aae (t42 _ m0) ?_
  rintro _ X ⟨rfl,hX⟩
  rw[hX,hin]
  cases hpo:s.po m<;>cases zb<;>rw[hpo]at ok1 bad1
  ·simp(disch:=first|assumption|omega)only[P4,seval,gzA,lzA,lcA,lbA,hw3]
   exact hn3 _ _ _ ⟨j+1,_,_,_,rfl,kK.trans kA,ok1 rfl,by omega,rfl⟩ (by omega)
  ·simp(disch:=first|assumption|omega)only[P4,seval,gzA,gcA,gbA,lzA,lcA,lbA,Aeh,isi,leni,npA,rpA,m0,m1,Aaj]
   refine Aat (A2n hA hlie) ?_
   cases hb:Abx x.oc w.2 with
   |true=>
    simp(disch:=first|assumption|omega)only[P4,seval]
    refine hret3 _ _ ?_
    exact no kHA (bad1 (by rw[hb];rfl)) rfl
   |false=>
    simp(disch:=first|assumption|omega)only[P4,seval,hw3]
    exact hn3 _ _ _ ⟨j+1,_,_,_,rfl,kK.trans kA,ok1 (by rw[hb];rfl),by omega,rfl⟩ (by omega)
  ·simp(disch:=first|assumption|omega)only[P4,seval,gzA,gcA,gbA,lzA,lcA,lbA,Aeh,isi,leni,npA,rpA,m0,m1,Aaj]
   refine Aat (A2n hA hlie) ?_
   cases hb:Abx x.oc w.2 with
   |true=>
    simp(disch:=first|assumption|omega)only[P4,seval]
    refine hret3 _ _ ?_
    exact no kHA (bad1 (by rw[hb];rfl)) rfl
   |false=>
    simp(disch:=first|assumption|omega)only[P4,seval,hw3]
    exact hn3 _ _ _ ⟨j+1,_,_,_,rfl,kK.trans kA,ok1 (by rw[hb];rfl),by omega,rfl⟩ (by omega)
  ·simp(disch:=first|assumption|omega)only[P4,seval,gzA,lzA,lcA,lbA,hw3]
   exact hn3 _ _ _ ⟨j+1,_,_,_,rfl,kK.trans kA,ok1 rfl,by omega,rfl⟩ (by omega)
 ·have j1:¬((j:Nat):Int)<((l.length:Nat):Int):=by omega
  have hje:j=l.length:=by omega
  subst hje
  rw[List.take_length]at hj
  rw[hj]at hset
  have hyes:A2p L x s i={s with lo:=fun j=>s.lo j||decide (j=i),po:=poD l s.po}:=by rw[hsA,hset];rfl
  have grK:=kK.at_ gr0
  have lcK:=Aaa.Bfg gcK
  have lrK:=Aaa.Bfg grK
  have olnK:=oln.keeps kK
  obtain⟨K1,hK1⟩:∃X,X=K.set c (.cells true false 74 (cyl b {s with lo:=fun j=>s.lo j||decide (j=i)} x cv us) 241):=⟨_,rfl⟩
  have c1:Chg [c] K K1:=by rw[hK1];exact Chg.set K lcK _
  have gc1:K1.get c=some (.cells true false 74 (cyl b {s with lo:=fun j=>s.lo j||decide (j=i),po:=poD (l.take 0) s.po} x cv us) 241):=by rw[hK1];exact Aaa.Bfe gcK _
  have c01:Chg [c] H K1:=((k0.trans kK).chg [c]).trans c1 (by simp)
  have gr1:K1.get H.n=some (.cells true false 5 [.int .i64 ((ro L i).path.getD 0 0),.int .i64 (L.g.getD (ro L i).g.toNat ([],0)).2,(ls i).t,(ls i).n,(ls i).c] 107):=c1.at_ grK (by simp;omega)
  simp(disch:=first|assumption|omega)only[P4,seval,j1]
  refine hx3 _ _ _ ?_
  simp(disch:=first|assumption|omega)only[P3,seval,Aah,Aao,gcK,lcK,Ada,Atr,Awl,sh,Agw,Aci,Abn]
  rw[<-hK1]
  simp(disch:=first|assumption|omega)only[P3,seval,Aah,Aao,grK,isn,lenn]
  rw[Aag]
  refine Aal (fun q fr N=>∃j x4 x14 x15,fr=[ptr c 0,.int .i64 ((i:Nat):Int),ptr H.n 0,x3,x4,.bool false,(ls i).n,.int .i64 ((l.length:Nat):Int),.int .i64 ((l.length:Nat):Int),.bool false,x10,(ls i).n,.int .i64 ((l.length:Nat):Int),.int .i64 ((j:Nat):Int),x14,x15]∧
   Chg [c] K1 N/\N.get c=some (.cells true false 74 (cyl b {s with lo:=fun j=>s.lo j||decide (j=i),po:=poD (l.take j) s.po} x cv us) 241)/\j<=l.length/\q=l.length-j) l.length
   ⟨0,_,_,_,rfl,Chg.refl _ _,gc1,by omega,rfl⟩ ?_
  rintro Q4 q fr N ⟨j,x4,x14,x15,rfl,cN,gcN,hj4,rfl⟩ hn4 hx4 hret4
  have c0N:=c01.trans cN (by simp)
  have lcN:=Aaa.Bfg gcN
  by_cases hjlt4:j<l.length
  ·have olN:NL N (ls i).n l:=Sl.chg olnK (c1.trans cN (by simp)) (fun b' hb' hm'=>by
    simp only[List.mem_cons,List.not_mem_nil,or_false]at hm'
    subst hm'
    obtain⟨o,r,cc,T',g⟩:=oki0.n.b _ hb'
    rw[gc0]at g;injection g with g;injection g with _ _ e;omega)
   obtain⟨nj,rj⟩:=olN.at_ hjlt4
   have j0:(0:Int)<=(j:Int):=by omega
   have j2:(j:Int)<((l.length:Nat):Int):=by omega
   have hw3:=wrS (i:=j) (by omega)
   have hgd:l.getD j (0,false)=l[j]:=by rw[List.getD_eq_getElem?_getD,List.getElem?_eq_getElem hjlt4];rfl
   have hmem:=List.getElem_mem hjlt4
   have hrg:=hrng _ hmem
   have htk:poD (l.take (j+1)) s.po=fun p=>if p=l[j].1.toNat then l[j].2 else poD (l.take j) s.po p:=by
    rw[List.take_add_one,List.getElem?_eq_getElem hjlt4];exact A1o _ _ _
   rw[hgd]at rj
   generalize l[j]=z at*
   obtain⟨zp,zb⟩:=z
   obtain⟨m,rfl⟩:∃m:Nat,zp=(m:Int):=⟨zp.toNat,by have:=hrg.1;simp only at this;omega⟩
   have hm32:m<32:=by have:=hrg.2;simp only at this;omega
   have hmt:(Int.toNat (m:Int))=m:=by omega
   simp only[hmt]at htk
   have s2:=Aj3 hm32
   obtain⟨NA,hNA⟩:∃X,X=N.alloc (.cells true false 2 [.int .i64 (m:Int),.bool zb] 120):=⟨_,rfl⟩
   have kA:Aac N NA:=by rw[hNA];exact(Aac.refl N).alloc _
   have gzA:NA.get N.n=some (.cells true false 2 [.int .i64 (m:Int),.bool zb] 120):=by rw[hNA];exact Aaa.Bfd N _
   have gcA:=kA.at_ gcN
   have lzA:=Aaa.Bfg gzA
   have lcA:=Aaa.Bfg gcA
   generalize poD (l.take j) s.po=f at*
   simp(disch:=first|assumption|omega|(simp only[LN]<;>omega)|(simp(disch:=first|assumption|omega|(simp only[LN]<;>omega))only[Aab,Aad];assumption))only[P4,seval,j2,nj,rj,lenn,Aai]
   rw[<-hNA]
   cases zb with
   |true=>
    simp(disch:=first|assumption|omega)only[P4,seval,gzA,gcA,lzA,lcA,Ada,Amb,Ats,s2,Al3,Ae2,Ab3,hw3]
    exact hn4 _ _ _ ⟨j+1,_,_,_,rfl,(cN.trans (kA.chg [c]) (by simp)).trans (Chg.set NA lcA _) (by simp),by rw[htk,<-Ba8];exact Aaa.Bfe gcA _,by omega,rfl⟩ (by omega)
   |false=>
    simp(disch:=first|assumption|omega)only[P4,seval,gzA,gcA,lzA,lcA,Ada,Amb,Ats,s2,Acx,Ae2,Ab3,hw3]
    exact hn4 _ _ _ ⟨j+1,_,_,_,rfl,(cN.trans (kA.chg [c]) (by simp)).trans (Chg.set NA lcA _) (by simp),by rw[htk,<-Ba9];exact Aaa.Bfe gcA _,by omega,rfl⟩ (by omega)
  ·have j2:¬((j:Nat):Int)<((l.length:Nat):Int):=by omega
   have hje:j=l.length:=by omega
   subst hje
   rw[List.take_length]at gcN
   simp(disch:=first|assumption|omega)only[P4,seval,j2]
   refine hx4 _ _ _ ?_
   simp(disch:=first|assumption|omega)only[P4,seval]
   exact hq1 _ _ ⟨_,rfl,c0N,by rw[hyes];exact gcN⟩
def TZ(s:Sta):Prop:=∀j,s.ca j=false->s.ti j=0
def A18(L:Ly)(x:Inp)(s:Sta)(i:Nat):Sta:=if((s.lo i&& !s.us i)&& !s.ca i)=true then
 {s with ca:=fun j=>s.ca j||decide (j=i),ti:=upd s.ti i (if Abx x.oc (L.g.getD (ro L i).g.toNat ([],0)).2 then 20 else 0)}else s
theorem Bba{t:Nat->Nat}{i:Nat}(h:t i=0):upd t i 0=t:=by
 funext j;unfold upd
 by_cases e:j=i
 ·subst e;simp[h]
 ·simp[e]
theorem t162{K H:Aaa}{c b:Nat}{s:Sta}{x:Inp}{cv:Value}{us:Nat->Bool}{L:Ly}(h:CyR H c b s x cv us)(hK:MaA K b L)(kK:Aac K H)(hc:K.n<=c)(he:Aan L=0)(hz:TZ s){i:Nat}(hi:i<L.r.length):
 ∃w H',Aaq Tryz.prog 0 162 [ptr c 0,.int .i64 (i:Nat)] H w H'/\Chg [c] H H'/\CyR H' c b (A18 L x s i) x cv us:=by
 refine Aam A7y ?_
 intro Q hq1 hq2
 have lr:=(Aa1 (Aar he)).r
 obtain⟨vl,vi,ls,own,room,T,gbK,slK,okK,siK⟩:=hK.x
 have gb:=kK.at_ gbK
 have sl:=slK.keeps kK
 have isl:=Sl.is sl
 have lenl:Ab9 vl=L.r.length:=by have:=Sl.len sl;simpa[Ado]using this
 have e0:(0:Int)<=(i:Int):=by omega
 have e1:(i:Int)<((L.r.length:Nat):Int):=by omega
 have e64:(i:Int)<64:=by omega
 have iN:i<64:=by omega
 have gc:=h
 unfold CyR at gc
 have cl:=Aaa.Bfg gc
 have hgood:=Aay he (List.getElem_mem hi)
 rw[<-Acn hi]at hgood
 have hsig:0<=(L.g.getD (ro L i).g.toNat ([],0)).2 :=A17 he (by have:=hgood.lim.g;omega)
 have hcn:A18 L x s i=if((s.lo i&& !s.us i)&& !s.ca i)=true then
  {s with ca:=fun j=>s.ca j||decide (j=i),ti:=upd s.ti i (if Abx x.oc (L.g.getD (ro L i).g.toNat ([],0)).2 then 20 else 0)}else s:=rfl
 have hzi:=hz i
 have fin0:∀{fr:List Value},A18 L x s i=s->Ack A7y.res fr H=some (.tuple #[])->Q .ret fr H:=fun e hr=>
  hq2 _ _ ⟨_,hr,Chg.refl _ _,by rw[e];exact h⟩
 have fin:∀{fr:List Value} (t:Sta),A18 L x s i=t->Ack A7y.res fr (H.set c (.cells true false 74 (cyl b t x cv us) 241))=some (.tuple #[])->Q .normal fr (H.set c (.cells true false 74 (cyl b t x cv us) 241)):=fun t e hr=>
  hq1 _ _ ⟨_,hr,Chg.set H cl _,by unfold CyR;rw[e];exact Aaa.Bfe gc _⟩
 unfold amc at gb gbK
 have sh:=Ad6 iN
 have z20:=fun t:Sta=>A14 (b:=b) (s:=t) (x:=x) (cv:=cv) (us:=us) iN
 have hll:4+i<74:=by omega
 simp(disch:=first|assumption|omega)only[A7y,P4,seval]
 refine Aae (A2o h e0) ?_
 rintro _ X ⟨rfl,hX⟩
 rw[hX,Aa4 _ iN]
 cases h1:s.lo i with
 |false=>
  rw[h1]at hcn
  simp(disch:=first|assumption|omega)only[P4,seval]
  exact fin0 hcn rfl
 |true=>
 rw[h1]at hcn
 simp(disch:=first|assumption|omega)only[P4,seval,gc,Apx]
 refine Aae (t42 _ e0) ?_
 rintro _ X ⟨rfl,hX⟩
 rw[hX,Aa4 _ iN]
 cases h2:s.us i with
 |true=>
  rw[h2]at hcn
  simp(disch:=first|assumption|omega)only[P4,seval]
  exact fin0 hcn rfl
 |false=>
 rw[h2]at hcn
 simp(disch:=first|assumption|omega)only[P4,seval,gc,Ani]
 refine Aae (t42 _ e0) ?_
 rintro _ X ⟨rfl,hX⟩
 rw[hX,Aa4 _ iN]
 cases h3:s.ca i with
 |true=>
  rw[h3]at hcn
  simp(disch:=first|assumption|omega)only[P4,seval]
  exact fin0 hcn rfl
 |false=>
 rw[h3]at hcn
 obtain⟨K0,hK0⟩:∃X,X=H.set c (.cells true false 74 (cyl b {s with ca:=fun j=>s.ca j||decide (j=i)} x cv us) 241):=⟨_,rfl⟩
 have c0:Chg [c] H K0:=by rw[hK0];exact Chg.set H cl _
 have h0:CyR K0 c b {s with ca:=fun j=>s.ca j||decide (j=i)} x cv us:=by rw[hK0];exact Aaa.Bfe gc _
 have kK0:Aac K K0:=kK.Bfh c0 (by simp;omega)
 have gb0:=kK0.at_ gbK
 obtain⟨na0,ra0⟩:=MaA.row (slK.keeps kK0) hi
 unfold Ah9 at ra0
 have cl0:=Aaa.Bfg h0
 have gc0:=h0
 unfold CyR at gc0
 simp(disch:=first|assumption|omega)only[P4,seval,gc,cl,Ani,Awm,Ada,sh,Agw,Aci,Abn]
 rw[<-hK0]
 simp(disch:=first|assumption|omega)only[P4,seval,gc0,Aeh,gb0,isl,lenl,na0,ra0,e0,e1,Aaj]
 refine Aat (A2n h0 hsig) ?_
 cases h4:Abx x.oc (L.g.getD (ro L i).g.toNat ([],0)).2 with
 |false=>
  rw[h4]at hcn
  have hu:upd s.ti i 0=s.ti:=Bba (hzi h3)
  simp(disch:=first|assumption|omega)only[P4,seval]
  rw[hK0]
  exact fin _ (by rw[hcn];simp only[Bool.false_eq_true,if_false,hu];rfl) rfl
 |true=>
  rw[h4]at hcn
  simp(disch:=first|assumption|omega)only[P4,seval,gc0,cl0,Ada,z20,hll,e0,e64,Aaz,Int.toNat_natCast,Nat.mul_one]
  rw[hK0,Arv]
  exact fin _ (by rw[hcn];rfl) rfl
theorem t168{H:Aaa}{p T:Nat}{o r:Bool}{n:Int}(hp:H.get p=some (.cells o r 1 [.int .i64 n] T))(z:Int×Bool):
 ∃w H',Aaq Tryz.prog 0 168 [.agg (Aft z).toArray,ptr p 0] H w H'/\w=.bool (z.1==n)/\H'=H:=by
 refine gcb ?_
 refine Aam Bd6 ?_
 intro Q hq1 hq2
 obtain⟨zp,zb⟩:=z
 have kA:=(Aac.refl H).alloc (.cells true false 2 [.int .i64 zp,.bool zb] 120)
 have lp:=Aaa.Bfg hp
 have np:¬p=H.n:=by omega
 unfold Aft
 simp(disch:=first|assumption|omega)only[Bd6,P4,seval,hp,lp,np]
 exact hq2 _ _ ⟨.bool _,rfl,rfl,kA⟩
def A2q(L:Ly)(x:Inp)(s:Sta)(m:Nat):Sta:=if(!Abx x.oc (L.p.getD m ([],0)).2 && !Aes L s m)=true then{s with po:=fun j=>s.po j ^^ decide (j=m)}else s
theorem t163{H:Aaa}{c b:Nat}{s:Sta}{x:Inp}{cv:Value}{us:Nat->Bool}{L:Ly}(h:CyR H c b s x cv us)(hm:MaA H b L)(he:Aan L=0){m:Nat}(hmp:m<L.p.length):
 ∃w H',Aaq Tryz.prog 0 163 [ptr c 0,.int .i64 (m:Nat)] H w H'/\Chg [c] H H'/\CyR H' c b (A2q L x s m) x cv us:=by
 refine Aam Bab ?_
 intro Q hq1 hq2
 have lr:=(Aa1 (Aar he)).r
 have lpp:=(Aa1 (Aar he)).p
 obtain⟨vl,vi,ls,own,room,T,gb,sl,ok,si⟩:=hm.x
 have isl:=Sl.is sl
 have lenl:Ab9 vl=L.r.length:=by have:=Sl.len sl;simpa[Ado]using this
 have isi:=Sl.is si
 have leni:Ab9 vi=L.p.length:=by have:=IL.len si;simpa using this
 have hli:(L.p.map (·.2)).getD m 0=(L.p.getD m ([],0)).2 :=by
  rw[List.getD_eq_getElem?_getD,List.getD_eq_getElem?_getD,List.getElem?_map,List.getElem?_eq_getElem hmp];rfl
 have hlie:=Atu he hmp
 have m0:(0:Int)<=(m:Int):=by omega
 have m1:(m:Int)<((L.p.length:Nat):Int):=by omega
 have gc:=h
 unfold CyR at gc
 obtain⟨K0,hK0⟩:∃X,X=H.alloc (.cells true false 1 [.int .i64 (m:Int)] 3):=⟨_,rfl⟩
 have k0:Aac H K0:=by rw[hK0];exact(Aac.refl H).alloc _
 have gp0:K0.get H.n=some (.cells true false 1 [.int .i64 (m:Int)] 3):=by rw[hK0];exact Aaa.Bfd H _
 have gc0:=k0.at_ gc
 have gb0:=k0.at_ gb
 have h0:CyR K0 c b s x cv us:=gc0
 obtain⟨np,rp⟩:=(si.keeps k0).at_ (i:=m) (by simpa using hmp)
 rw[hli]at rp
 have l0:=Aaa.Bfg gp0
 have l1:=Aaa.Bfg gc0
 have l2:=Aaa.Bfg gb0
 have hmv:A2q L x s m=if(!Abx x.oc (L.p.getD m ([],0)).2 && !Aes L s m)=true then{s with po:=fun j=>s.po j ^^ decide (j=m)}else s:=rfl
 have no:∀{fr:List Value} {K:Aaa},Aac H K->A2q L x s m=s->Ack Bab.res fr K=some (.tuple #[])->Q .ret fr K:=fun k e hr=>
  hq2 _ _ ⟨_,hr,k.chg [c],by rw[e];exact k.at_ h⟩
 unfold amc at gb0
 simp(disch:=first|assumption|omega)only[Bab,P4,seval]
 rw[<-hK0]
 simp(disch:=first|assumption|omega)only[P4,seval,gp0,gc0,Aeh,gb0,isi,leni,np,rp,m0,m1,Aaj,l0,l1,l2]
 refine Aat (A2n h0 hlie) ?_
 cases h1:Abx x.oc (L.p.getD m ([],0)).2 with
 |true=>
  rw[h1]at hmv
  simp(disch:=first|assumption|omega)only[P4,seval]
  exact no k0 hmv rfl
 |false=>
 rw[h1]at hmv
 simp(disch:=first|assumption|omega)only[P3,seval,Aah,Aao,gc0,Aeh,gb0,isl,lenl]
 rw[Aag]
 refine Aal (fun q fr K=>∃i x3 x4 x9 x10,fr=[ptr c 0,.int .i64 (m:Int),ptr H.n 0,x3,x4,.bool false,vl,.int .i64 ((L.r.length:Nat):Int),.int .i64 ((i:Nat):Int),x9,x10]∧
  Aac K0 K/\((List.range i).any fun i=>(nds (ro L i)).any fun z=>s.lo i&&(z.1==(m:Int)))=false/\i<=L.r.length/\q=L.r.length-i) L.r.length
  ⟨0,_,_,_,_,rfl,Aac.refl _,rfl,by omega,rfl⟩ ?_
 rintro Q' q fr K ⟨i,x3,x4,x9,x10,rfl,kK,hall,hi,rfl⟩ hn' hx' hret
 by_cases hlt:i<L.r.length
 ·have iN:i<64:=by omega
  have e0:(0:Int)<=(i:Int):=by omega
  have e1:(i:Int)<((L.r.length:Nat):Int):=by omega
  have hw:=wrS (i:=i) (by omega)
  have yes:((nds (ro L i)).any fun z=>s.lo i&&(z.1==(m:Int)))=true->Aes L s m=true:=fun e=>Aym (p:=fun i=>(nds (ro L i)).any fun z=>s.lo i&&(z.1==(m:Int))) hlt e
  have nope:((nds (ro L i)).any fun z=>s.lo i&&(z.1==(m:Int)))=false->((List.range (i+1)).any fun i=>(nds (ro L i)).any fun z=>s.lo i&&(z.1==(m:Int)))=false:=fun e=>Aov hall e
  obtain⟨na,ra⟩:=MaA.row ((sl.keeps k0).keeps kK) hlt
  have oki:=ok i hlt
  have w1:=Aap (Sl.is oki.t.s)
  have w2:=Aap (Sl.is oki.n.s)
  have w3:=Aap (Sl.is oki.c.s)
  have w4:∀x:Int,one1 (Value.int .i64 x)=True:=fun x=>by simp[one1,Aav]
  obtain⟨KA,hKA⟩:∃X,X=K.alloc (.cells true false 5 (Ah9 L i (ls i)) 107):=⟨_,rfl⟩
  have kA:Aac K KA:=by rw[hKA];exact(Aac.refl K).alloc _
  have grA:KA.get K.n=some (.cells true false 5 (Ah9 L i (ls i)) 107):=by rw[hKA];exact Aaa.Bfd K _
  have gpA:=kA.at_ (kK.at_ gp0)
  have hA:CyR KA c b s x cv us:=kA.at_ (kK.at_ gc0)
  have okA:=((oki.keeps k0).keeps kK).keeps kA
  have kHA:=(k0.trans kK).trans kA
  have lrA:=Aaa.Bfg grA
  unfold Ah9 at ra grA hKA
  simp(disch:=first|assumption|omega|(simp only[LN]<;>omega)|(simp(disch:=first|assumption|omega|(simp only[LN]<;>omega))only[Aab,Aad];assumption))only[P4,seval,e1,lenl,na,ra,Aai,w1,w2,w3,w4]
  rw[<-hKA]
  refine Aae (A2o hA e0) ?_
  rintro _ X ⟨rfl,hX⟩
  rw[hX,Aa4 _ iN]
  cases h2:s.lo i with
  |false=>
   rw[h2]at nope
   simp(disch:=first|assumption|omega)only[P4,seval,hw]
   exact hn' _ _ _ ⟨i+1,_,_,_,_,rfl,kK.trans kA,nope (by simp),by omega,rfl⟩ (by omega)
  |true=>
   rw[h2]at nope yes
   simp(disch:=first|assumption|omega)only[P4,seval,grA,lrA]
   refine Aat (t45 okA.n.s (Nat.le_trans (Att he hlt) (by omega)) (p:=fun z=>z.1==(m:Int)) (g:=168) (fi:= #[]) (ca:= #[ptr H.n 0]) (fun z _=>t168 gpA z)) ?_
   cases h3:(nds (ro L i)).any fun z=>z.1==(m:Int)with
   |true=>
    simp(disch:=first|assumption|omega)only[P4,seval]
    refine hret _ _ ?_
    exact no kHA (by rw[hmv,yes (by simpa using h3)];rfl) rfl
   |false=>
    simp(disch:=first|assumption|omega)only[P4,seval,hw]
    exact hn' _ _ _ ⟨i+1,_,_,_,_,rfl,kK.trans kA,nope (by simpa using h3),by omega,rfl⟩ (by omega)
 ·have e1:¬((i:Nat):Int)<((L.r.length:Nat):Int):=by omega
  have hie:i=L.r.length:=by omega
  subst hie
  have hnd:Aes L s m=false:=hall
  rw[hnd]at hmv
  have gpK:=kK.at_ gp0
  have gcK:=kK.at_ gc0
  have lpK:=Aaa.Bfg gpK
  have lcK:=Aaa.Bfg gcK
  have s2:=Aj3 (show m<32 by omega)
  simp(disch:=first|assumption|omega)only[P4,seval,e1]
  refine hx' _ _ _ ?_
  simp(disch:=first|assumption|omega)only[P4,seval,gpK,gcK,lpK,lcK,Ada,Amb,Ats,s2,Apt,Ae2,Ab3]
  exact hq1 _ _ ⟨_,rfl,((k0.trans kK).chg [c]).trans (Chg.set K lcK _) (by simp),by rw[hmv];exact Aaa.Bfe gcK _⟩
def At0(L:Ly)(x:Inp)(s:Sta)(kd n:Int):Sta:=
 if okC L kd n then(if kd=1 then A2p L x s n.toNat else if kd=2 then A18 L x s n.toNat else A2q L x s n.toNat)else s
theorem A19{L:Ly}{x:Inp}{s:Sta}{kd n:Int}:At0 L x s kd n=Ahz L x s kd n:=by
 unfold At0 Ahz
 by_cases h:okC L kd n=true
 ·rw[if_pos h,if_pos h]
  have h':=h
  unfold okC at h'
  simp only[Bool.and_eq_true,decide_eq_true_eq]at h'
  have hn:((n.toNat:Nat):Int)=n:=by omega
  by_cases h1:kd=1
  ·subst h1
   unfold A2p
   cases Ajc L x s n.toNat<;>simp
  ·by_cases h2:kd=2
   ·subst h2
    unfold A18
    by_cases h3:((s.lo n.toNat&& !s.us n.toNat)&& !s.ca n.toNat)=true<;>simp[h3]
   ·have h3:kd=3:=by omega
    subst h3
    unfold A2q
    rw[hn]
    by_cases h4:(!Abx x.oc (L.p.getD n.toNat ([],0)).2 && !Aes L s n)=true<;>simp[h4]
 ·rw[if_neg h,if_neg h]
theorem At1:eqA 4 .nilFunc .nilFunc=some true:=rfl
theorem At2(a:Fn)(b c:Array Value):eqA 4 (.func a b c) .nilFunc=some false:=rfl
theorem Bbb(a b c:Fn)(d e f g h i:Array Value):Aau [.nilFunc,.nilFunc,.nilFunc,.nilFunc] [(1,1,.func a d e),(2,1,.func b f g),(3,1,.func c h i)]=some [.nilFunc,.func a d e,.func b f g,.func c h i]:=rfl
theorem Ayt(a:Fn)(b c:Array Value):(Value.func a b c).oneCell'=true:=rfl
theorem o_fn(a:Fn)(b c:Array Value):one1 (Value.func a b c)=True:=by simp[one1,Ayt]
theorem Ayu:(Value.nilFunc).oneCell'=true:=rfl
theorem o_nf:one1 (Value.nilFunc)=True:=by simp[one1,Ayu]
theorem t157{K H:Aaa}{c b:Nat}{s:Sta}{x:Inp}{cv:Value}{us:Nat->Bool}{L:Ly}(h:CyR H c b s x cv us)(hK:MaA K b L)(kK:Aac K H)(hc:K.n<=c)(he:Aan L=0)(hz:TZ s){kd n:Int}(hkd:0<=kd)(hkd2:kd<256):
 ∃w H',Aaq Tryz.prog 0 157 [ptr c 0,.agg #[.int .u8 kd,.int .i64 n]] H w H'/\Chg [c] H H'/\CyR H' c b (Ahz L x s kd n) x cv us:=by
 rw[<-A19]
 refine Aam Bd1 ?_
 intro Q hq1 hq2
 have lr:=(Aa1 (Aar he)).r
 have lpp:=(Aa1 (Aar he)).p
 obtain⟨vl,vi,ls,own,room,T,gbK,slK,okK,siK⟩:=hK.x
 have gb:=kK.at_ gbK
 have isl:=Sl.is slK
 have lenl:Ab9 vl=L.r.length:=by have:=Sl.len slK;simpa[Ado]using this
 have isi:=Sl.is siK
 have leni:Ab9 vi=L.p.length:=by have:=IL.len siK;simpa using this
 have gc:=h
 unfold CyR at gc
 obtain⟨fs,hfs⟩:∃fs:List Value,fs=[.nilFunc,.func (.func 161) #[ptr c 0] #[],.func (.func 162) #[ptr c 0] #[],.func (.func 163) #[ptr c 0] #[]]:=⟨_,rfl⟩
 obtain⟨K0,hK0⟩:∃X,X=(H.alloc (.cells true false 2 [.int .u8 kd,.int .i64 n] 83)).alloc (.cells true false 4 fs 244):=⟨_,rfl⟩
 have k0:Aac H K0:=by rw[hK0];exact((Aac.refl H).alloc _).alloc _
 have gm0:K0.get H.n=some (.cells true false 2 [.int .u8 kd,.int .i64 n] 83):=by rw[hK0];exact((Aac.refl _).alloc _).at_ (Aaa.Bfd H _)
 have gf0:K0.get (H.n+1)=some (.cells true false 4 fs 244):=by rw[hK0];exact Aaa.Bfd (H.alloc _) _
 have gc0:=k0.at_ gc
 have gb0:=k0.at_ gb
 have h0:CyR K0 c b s x cv us:=gc0
 have l0:=Aaa.Bfg gm0
 have l1:=Aaa.Bfg gf0
 unfold amc at gb0
 subst hfs
 simp(disch:=first|assumption|omega|(simp only[LN]<;>omega)|(simp(disch:=first|assumption|omega|(simp only[LN]<;>omega))only[Aab,Aad];assumption))only[Bd1,P4,seval,Bbb,Ayt,o_fn,o_nf,Ayu]
 rw[<-hK0]
 simp(disch:=first|assumption|omega)only[P4,seval,gc0,Aeh,gb0,isl,lenl]
 have off:okC L kd n=false->At0 L x s kd n=s:=fun e=>by unfold At0;rw[e];rfl
 have kKK:=kK.trans k0
 by_cases hk1:kd=1
 ·subst hk1
  have t1:Int.toNat 1=1:=rfl
  have w1:IntKind.i64.wrap 1=1:=by rw[Aa5 (by omega) (by omega)]
  have q1:((1:Int)==3)=false:=rfl
  have r1:(1:Int)<4:=by omega
  have z1:(0:Int)<=1:=by omega
  by_cases g1:0<=n
  ·by_cases g2:n<((L.r.length:Nat):Int)
   ·obtain⟨m,rfl⟩:∃m:Nat,n=(m:Int):=⟨n.toNat,by omega⟩
    have g3:m<L.r.length:=by omega
    have mt:Int.toNat (m:Int)=m:=by omega
    have hok:okC L 1 (m:Int)=true:=by unfold okC;simp;omega
    have hres:At0 L x s 1 (m:Int)=A2p L x s m:=by unfold At0;rw[if_pos hok,mt];simp
    simp(disch:=first|assumption|omega)only[P4,seval,gm0,gf0,gc0,Aeh,gb0,isl,lenl,isi,leni,l0,l1,t1,w1,q1,r1,z1,g1,g2,Aaz,Nat.mul_one,Nat.zero_add,At1,At2,Ac4,Acw,List.nil_append,List.append_nil]
    refine Aae (t161 h0 (hK.keeps kKK) he g3) ?_
    rintro _ X ⟨cX,hX⟩
    simp(disch:=first|assumption|omega)only[P4,seval]
    exact hq1 _ _ ⟨_,rfl,(k0.chg [c]).trans cX (by simp),by rw[hres];exact hX⟩
   ·have hok:okC L 1 n=false:=by unfold okC;simp;omega
    simp(disch:=first|assumption|omega)only[P4,seval,gm0,gf0,gc0,Aeh,gb0,isl,lenl,isi,leni,l0,l1,t1,w1,q1,r1,z1,g1,g2,Aaz,Nat.mul_one,Nat.zero_add,At1,At2]
    exact hq1 _ _ ⟨_,rfl,k0.chg [c],by rw[off hok];exact h0⟩
  ·have hok:okC L 1 n=false:=by unfold okC;simp;omega
   simp(disch:=first|assumption|omega)only[P4,seval,gm0,gf0,gc0,Aeh,gb0,isl,lenl,isi,leni,l0,l1,t1,w1,q1,r1,z1,g1,Aaz,Nat.mul_one,Nat.zero_add,At1,At2]
   exact hq1 _ _ ⟨_,rfl,k0.chg [c],by rw[off hok];exact h0⟩
 by_cases hk2:kd=2
 ·subst hk2
  have t2:Int.toNat 2=2:=rfl
  have w2:IntKind.i64.wrap 2=2:=by rw[Aa5 (by omega) (by omega)]
  have q2:((2:Int)==3)=false:=rfl
  have r2:(2:Int)<4:=by omega
  have z2:(0:Int)<=2:=by omega
  by_cases g1:0<=n
  ·by_cases g2:n<((L.r.length:Nat):Int)
   ·obtain⟨m,rfl⟩:∃m:Nat,n=(m:Int):=⟨n.toNat,by omega⟩
    have g3:m<L.r.length:=by omega
    have mt:Int.toNat (m:Int)=m:=by omega
    have hok:okC L 2 (m:Int)=true:=by unfold okC;simp;omega
    have hres:At0 L x s 2 (m:Int)=A18 L x s m:=by unfold At0;rw[if_pos hok,mt];simp
    simp(disch:=first|assumption|omega)only[P4,seval,gm0,gf0,gc0,Aeh,gb0,isl,lenl,isi,leni,l0,l1,t2,w2,q2,r2,z2,g1,g2,Aaz,Nat.mul_one,Nat.zero_add,At1,At2,Ac4,Acw,List.nil_append,List.append_nil]
    refine Aae (t162 h0 hK kKK hc he hz g3) ?_
    rintro _ X ⟨cX,hX⟩
    simp(disch:=first|assumption|omega)only[P4,seval]
    exact hq1 _ _ ⟨_,rfl,(k0.chg [c]).trans cX (by simp),by rw[hres];exact hX⟩
   ·have hok:okC L 2 n=false:=by unfold okC;simp;omega
    simp(disch:=first|assumption|omega)only[P4,seval,gm0,gf0,gc0,Aeh,gb0,isl,lenl,isi,leni,l0,l1,t2,w2,q2,r2,z2,g1,g2,Aaz,Nat.mul_one,Nat.zero_add,At1,At2]
    exact hq1 _ _ ⟨_,rfl,k0.chg [c],by rw[off hok];exact h0⟩
  ·have hok:okC L 2 n=false:=by unfold okC;simp;omega
   simp(disch:=first|assumption|omega)only[P4,seval,gm0,gf0,gc0,Aeh,gb0,isl,lenl,isi,leni,l0,l1,t2,w2,q2,r2,z2,g1,Aaz,Nat.mul_one,Nat.zero_add,At1,At2]
   exact hq1 _ _ ⟨_,rfl,k0.chg [c],by rw[off hok];exact h0⟩
 by_cases hk3:kd=3
 ·subst hk3
  have t3:Int.toNat 3=3:=rfl
  have w3:IntKind.i64.wrap 3=3:=by rw[Aa5 (by omega) (by omega)]
  have q3:((3:Int)==3)=true:=rfl
  have r3:(3:Int)<4:=by omega
  have z3:(0:Int)<=3:=by omega
  by_cases g1:0<=n
  ·by_cases g2:n<((L.p.length:Nat):Int)
   ·obtain⟨m,rfl⟩:∃m:Nat,n=(m:Int):=⟨n.toNat,by omega⟩
    have g3:m<L.p.length:=by omega
    have mt:Int.toNat (m:Int)=m:=by omega
    have hok:okC L 3 (m:Int)=true:=by unfold okC;simp;omega
    have hres:At0 L x s 3 (m:Int)=A2q L x s m:=by unfold At0;rw[if_pos hok,mt];simp
    simp(disch:=first|assumption|omega)only[P4,seval,gm0,gf0,gc0,Aeh,gb0,isl,lenl,isi,leni,l0,l1,t3,w3,q3,r3,z3,g1,g2,Aaz,Nat.mul_one,Nat.zero_add,At1,At2,Ac4,Acw,List.nil_append,List.append_nil]
    refine Aae (t163 h0 (hK.keeps kKK) he g3) ?_
    rintro _ X ⟨cX,hX⟩
    simp(disch:=first|assumption|omega)only[P4,seval]
    exact hq1 _ _ ⟨_,rfl,(k0.chg [c]).trans cX (by simp),by rw[hres];exact hX⟩
   ·have hok:okC L 3 n=false:=by unfold okC;simp;omega
    simp(disch:=first|assumption|omega)only[P4,seval,gm0,gf0,gc0,Aeh,gb0,isl,lenl,isi,leni,l0,l1,t3,w3,q3,r3,z3,g1,g2,Aaz,Nat.mul_one,Nat.zero_add,At1,At2]
    exact hq1 _ _ ⟨_,rfl,k0.chg [c],by rw[off hok];exact h0⟩
  ·have hok:okC L 3 n=false:=by unfold okC;simp;omega
   simp(disch:=first|assumption|omega)only[P4,seval,gm0,gf0,gc0,Aeh,gb0,isl,lenl,isi,leni,l0,l1,t3,w3,q3,r3,z3,g1,Aaz,Nat.mul_one,Nat.zero_add,At1,At2]
   exact hq1 _ _ ⟨_,rfl,k0.chg [c],by rw[off hok];exact h0⟩
 have hok:okC L kd n=false:=by unfold okC;simp;omega
 have q3:(kd==3)=false:=by simp[hk3]
 have wk:IntKind.i64.wrap kd=kd:=by rw[Aa5 (by omega) (by omega)]
 by_cases hk0:kd=0
 ·subst hk0
  have t0:Int.toNat 0=0:=rfl
  have r0:(0:Int)<4:=by omega
  simp(disch:=first|assumption|omega)only[P4,seval,gm0,gf0,gc0,Aeh,gb0,isl,lenl,isi,leni,l0,l1,q3,wk,t0,r0,Aaz,Nat.mul_one,Nat.zero_add,At1,At2]
  exact hq1 _ _ ⟨_,rfl,k0.chg [c],by rw[off hok];exact h0⟩
 ·have r4:¬kd<4:=by omega
  simp(disch:=first|assumption|omega)only[P4,seval,gm0,gf0,gc0,Aeh,gb0,isl,lenl,isi,leni,l0,l1,q3,wk,r4]
  exact hq1 _ _ ⟨_,rfl,k0.chg [c],by rw[off hok];exact h0⟩
structure SlC (H:Aaa) (z:Nat) (v:Value) (rows:List (List Value)):Prop where
 s:Sl H z v rows
 c:v=.slice none 0 0\/(∃b o q,v=.slice (some ⟨b,o,some q⟩) 0 0)\/∃b n k o r c u,v=slc b 0 n k/\n<=k/\H.get b=some (.cells o r z c u)
theorem SlC.keeps{H K:Aaa}{z:Nat}{v:Value}{rows:List (List Value)}(h:SlC H z v rows)(k:Aac H K):SlC K z v rows:=by
 refine⟨h.s.keeps k,?_⟩
 rcases h.c with e|e|⟨b,n,m,o,r,c,u,e1,e2,e3⟩
 ·exact .inl e
 ·exact .inr (.inl e)
 ·exact .inr (.inr ⟨b,n,m,o,r,c,u,e1,e2,k.at_ e3⟩)
theorem SlC.pre{H:Aaa}{z:Nat}{v:Value}{rows:List (List Value)}(h:SlC H z v rows){i:Nat}{kd:IntKind}(hi:i<=rows.length):∃w,(∀K,Aac H K->Aak (.slsl z v none (some (.int kd (i:Nat))) none) K=some (w,K))/\Sl H z w (rows.take i):=by
 have hr:∀r∈rows.take i,r.length=z:=fun r hm=>h.s.row r (List.mem_of_mem_take hm)
 have hl:=h.s.len
 rcases h.c with rfl|⟨b,o,q,rfl⟩|⟨b,n,k,o,r,c,u,rfl,e2,e3⟩
 ·have:rows=[]:=List.eq_nil_of_length_eq_zero hl.symm
  subst this
  have:i=0:=by simpa using hi
  subst this
  exact⟨_,fun _ _=>Aeo ⟨0,0,0,Abl 0 0,Ac3 kd 0 0 0 (Nat.le_refl _),Abl 0 0⟩,Sl.nil _ _⟩
 ·have:rows=[]:=List.eq_nil_of_length_eq_zero hl.symm
  subst this
  have:i=0:=by simpa using hi
  subst this
  refine⟨_,fun K _=>?_,h.s⟩
  have h1:=Abl 0 0
  have h2:=Ac3 kd 0 0 0 (Nat.le_refl _)
  simp only[Aak,h1,h2,and_self,if_true]
 ·have hn:n=rows.length:=hl
  subst hn
  refine⟨_,fun K kk=>Alq (kk.at_ e3) (Abl _ _) (Ac3 kd i rows.length k (by omega)) (Abl 0 i),⟨⟨_,_,by rw[List.length_take,Nat.min_eq_left hi,Nat.sub_zero];rfl⟩,hr,?_⟩⟩
  have hel:=h.s.el
  simp only[Abf,slc,e3]at hel
  have hf:rows.flatten.length=rows.length*z:=Ab7 h.s.row
  have hle:i*z<=rows.length*z:=Nat.mul_le_mul_right _ hi
  split at hel
  ·rename_i hc
   rw[Option.some.injEq,List.drop_zero]at hel
   simp only[Abf,slc,e3,Nat.zero_mul,Nat.add_zero,Nat.zero_add,Nat.sub_zero]
   rw[if_pos (by omega),List.drop_zero]
   congr 1
   have e:rows.flatten=(rows.take i).flatten++(rows.drop i).flatten:=by rw[<-List.flatten_append,List.take_append_drop]
   have hl2:(rows.take i).flatten.length=i*z:=by rw[Ab7 hr,List.length_take,Nat.min_eq_left hi]
   have e4:c.take (i*z)=(c.take (rows.length*z)).take (i*z):=by rw[List.take_take,Nat.min_eq_left hle]
   rw[e4,hel,e,<-hl2,List.take_left]
  ·cases hel
theorem Bbc(z0 u a:Value)(zs zi S I:List Value)(h1:zs.length=68)(h2:zi.length=4)(h3:S.length=68)(h4:I.length=4)(ha:a.cells.toList=[a]):
 Aau (z0::(zs++(zi++[u]))) [(0,1,a),(1,68,.agg S.toArray),(69,4,.agg I.toArray)]=some (a::(S++(I++[u]))):=by
 have c1:(Value.agg S.toArray).cells.toList=S:=rfl
 have c2:(Value.agg I.toArray).cells.toList=I:=rfl
 rw[Adz,ha,if_pos ⟨rfl,by simp⟩]
 have e1:(z0::(zs++(zi++[u]))).take 0++[a]++(z0::(zs++(zi++[u]))).drop (0+1)=a::(zs++(zi++[u])):=by simp
 rw[e1,Adz,c1,if_pos ⟨h3,by simp[h1]⟩]
 have e2:(a::(zs++(zi++[u]))).take 1++S++(a::(zs++(zi++[u]))).drop (1+68)=(a::S)++(zi++[u]):=by
  have:(a::(zs++(zi++[u]))).drop (1+68)=zi++[u]:=by
   rw[Nat.add_comm,List.drop_succ_cons,<-h1,List.drop_left]
  rw[this];simp
 rw[e2,Adz,c2,if_pos ⟨h4,by simp[h2,h3]⟩]
 have e3:((a::S)++(zi++[u])).take 69=a::S:=by
  have:(69:Nat)=(a::S).length:=by simp[h3]
  rw[this,List.take_left]
 have e4:((a::S)++(zi++[u])).drop (69+4)=[u]:=by
  have e:(a::S)++(zi++[u])=((a::S)++zi)++[u]:=by simp
  have:(69+4:Nat)=((a::S)++zi).length:=by simp[h3,h2]
  rw[e,this,List.drop_left]
 rw[e3,e4]
 simp[Aau]
theorem A7i:A99=Value.pointer none::((([.int .u64 0,.int .u64 0,.int .u64 0]:List Value)++List.replicate 64 (.int .u8 0)++[.int .u32 0])++(([.int .u64 0,.int .u32 0,.int .u32 0,.slice none 0 0]:List Value)++[.int .u64 0])):=rfl
theorem Bbd(b:Nat)(s:Sta)(x:Inp)(cv:Value):Aau A99 [(0,1,ptr b 0),(1,68,.agg (stl s).toArray),(69,4,.agg #[S64 x.oc,S32 x.nr,S32 x.rv,cv])]=some (cyl b s x cv fun _=>false):=by
 have e:(#[S64 x.oc,S32 x.nr,S32 x.rv,cv]:Array Value)=[S64 x.oc,S32 x.nr,S32 x.rv,cv].toArray:=rfl
 rw[A7i,e,Bbc _ _ _ _ _ _ _ (by simp) rfl (Aaf s) rfl rfl,Acs]
 rfl
theorem A2a{b:Nat}{s:Sta}{x:Inp}{cv:Value}{us:Nat->Bool}(hc:isS cv=true):(cyl b s x cv us).all Value.oneCell'=true:=by
 show(true&&(stl s++[S64 x.oc,S32 x.nr,S32 x.rv,cv,S64 us]).all Value.oneCell')=true
 rw[List.all_append,Aas]
 have:cv.oneCell'=true:=by
  cases cv with
  |slice a n k=>rfl
  |_=>cases hc
 simp[this,Abn,Ab3]
theorem A2b(L:Ly)(s:Sta):TZ (Ach L s):=by
 intro j h
 show(if _ then _ else _)=0
 rw[if_neg]
 have h':(s.ca j&&(s.lo j&&Abr L.r.length j))=false:=h
 rw[h'];simp
theorem A7j{L:Ly}{x:Inp}{s:Sta}{kd n:Int}(h:TZ s):TZ (Ahz L x s kd n):=by
 intro j
 have hj:=h j
 unfold Ahz
 repeat' split
 all_goals first|exact hj|skip
 all_goals
  intro h2
  simp only[Bool.or_eq_false_iff,decide_eq_false_iff_not]at h2
  show upd _ _ _ j=0
  unfold upd
  rw[if_neg h2.2];exact hj h2.1
theorem Ayv{L:Ly}{x:Inp}:∀{cs:List (Int×Int)} {s:Sta},TZ s->TZ (Alb L x s cs)
 |[],s,h=>h
 |c::cs,s,h=>Ayv (cs:=cs) (A7j h)
theorem t156{H:Aaa}{b:Nat}{L:Ly}{s:Sta}{x:Inp}{cv:Value}{cs:List (Int×Int)}(hm:MaA H b L)(he:Aan L=0)(hc:SlC H 2 cv (cs.map Aer))(hcl:cs.length<=1000000)(hk:∀c∈cs,0<=c.1/\c.1<256):
 ∃w H',Aaq Tryz.prog 0 156 [ptr b 0,.agg (stl s).toArray,.agg (inl x cv).toArray] H w H'/\w=.tuple #[.agg (stl (Acj L s x cs)).toArray,.agg #[S64 (fun i=>decide (i<L.r.length)&&Ad3 L x (Acj L s x cs) i),S32 (Acj L s x cs).po]]/\H'=H:=by
 suffices h':∃w H',Aaq Tryz.prog 0 156 [ptr b 0,.agg (stl s).toArray,.agg (inl x cv).toArray] H w H'/\w=.tuple #[.agg (stl (Acj L s x cs)).toArray,.agg #[S64 (fun i=>decide (i<L.r.length)&&Ad3 L x (Acj L s x cs) i),S32 (Acj L s x cs).po]]/\Aac H H' by
  obtain⟨_,_,a,rfl,k⟩:=h'
  exact⟨_,_,a.gc0 k (.inr (NV.tuple_of (.cons (Aoo _ _) (.cons (NV.agg_of (l:=[S64 (fun i=>decide (i<L.r.length)&&Ad3 L x (Acj L s x cs) i),S32 (Acj L s x cs).po]) (NL.plain rfl)) .nil)))),rfl,rfl⟩
 refine Aam Bd0 ?_
 intro Q hq1 hq2
 have lr:=(Aa1 (Aar he)).r
 obtain⟨vl,vi,ls,own,room,T,gb,sl,ok,si⟩:=hm.x
 have isl:=Sl.is sl
 have lenl:Ab9 vl=L.r.length:=by have:=Sl.len sl;simpa[Ado]using this
 have isc:=Sl.is hc.s
 have onec:=Sl.one hc.s
 have clen:Ab9 cv=cs.length:=by have:=Sl.len hc.s;simpa using this
 have hinl:inl x cv=[S64 x.oc,S32 x.nr,S32 x.rv,cv]:=rfl
 obtain⟨K0,hK0⟩:∃X,X=(((H.alloc (.cells true false 68 (stl s) 43)).alloc (.cells true false 4 (inl x cv) 46)).alloc (.cells true false 68 (stl Abi) 43)).alloc (.cells true false 2 [.int .u64 0,.int .u32 0] 54):=⟨_,rfl⟩
 have k0:Aac H K0:=by rw[hK0];exact((((Aac.refl H).alloc _).alloc _).alloc _).alloc _
 have n0:K0.n=H.n+4:=by rw[hK0];rfl
 have gs0:K0.get H.n=some (.cells true false 68 (stl s) 43):=by rw[hK0];exact((((Aac.refl _).alloc _).alloc _).alloc _).at_ (Aaa.Bfd H _)
 have gi0:K0.get (H.n+1)=some (.cells true false 4 (inl x cv) 46):=by rw[hK0];exact(((Aac.refl _).alloc _).alloc _).at_ (Aaa.Bfd (H.alloc _) _)
 have gw0:K0.get (H.n+2)=some (.cells true false 68 (stl Abi) 43):=by rw[hK0];exact((Aac.refl _).alloc _).at_ (Aaa.Bfd ((H.alloc _).alloc _) _)
 have go0:K0.get (H.n+3)=some (.cells true false 2 [.int .u64 0,.int .u32 0] 54):=by rw[hK0];exact Aaa.Bfd (((H.alloc _).alloc _).alloc _) _
 have gb0:=k0.at_ gb
 have l0:=Aaa.Bfg gs0
 have l1:=Aaa.Bfg gi0
 have tT:=t41 (hm.keeps k0) lr s
 unfold amc at gb gb0
 have cl1:=A2a (b:=b) (s:=Ach L s) (x:=x) (us:=fun _=>false) isc
 rw[hinl]at hK0 gi0
 rw[hinl]
 simp(disch:=first|assumption|omega|(simp only[LN]<;>omega)|(simp(disch:=first|assumption|omega|(simp only[LN]<;>omega))only[Aab,Aad];assumption))only[Bd0,P4,seval,Aas,Aaf,Aa6,onec,O4,Ayq]
 simp only[<-hK0]
 refine Aae tT ?_
 rintro _ X ⟨rfl,hX⟩
 rw[hX]
 obtain⟨s0,hs0e⟩:∃t,t=Ach L s:=⟨_,rfl⟩
 rw[<-hs0e]at cl1 ⊢
 obtain⟨K1,hK1⟩:∃X,X=K0.alloc (.cells true false 74 (cyl b s0 x cv s0.us) 241):=⟨_,rfl⟩
 have k1:Aac K0 K1:=by rw[hK1];exact(Aac.refl K0).alloc _
 have gc1:CyR K1 (H.n+4) b s0 x cv s0.us:=by rw[hK1,<-n0];exact Aaa.Bfd K0 _
 simp(disch:=first|assumption|omega|(simp only[LN]<;>omega)|(simp(disch:=first|assumption|omega|(simp only[LN]<;>omega))only[Aab,Aad];assumption))only[P3,seval,Aah,Aao,gs0,gi0,l0,l1,Aa6,Bbd,cl1,Ada,Apx,A7b,Aci,Abn]
 rw[<-hK1]
 have hmn:min ((Ab9 cv:Nat):Int) 8=((min cs.length 8:Nat):Int):=by rw[clen];omega
 obtain⟨cw,hcw0,slw0⟩:=hc.pre (i:=min cs.length 8) (kd:=.i64) (by rw[List.length_map];omega)
 have hcw:=hcw0 _ (k0.trans k1)
 obtain⟨ds,hds⟩:∃ds,ds=cs.take 8:=⟨_,rfl⟩
 have slw:CL H cw ds:=by
  have e:(cs.map Aer).take (min cs.length 8)=ds.map Aer:=by
   rw[hds,List.map_take,List.take_eq_take_iff];simp;omega
  rw[e]at slw0;exact slw0
 have lends:ds.length=min cs.length 8:=by rw[hds,List.length_take,Nat.min_comm]
 have isw:=Sl.is slw
 have lenw:=slw.len
 rw[<-lends]at hmn hcw
 have ld8:ds.length<=8:=by omega
 simp(disch:=first|assumption|omega)only[P3,seval,Aah,Aao,hmn,hcw,isw,lenw]
 obtain⟨A2,hA2⟩:∃v:Value,v=.agg (stl s).toArray:=⟨_,rfl⟩
 obtain⟨A4,hA4⟩:∃v:Value,v=.agg #[S64 x.oc,S32 x.nr,S32 x.rv,cv]:=⟨_,rfl⟩
 rw[Aag,<-hA2,<-hA4,n0]
 refine Aal (fun q fr X=>∃i x8 x16,fr=[ptr b 0,A2,A4,ptr H.n 0,ptr (H.n+1) 0,ptr (H.n+2) 0,ptr (H.n+3) 0,ptr (H.n+4) 0,x8,undef,undef,undef,.bool false,cw,.int .i64 ((ds.length:Nat):Int),.int .i64 ((i:Nat):Int),x16,undef,undef,undef,undef,undef,undef,undef,undef]∧
  Chg [H.n+4] K1 X/\CyR X (H.n+4) b (Alb L x s0 (ds.take i)) x cv s0.us/\i<=ds.length/\q=ds.length-i) ds.length
  ⟨0,_,_,rfl,Chg.refl _ _,gc1,by omega,rfl⟩ ?_
 rintro Q' q fr X ⟨i,x8,x16,rfl,cX,gX,hi,rfl⟩ hn' hx' hret
 have kX:Aac H X:=(k0.trans k1).Bfh cX (by simp)
 by_cases h1:i<ds.length
 ·obtain⟨nc,rc⟩:=CL.at_ (slw.keeps kX) h1
  have e0:(0:Int)<=(i:Int):=by omega
  have e1:(i:Int)<((ds.length:Nat):Int):=by omega
  have hw:=wrS (i:=i) (by omega)
  have hgd:ds.getD i (0,0)=ds[i]:=by rw[List.getD_eq_getElem?_getD,List.getElem?_eq_getElem h1];rfl
  have htk:ds.take (i+1)=ds.take i++[ds[i]]:=by rw[List.take_add_one,List.getElem?_eq_getElem h1];rfl
  have hkd:=hk ds[i] (List.mem_of_mem_take (by rw[<-hds];exact List.getElem_mem h1))
  have tz:TZ (Alb L x s0 (ds.take i)):=Ayv (by rw[hs0e];exact A2b L s)
  rw[hgd]at rc
  generalize ds[i]=c at*
  obtain⟨kd,n⟩:=c
  obtain⟨XA,hXA⟩:∃Z,Z=X.alloc (.cells true false 2 [.int .u8 kd,.int .i64 n] 83):=⟨_,rfl⟩
  have kA:Aac X XA:=by rw[hXA];exact(Aac.refl X).alloc _
  have gmA:XA.get X.n=some (.cells true false 2 [.int .u8 kd,.int .i64 n] 83):=by rw[hXA];exact Aaa.Bfd X _
  have gA:CyR XA (H.n+4) b (Alb L x s0 (ds.take i)) x cv s0.us:=kA.at_ gX
  have lA:=Aaa.Bfg gmA
  simp(disch:=first|assumption|omega|(simp only[LN]<;>omega)|(simp(disch:=first|assumption|omega|(simp only[LN]<;>omega))only[Aab,Aad];assumption))only[P4,seval,e1,nc,rc,Aai,lenw]
  rw[<-hXA]
  refine Aae (t157 gA hm (kX.trans kA) (by omega) he tz hkd.1 hkd.2) ?_
  rintro _ Y ⟨cY,gY⟩
  simp(disch:=first|assumption|omega)only[P4,seval,hw]
  exact hn' _ _ _ ⟨i+1,_,_,rfl,(cX.trans (kA.chg [H.n+4]) (by simp)).trans cY (by simp),by rw[htk,Al8];exact gY,by omega,rfl⟩ (by omega)
 ·have e1:¬(i:Int)<((ds.length:Nat):Int):=by omega
  have hil:i=ds.length:=by omega
  subst hil
  rw[List.take_length]at gX
  obtain⟨s1,hs1⟩:∃t,t=Alb L x s0 ds:=⟨_,rfl⟩
  rw[<-hs1]at gX
  have ti1:∀i,s1.ti i<=20:=by rw[hs1,hs0e];exact Anf (Ane L s)
  have hst:Acj L s x cs=Ak7 L x s0.us s1 L.r.length:=by unfold Acj;rw[hs1,hs0e,hds]
  rw[hst]at hq1 hq2
  simp(disch:=first|assumption|omega)only[P4,seval,e1]
  refine hx' _ _ _ ?_
  have gbX:=kX.at_ gb
  simp(disch:=first|assumption|omega)only[P3,seval,Aah,Aao,gbX,isl,lenl]
  rw[Aag]
  refine Aal (fun q fr Y=>∃k x9 x19 x20,fr=[ptr b 0,A2,A4,ptr H.n 0,ptr (H.n+1) 0,ptr (H.n+2) 0,ptr (H.n+3) 0,ptr (H.n+4) 0,x8,x9,undef,undef,.bool false,cw,.int .i64 ((ds.length:Nat):Int),.int .i64 ((ds.length:Nat):Int),.bool false,.int .i64 ((L.r.length:Nat):Int),.int .i64 ((k:Nat):Int),x19,x20,undef,undef,undef,undef]∧
   Chg [H.n+4] K1 Y/\CyR Y (H.n+4) b (Ak7 L x s0.us s1 k) x cv s0.us/\k<=L.r.length/\q=L.r.length-k) L.r.length
   ⟨0,_,_,_,rfl,cX,gX,by omega,rfl⟩ ?_
  rintro Q2 q fr Y ⟨k,x9,x19,x20,rfl,cY,gY,hk',rfl⟩ hn2 hx2 hret2
  have kY:Aac H Y:=(k0.trans k1).Bfh cY (by simp)
  by_cases hlk:k<L.r.length
  ·have kN:k<64:=by omega
   have c0:(0:Int)<=(k:Int):=by omega
   have c1:((k:Nat):Int)<((L.r.length:Nat):Int):=by omega
   have hw2:=wrS (i:=k) (by omega)
   have hrs:=Al9 L x s0.us s1 k
   have tik:=Ak8 (L:=L) (x:=x) (us:=s0.us) ti1 k
   generalize Ak7 L x s0.us s1 k=t at*
   simp(disch:=first|assumption|omega)only[P4,seval,c1]
   refine Aae (A2o gY c0) ?_
   rintro _ Z ⟨rfl,hZ⟩
   rw[hZ,Aa4 _ kN]
   cases hlo:t.lo k with
   |false=>
    rw[hlo]at hrs
    simp(disch:=first|assumption|omega)only[P4,seval,hw2]
    exact hn2 _ _ _ ⟨k+1,_,_,_,rfl,cY,by rw[hrs];exact gY,by omega,rfl⟩ (by omega)
   |true=>
    rw[hlo]at hrs
    simp(disch:=first|assumption|omega)only[P4,seval]
    refine Aae (t159 gY (hm.keeps kY) he (fun i=>by have:=tik i;omega) hlk) ?_
    rintro _ Z ⟨cZ,gZ⟩
    simp(disch:=first|assumption|omega)only[P4,seval,hw2]
    exact hn2 _ _ _ ⟨k+1,_,_,_,rfl,cY.trans cZ (by simp),by rw[hrs];exact gZ,by omega,rfl⟩ (by omega)
  ·have c1:¬((k:Nat):Int)<((L.r.length:Nat):Int):=by omega
   have hke:k=L.r.length:=by omega
   subst hke
   obtain⟨t,ht⟩:∃t,t=Ak7 L x s0.us s1 L.r.length:=⟨_,rfl⟩
   rw[<-ht]at hq1 hq2 gY
   have gcY:=gY
   unfold CyR at gcY
   have lcY:=Aaa.Bfg gcY
   have gbY:=kY.at_ gb
   have gwY:=cY.at_ (k1.at_ gw0) (by simp)
   have goY:=cY.at_ (k1.at_ go0) (by simp)
   simp(disch:=first|assumption|omega)only[P4,seval,c1]
   refine hx2 _ _ _ ?_
   obtain⟨Z0,hZ0⟩:∃Z,Z=Y.alloc (.cells true false 2 [S64 fun j=>decide (j<0)&&Ad3 L x t j,S32 t.po] 54):=⟨_,rfl⟩
   have kZ0:Aac Y Z0:=by rw[hZ0];exact(Aac.refl Y).alloc _
   have gz0:Z0.get Y.n=some (.cells true false 2 [S64 fun j=>decide (j<0)&&Ad3 L x t j,S32 t.po] 54):=by rw[hZ0];exact Aaa.Bfd Y _
   have e00:Value.int .u64 0=S64 fun j=>decide (j<0)&&Ad3 L x t j:=by rw[Acs];exact Abk fun i _=>by simp
   simp(disch:=first|assumption|omega|(simp only[LN]<;>omega)|(simp(disch:=first|assumption|omega|(simp only[LN]<;>omega))only[Aab,Aad];assumption))only[P3,seval,Aah,Aao,gcY,Amb,gbY,isl,lenl,Ayn,Ae2,Ab3]
   have gbZ0:=kZ0.at_ gbY
   rw[e00,<-hZ0]
   simp(disch:=first|assumption|omega)only[P3,seval,Aah,Aao,gbZ0,isl,lenl]
   rw[Aag]
   refine Aal (fun q fr Z=>∃k x11 x23 x24,fr=[ptr b 0,A2,A4,ptr H.n 0,ptr (H.n+1) 0,ptr (H.n+2) 0,ptr (H.n+3) 0,ptr (H.n+4) 0,x8,x9,ptr Y.n 0,x11,.bool false,cw,.int .i64 ((ds.length:Nat):Int),.int .i64 ((ds.length:Nat):Int),.bool false,.int .i64 ((L.r.length:Nat):Int),.int .i64 ((L.r.length:Nat):Int),.bool false,x20,.int .i64 ((L.r.length:Nat):Int),.int .i64 ((k:Nat):Int),x23,x24]∧
    Chg [Y.n] Z0 Z/\Z.get Y.n=some (.cells true false 2 [S64 fun j=>decide (j<k)&&Ad3 L x t j,S32 t.po] 54)/\k<=L.r.length/\q=L.r.length-k) L.r.length
    ⟨0,_,_,_,rfl,Chg.refl _ _,gz0,by omega,rfl⟩ ?_
   rintro Q3 q fr Z ⟨k,x11,x23,x24,rfl,cZ,gz,hk',rfl⟩ hn3 hx3 hret3
   have kYZ:Aac Y Z:=kZ0.Bfh cZ (by simp)
   have kZ:Aac H Z:=kY.trans kYZ
   have gZ:CyR Z (H.n+4) b t x cv s0.us:=kYZ.at_ gcY
   have gcZ:=kYZ.at_ gcY
   have gwZ:=kYZ.at_ gwY
   have goZ:=kYZ.at_ goY
   have lZ:=Aaa.Bfg gz
   by_cases hlk:k<L.r.length
   ·have kN:k<64:=by omega
    have c0:(0:Int)<=(k:Int):=by omega
    have c1:((k:Nat):Int)<((L.r.length:Nat):Int):=by omega
    have hw2:=wrS (i:=k) (by omega)
    have sh:=Ad6 kN
    simp(disch:=first|assumption|omega)only[P4,seval,c1]
    refine Aat (t160 gZ (hm.keeps kZ) he isc hlk) ?_
    cases hp:Ad3 L x t k with
    |false=>
     simp(disch:=first|assumption|omega)only[P4,seval,hw2]
     exact hn3 _ _ _ ⟨k+1,_,_,_,rfl,cZ,by rw[gz,Aos (Ad3 L x t) k hp],by omega,rfl⟩ (by omega)
    |true=>
     simp(disch:=first|assumption|omega)only[P4,seval,gz,sh,Agw,Aci,Abn,hw2]
     refine hn3 _ _ _ ⟨k+1,_,_,_,rfl,cZ.trans (Chg.set Z lZ _) (by simp),?_,by omega,rfl⟩ (by omega)
     rw[Aaa.Bfe gz,<-Aor (Ad3 L x t) k hp]
     congr 4
     congr 1
     funext j
     simp only[Acu,Int.ofNat_inj]
   ·have c1:¬((k:Nat):Int)<((L.r.length:Nat):Int):=by omega
    have hke:k=L.r.length:=by omega
    subst hke
    have hwl:=Aaa.Bfg gwZ
    have hol:=Aaa.Bfg goZ
    have oa:∀o,(Z.set (H.n+2) o).get (H.n+3)=Z.get (H.n+3):=fun o=>Aaa.Bff Z (by omega) hwl o
    simp(disch:=first|assumption|omega)only[P4,seval,c1]
    refine hx3 _ _ _ ?_
    simp(disch:=first|assumption|omega|(simp only[LN]<;>omega)|(simp(disch:=first|assumption|omega|(simp only[LN]<;>omega))only[Aab,Aad];assumption))only[P4,seval,gcZ,A15,gz,gwZ,goZ,oa,Aa6,Aa8,O4]
    obtain⟨pr,hpr⟩:∃pr:Nat->Bool,pr=fun j=>decide (j<L.r.length)&&Ad3 L x t j:=⟨_,rfl⟩
    rw[<-hpr]at hq2 ⊢
    refine⟨by simp,hq2 _ _ ⟨.tuple #[.agg (stl t).toArray,.agg #[S64 pr,S32 t.po]],?_,rfl,(kZ.set (by omega) hwl _).set (by omega) (by rw[Ab6];exact hol) _⟩⟩
    have ga3:((Z.set (H.n+2) (.cells true false 68 (stl t) 43)).set (H.n+3) (.cells true false 2 [S64 pr,S32 t.po] 54)).get (H.n+2)=some (.cells true false 68 (stl t) 43):=by
     rw[Aaa.Bff _ (by omega) (by rw[Ab6];exact hol)];exact Aaa.Bfe gwZ _
    have go3:((Z.set (H.n+2) (.cells true false 68 (stl t) 43)).set (H.n+3) (.cells true false 2 [S64 pr,S32 t.po] 54)).get (H.n+3)=some (.cells true false 2 [S64 pr,S32 t.po] 54):=
     Aaa.Bfe ((oa _).trans goZ) _
    show Ack [.cn 68 5,.cn 2 6] _ _=_
    have r1':Adb 68 (ptr (H.n+2) 0) ((Z.set (H.n+2) (.cells true false 68 (stl t) 43)).set (H.n+3) (.cells true false 2 [S64 pr,S32 t.po] 54))=some (.agg (stl t).toArray):=by
     rw[Ace,Abe,ga3,Aa6];rfl
    have r2':Adb 2 (ptr (H.n+3) 0) ((Z.set (H.n+2) (.cells true false 68 (stl t) 43)).set (H.n+3) (.cells true false 2 [S64 pr,S32 t.po] 54))=some (.agg #[S64 pr,S32 t.po]):=by
     rw[Ace,Abe,go3];rfl
    have e5:∀l:List Value,l.getD 5 undef=ptr (H.n+2) 0->l.getD 6 undef=ptr (H.n+3) 0->∀K,Adb 68 (ptr (H.n+2) 0) K=some (.agg (stl t).toArray)->Adb 2 (ptr (H.n+3) 0) K=some (.agg #[S64 pr,S32 t.po])→
     Ack [.cn 68 5,.cn 2 6] l K=some (.tuple #[.agg (stl t).toArray,.agg #[S64 pr,S32 t.po]]):=fun l a b K c d=>by
     simp only[Ack,Af0,RX.get,a,b,c,d];rfl
    exact e5 _ rfl rfl _ r1' r2'
theorem Adn{f:Nat->Bool}:Aax f=true↔∀i,i<64->f i=false:=by
 unfold Aax;simp
theorem Ahj{f:Nat->Bool}:Abj f=true↔∀i,i<32->f i=false:=by
 unfold Abj;simp
theorem A1q{f:Nat->Bool}:Aax f=false↔∃i,i<64/\f i=true:=by
 unfold Aax;simp
theorem A1r{f:Nat->Bool}:Abj f=false↔∃i,i<32/\f i=true:=by
 unfold Abj;simp
theorem A1s(f g:Nat->Bool):Aax (fun i=>f i||g i)=(Aax f&&Aax g):=by
 rw[Bool.eq_iff_iff,Bool.and_eq_true,Adn,Adn,Adn]
 constructor
 ·intro h
  exact⟨fun i hi=>by have:=h i hi;simp at this;exact this.1,fun i hi=>by have:=h i hi;simp at this;exact this.2⟩
 ·rintro⟨h,k⟩ i hi
  rw[h i hi,k i hi];rfl
theorem Ag0(f:Nat->Bool)(n:Int):Aax (fun j=>Acu n j&&f j)= !Abx f n:=by
 rw[Bool.eq_iff_iff,Adn]
 unfold Abx Acu
 constructor
 ·intro h
  by_cases h0:0<=n
  ·by_cases h1:n<64
   ·have:=h n.toNat (by omega)
    have e:decide (((n.toNat:Nat):Int)=n)=true:=by simp;omega
    rw[e]at this
    simp at this
    simp[this]
   ·simp[h1]
  ·simp[h0]
 ·intro h i hi
  by_cases e:(i:Int)=n
  ·subst e
   have e1:decide ((0:Int)<=(i:Int))=true:=by simp
   have e2:decide ((i:Int)<64)=true:=by simp;omega
   rw[e1,e2]at h
   simp at h
   simp[h]
  ·simp[e]
theorem Atn(f g:Nat->Bool):Aax (fun j=>f j&&g j)=Aax (fun j=>g j&&f j):=by
 congr 1;funext j;rw[Bool.and_comm]
theorem A6u{L:Ly}{x:Inp}{i:Nat}(hi:i<L.r.length):A2l L x i=Abx x.oc ((ro L i).path.getD 0 0):=by
 unfold A2l fiP
 rw[Ag0];simp[hi]
theorem Ang{L:Ly}{x:Inp}{i:Nat}(he:Aan L=0)(hi:i<L.r.length):(Aax fun j=>trP (ro L i) j&&x.oc j)=frD x (ro L i):=by
 have hg:=Aay he (List.getElem_mem hi)
 rw[<-Acn hi]at hg
 have hL:=(Aa1 (Aar he)).s
 rw[Bool.eq_iff_iff,Adn]
 unfold frD trP
 rw[List.all_eq_true]
 constructor
 ·intro h t ht
  obtain⟨h0,h1⟩:=hg.tr t ht
  obtain⟨m,rfl⟩:∃m:Nat,t=(m:Int):=⟨t.toNat,by omega⟩
  have hm:m<64:=by omega
  have:=h m hm
  rw[List.contains_iff_mem.2 ht]at this
  rw[Aa4 _ hm]
  simpa using this
 ·intro h j hj
  by_cases hc:(trk (ro L i)).contains (j:Int)=true
  ·have:=h _ (List.contains_iff_mem.1 hc)
   rw[Aa4 _ hj]at this
   rw[hc];simpa using this
  ·simp only[Bool.not_eq_true]at hc
   rw[hc];rfl
theorem Aet{L:Ly}{i:Nat}(he:Aan L=0)(hi:i<L.r.length):((nds (ro L i)).map (·.1)).Nodup:=by
 have hf:=Aj2 he (List.getElem_mem hi)
 rw[<-Acn hi]at hf
 simp only[Abo,Aps,Bool.and_eq_true,Bool.not_eq_true',Bool.or_eq_false_iff,Bool.not_eq_false',decide_eq_true_eq]at hf
 exact hf.1.2
theorem Adu{l:List (Int×Bool)}(hn:(l.map (·.1)).Nodup){p:Int}{b:Bool}:(p,b)∈l↔Abp p l=some b:=by
 induction l with
 |nil=>simp[Abp]
 |cons z l ih=>
  obtain⟨zp,zb⟩:=z
  simp only[List.map_cons,List.nodup_cons]at hn
  have ih:=ih hn.2
  by_cases e:zp=p
  ·subst e
   have hs:Abp zp ((zp,zb)::l)=some zb:=by simp[Abp]
   rw[hs]
   constructor
   ·intro h
    rcases List.mem_cons.1 h with h|h
    ·cases h;rfl
    ·exact absurd (List.mem_map.2 ⟨_,h,rfl⟩) hn.1
   ·intro h;cases h;exact List.mem_cons_self
  ·have hs:Abp p ((zp,zb)::l)=Abp p l:=by
    have:(zp==p)=false:=by simp[e]
    simp[Abp,this]
   rw[hs,<-ih]
   constructor
   ·intro h
    rcases List.mem_cons.1 h with h|h
    ·cases h;exact absurd rfl e
    ·exact h
   ·intro h;exact List.mem_cons_of_mem _ h
theorem Ah8{l:List (Int×Bool)}(hn:(l.map (·.1)).Nodup)(h0:∀z∈l,0<=z.1)(f:Nat->Bool)(p:Nat):poD l f p=match Abp (p:Int) l with|some b=>b|none=>f p:=by
 induction l generalizing f with
 |nil=>rfl
 |cons z l ih=>
  obtain⟨zp,zb⟩:=z
  simp only[List.map_cons,List.nodup_cons]at hn
  have hz:=h0 (zp,zb) List.mem_cons_self
  obtain⟨m,rfl⟩:∃m:Nat,zp=(m:Int):=⟨zp.toNat,by simp only at hz;omega⟩
  have e1:poD (((m:Int),zb)::l) f=poD l (fun p=>if p=m then zb else f p):=by
   unfold poD;simp
  rw[e1,ih hn.2 (fun z hz=>h0 z (List.mem_cons_of_mem _ hz))]
  by_cases e:p=m
  ·subst e
   have hs:Abp (p:Int) (((p:Int),zb)::l)=some zb:=by simp[Abp]
   have hno:Abp (p:Int) l=none:=by
    unfold Abp
    have:l.find? (fun x=>x.1==(p:Int))=none:=List.find?_eq_none.2 (fun y hy he=>hn.1 (List.mem_map.2 ⟨y,hy,by simpa using he⟩))
    rw[this];rfl
   rw[hs,hno];simp
  ·have hs:Abp (p:Int) (((m:Int),zb)::l)=Abp (p:Int) l:=by
    have:((m:Int)==(p:Int))=false:=by simp;omega
    simp[Abp,this]
   rw[hs]
   cases Abp (p:Int) l<;>simp[e]
theorem Ai4{L:Ly}{i:Nat}(he:Aan L=0)(hi:i<L.r.length)(s:Sta)(p:Nat):Ai2 L s i p=match Abp (p:Int) (nds (ro L i))with|some b=>(s.po p != b)|none=>false:=by
 have hn:=Aet he hi
 have e1:nor L i p=decide (Abp (p:Int) (nds (ro L i))=some false):=by
  unfold nor ndP
  rw[Bool.eq_iff_iff,List.contains_iff_mem,decide_eq_true_eq]
  exact Adu hn
 have e2:rev L i p=decide (Abp (p:Int) (nds (ro L i))=some true):=by
  unfold rev ndP
  rw[Bool.eq_iff_iff,List.contains_iff_mem,decide_eq_true_eq]
  exact Adu hn
 unfold Ai2
 rw[e1,e2]
 cases Abp (p:Int) (nds (ro L i))with
 |none=>simp
 |some b=>cases b<;>cases s.po p<;>rfl
theorem A1t{L:Ly}{i:Nat}(he:Aan L=0)(hi:i<L.r.length)(s:Sta)(p:Nat):(s.po p ^^ Ai2 L s i p)=poD (nds (ro L i)) s.po p:=by
 have hg:=Aay he (List.getElem_mem hi)
 rw[<-Acn hi]at hg
 rw[Ai4 he hi,Ah8 (Aet he hi) (fun z hz=>(hg.nd z hz).1)]
 cases Abp (p:Int) (nds (ro L i))with
 |none=>simp
 |some b=>cases b<;>cases s.po p<;>rfl
theorem Aow{L:Ly}(hp:L.p.length<=32)(oc f:Nat->Bool):(Aax fun j=>oc j&&Ath L f j)=(List.range L.p.length).all fun p=> !(f p&&Abx oc (L.p.getD p ([],0)).2):=by
 rw[Bool.eq_iff_iff,Adn,List.all_eq_true]
 unfold Ath Aoq
 constructor
 ·intro h p hpm
  have hpl:=List.mem_range.1 hpm
  have h1:=Ag0 oc (L.p.getD p ([],0)).2
  cases hf:f p with
  |false=>rfl
  |true=>
   have:Aax (fun j=>Acu (L.p.getD p ([],0)).2 j&&oc j)=true:=Adn.2 (fun j hj=>by
    have hj2:=h j hj
    cases ho:oc j with
    |false=>simp
    |true=>
     rw[ho]at hj2
     simp only[Bool.true_and]at hj2
     rw[List.any_eq_false]at hj2
     have:=hj2 p hpm
     have h32:p<32:=by omega
     simp[hf,h32,Awa]at this
     simp[this])
   rw[this]at h1
   simp only[Bool.true_and]
   exact h1.symm
 ·intro h j hj
  cases ho:oc j with
  |false=>rfl
  |true=>
   simp only[Bool.true_and]
   rw[List.any_eq_false]
   intro p hpm
   have hpl:=List.mem_range.1 hpm
   have:=h p hpm
   cases hf:f p with
   |false=>simp
   |true=>
    rw[hf]at this
    simp only[Bool.true_and,Bool.not_eq_true']at this
    have h1:=Ag0 oc (L.p.getD p ([],0)).2
    rw[this]at h1
    have:=Adn.1 h1 j hj
    rw[ho]at this
    simp only[Bool.and_true]at this
    have h2:Awa L p j=false:=this
    simp[h2]
theorem A6v{L:Ly}{x:Inp}{i:Nat}(he:Aan L=0)(hi:i<L.r.length)(s:Sta):A6g L x.oc s i=Ajc L x s i:=by
 have hg:=Aay he (List.getElem_mem hi)
 rw[<-Acn hi]at hg
 have hL:=Aa1 (Aar he)
 have lr:=hL.r
 have lp:=hL.p
 have hn:=Aet he hi
 unfold A6g Ajc
 have e1:(Aax fun j=>s.lo j&&(Acu (i:Nat) j||Ahr L i j))=(!s.lo i&&(List.range L.r.length).all (fun k=> !(s.lo k&&cf L i k))):=by
  rw[Bool.eq_iff_iff,Adn,Bool.and_eq_true,List.all_eq_true]
  constructor
  ·intro h
   have h0:s.lo i=false:=by
    have:=h i (by omega)
    simpa[Acu]using this
   refine⟨by simp[h0],fun k hk=>?_⟩
   have hkl:=List.mem_range.1 hk
   by_cases e:k=i
   ·subst e;simp[h0]
   ·have:=h k (by omega)
    have e2:¬((k:Int)=(i:Int)):=by omega
    cases hlo:s.lo k with
    |false=>rfl
    |true=>
     simp[Acu,e2,Ahr,hkl,e,hlo]at this
     simp[this]
  ·rintro⟨h0,h⟩ j hj
   cases hlo:s.lo j with
   |false=>rfl
   |true=>
    have hji:¬j=i:=fun e=>by subst e;rw[hlo]at h0;cases h0
    have e2:¬((j:Int)=(i:Int)):=by omega
    by_cases hjl:j<L.r.length
    ·have:=h j (List.mem_range.2 hjl)
     rw[hlo]at this
     simp at this
     simp[Acu,e2,Ahr,this]
    ·simp[Acu,e2,Ahr,hjl]
 have e2:(Aax fun j=>x.oc j&&(trP (ro L i) j||Ath L (Ai2 L s i) j))=(frD x (ro L i)&&(nds (ro L i)).all fun z=> !((s.po z.1.toNat != z.2)&&Abx x.oc (L.p.getD z.1.toNat ([],0)).2)):=by
  have:(fun j=>x.oc j&&(trP (ro L i) j||Ath L (Ai2 L s i) j))=fun j=>(trP (ro L i) j&&x.oc j)||(x.oc j&&Ath L (Ai2 L s i) j):=by
   funext j;cases x.oc j<;>simp
  rw[this,A1s,Ang he hi,Aow lp]
  congr 1
  rw[Bool.eq_iff_iff,List.all_eq_true,List.all_eq_true]
  constructor
  ·intro h z hz
   obtain⟨zp,zb⟩:=z
   obtain⟨h0,h1⟩:=hg.nd _ hz
   obtain⟨m,rfl⟩:∃m:Nat,zp=(m:Int):=⟨zp.toNat,by simp only at h0;omega⟩
   have hml:m<L.p.length:=by simp only at h1;omega
   have:=h m (List.mem_range.2 hml)
   rw[Ai4 he hi,(Adu hn).1 hz]at this
   exact this
  ·intro h p hp
   rw[Ai4 he hi]
   cases hs:Abp (p:Int) (nds (ro L i))with
   |none=>rfl
   |some b=>exact h _ ((Adu hn).2 hs)
 rw[e1,e2]
 cases s.lo i<;>cases frD x (ro L i)<;>cases(List.range L.r.length).all (fun k=> !(s.lo k&&cf L i k))<;>rfl
theorem Ad7(i j:Nat):Acu (i:Nat) j=decide (j=i):=by unfold Acu;simp only[Int.ofNat_inj]
theorem A1u{L:Ly}{i:Nat}(hi:i<64)(s:Sta):Ati s i=((s.lo i&& !s.us i)&& !s.ca i):=by
 unfold Ati
 have:(fun j=>((Acu (i:Nat) j&&s.lo j)&& !s.us j)&& !s.ca j)=fun j=>Acu (i:Nat) j&&((s.lo j&& !s.us j)&& !s.ca j):=by
  funext j;cases Acu (i:Nat) j<;>simp
 rw[this,Ag0 (fun j=>(s.lo j&& !s.us j)&& !s.ca j),Aa4 _ hi,Bool.not_not]
theorem Aox(L:Ly)(s:Sta)(p:Nat):(Ahg L s.lo (nor L) p||Ahg L s.lo (rev L) p)=Aes L s (p:Int):=by
 unfold Ahg Aes nor rev ndP
 rw[Bool.eq_iff_iff]
 simp only[Bool.or_eq_true,List.any_eq_true,Bool.and_eq_true,List.contains_iff_mem,beq_iff_eq]
 constructor
 ·rintro(⟨i,hi,h1,h2⟩|⟨i,hi,h1,h2⟩)
  ·exact⟨i,hi,_,h2,h1,rfl⟩
  ·exact⟨i,hi,_,h2,h1,rfl⟩
 ·rintro⟨i,hi,⟨zp,zb⟩,h2,h1,h3⟩
  simp only at h3
  subst h3
  cases zb
  ·exact .inl ⟨i,hi,h1,h2⟩
  ·exact .inr ⟨i,hi,h1,h2⟩
theorem A1v{L:Ly}{x:Inp}{n:Int}(he:Aan L=0)(s:Sta):Atj L x.oc s n=((decide (0<=n)&&decide (n<(L.p.length:Nat)))&&(!Abx x.oc (L.p.getD n.toNat ([],0)).2 && !Aes L s n)):=by
 have hL:=Aa1 (Aar he)
 have lp:=hL.p
 unfold Atj
 by_cases h:0<=n/\n<(L.p.length:Nat)
 ·obtain⟨i,rfl⟩:∃i:Nat,n=(i:Int):=⟨n.toNat,by omega⟩
  have hi:i<L.p.length:=by omega
  have e0:Aax (fun j=>decide (j+32<64)&&Acu (i:Int) (j+32))=true:=Adn.2 (fun j hj=>by
   have:¬j+32=i:=by omega
   rw[Ad7];simp[this])
  have e1:Abj (fun j=>ptP L (i:Int) j&& !(Ahg L s.lo (nor L) j||Ahg L s.lo (rev L) j))=Aes L s (i:Int):=by
   rw[Bool.eq_iff_iff,Ahj]
   constructor
   ·intro h
    have:=h i (by omega)
    rw[Aox]at this
    have hp:ptP L (i:Int) i=true:=by unfold ptP;rw[Ad7];simp[Abr,hi]
    rw[hp]at this
    simpa using this
   ·intro h j hj
    by_cases e:j=i
    ·subst e;rw[Aox,h];simp
    ·have hp:ptP L (i:Int) j=false:=by unfold ptP;rw[Ad7];simp[e]
     rw[hp];rfl
  have e2:Aax (fun j=>Ath L (ptP L (i:Int)) j&&x.oc j)= !Abx x.oc (L.p.getD i ([],0)).2 :=by
   rw[Atn,Aow lp,Bool.eq_iff_iff,List.all_eq_true]
   constructor
   ·intro h
    have:=h i (List.mem_range.2 hi)
    have hp:ptP L (i:Int) i=true:=by unfold ptP;rw[Ad7];simp[Abr,hi]
    rw[hp]at this
    simpa using this
   ·intro h p hp
    by_cases e:p=i
    ·subst e;cases ptP L (p:Int) p<;>simp at h ⊢;exact h
    ·have hp:ptP L (i:Int) p=false:=by unfold ptP;rw[Ad7];simp[e]
     rw[hp];rfl
  have e3:Int.toNat (i:Int)=i:=by omega
  rw[e0,e1,e2,e3]
  have d1:decide ((0:Int)<=(i:Int))=true:=by simp
  have d2:decide ((i:Int)<((L.p.length:Nat):Int))=true:=by simp;omega
  rw[d1,d2]
  cases Aes L s (i:Int)<;>cases Abx x.oc (L.p.getD i ([],0)).2 <;>rfl
 ·have e1:Abj (fun j=>ptP L n j&& !(Ahg L s.lo (nor L) j||Ahg L s.lo (rev L) j))=true:=Ahj.2 (fun j hj=>by
   have hp:ptP L n j=false:=by
    unfold ptP Acu Abr
    by_cases e:(j:Int)=n
    ·have:¬(j:Int)<(L.p.length:Nat):=by omega
     simp[this]
    ·simp[e]
   rw[hp];rfl)
  have d:(decide (0<=n)&&decide (n<((L.p.length:Nat):Int)))=false:=by
   rw[Bool.eq_false_iff];intro hh;simp at hh;exact h hh
  rw[e1,d];simp
theorem A6w{L:Ly}{x:Inp}(he:Aan L=0)(s:Sta)(kd n:Int):Ak5 L x.oc s kd n=Ahz L x s kd n:=by
 have hL:=Aa1 (Aar he)
 have lr:=hL.r
 have lp:=hL.p
 unfold Ak5 Ahz okC
 by_cases k1:kd=1
 ·subst k1
  rw[if_pos rfl]
  by_cases h:0<=n/\n<L.r.length
  ·rw[if_pos h]
   have d:((decide ((1:Int)<=1)&&decide ((1:Int)<=3))&&(decide (0<=n)&&decide (n<if(1:Int)=3 then((L.p.length:Nat):Int)else((L.r.length:Nat):Int))))=true:=by simp[h]
   rw[if_pos d]
   have hi:n.toNat<L.r.length:=by omega
   rw[A6v he hi]
   cases hs:Ajc L x s n.toNat with
   |false=>simp
   |true=>
    rw[if_pos rfl,if_pos ⟨rfl,rfl⟩]
    unfold A6h
    congr 1
    ·funext j;rw[Ad7]
    ·funext p;exact A1t he hi s p
  ·rw[if_neg h,if_neg]
   intro hd
   simp at hd
   exact h ⟨hd.1,hd.2⟩
 ·rw[if_neg k1]
  by_cases k2:kd=2
  ·subst k2
   rw[if_pos rfl]
   by_cases h:0<=n/\n<L.r.length
   ·rw[if_pos h]
    have d:((decide ((1:Int)<=2)&&decide ((2:Int)<=3))&&(decide (0<=n)&&decide (n<if(2:Int)=3 then((L.p.length:Nat):Int)else((L.r.length:Nat):Int))))=true:=by simp[h]
    have z1:¬((2:Int)=1/\Ajc L x s n.toNat=true):=fun h=>by cases h.1
    rw[if_pos d,if_neg z1]
    have hi:n.toNat<L.r.length:=by omega
    rw[A1u (L:=L) (by omega)]
    cases hs:((s.lo n.toNat&& !s.us n.toNat)&& !s.ca n.toNat)with
    |false=>simp
    |true=>
     rw[if_pos rfl,if_pos ⟨rfl,rfl⟩]
     unfold Atk ahP
     rw[Ag0]
     congr 1
     ·funext j;rw[Ad7]
     ·rw[Bool.not_not]
   ·rw[if_neg h,if_neg]
    intro hd
    simp at hd
    exact h ⟨hd.1,hd.2⟩
  ·rw[if_neg k2]
   by_cases k3:kd=3
   ·subst k3
    rw[if_pos rfl,A1v he]
    by_cases h:0<=n/\n<(L.p.length:Nat)
    ·have d:((decide ((1:Int)<=3)&&decide ((3:Int)<=3))&&(decide (0<=n)&&decide (n<if(3:Int)=3 then((L.p.length:Nat):Int)else((L.r.length:Nat):Int))))=true:=by simp[h]
     have d2:(decide (0<=n)&&decide (n<((L.p.length:Nat):Int)))=true:=by simp[h]
     have z1:¬((3:Int)=1/\Ajc L x s n.toNat=true):=fun h=>by cases h.1
     have z2:¬((3:Int)=2/\((s.lo n.toNat&& !s.us n.toNat)&& !s.ca n.toNat)=true):=fun h=>by cases h.1
     rw[if_pos d,if_neg z1,if_neg z2,d2,Bool.true_and]
     cases hs:(!Abx x.oc (L.p.getD n.toNat ([],0)).2 && !Aes L s n)with
     |false=>simp
     |true=>
      rw[if_pos rfl,if_pos ⟨rfl,rfl⟩]
      unfold Atl
      congr 1
      funext j
      congr 1
      obtain⟨i,rfl⟩:∃i:Nat,n=(i:Int):=⟨n.toNat,by omega⟩
      have e3:Int.toNat (i:Int)=i:=by omega
      unfold ptP
      rw[Ad7,e3]
      by_cases e:j=i
      ·subst e;simp[Abr];omega
      ·simp[e]
    ·have d:(decide (0<=n)&&decide (n<((L.p.length:Nat):Int)))=false:=by
      rw[Bool.eq_false_iff];intro hh;simp at hh;exact h hh
     rw[d,if_neg (by simp),if_neg]
     intro hd
     simp at hd
     exact h ⟨hd.1,hd.2⟩
   ·rw[if_neg k3,if_neg]
    intro hd
    simp at hd
    omega
theorem Ayo{L:Ly}{x:Inp}(he:Aan L=0):∀(cs:List (Int×Int)) (s:Sta),Awd L x.oc s cs=Alb L x s cs
 |[],s=>rfl
 |c::cs,s=>by
  show Awd L x.oc (Ak5 L x.oc s c.1 c.2) cs=Alb L x (Ahz L x s c.1 c.2) cs
  rw[A6w he,Ayo he cs]
structure SI (L:Ly) (us:Nat->Bool) (s:Sta):Prop where
 u:s.us=us
 ul:∀i,us i=true->s.lo i=true
 cl:∀i,s.ca i=true->s.lo i=true
 ln:∀i,s.lo i=true->i<L.r.length
theorem A1w(L:Ly)(s:Sta):SI L (Ach L s).us (Ach L s):=by
 refine⟨rfl,fun i h=>?_,fun i h=>?_,fun i h=>?_⟩
 ·have h':(s.us i&&(s.lo i&&Abr L.r.length i))=true:=h
  show(s.lo i&&Abr L.r.length i)=true
  simp only[Bool.and_eq_true]at h' ⊢;exact h'.2
 ·have h':(s.ca i&&(s.lo i&&Abr L.r.length i))=true:=h
  show(s.lo i&&Abr L.r.length i)=true
  simp only[Bool.and_eq_true]at h' ⊢;exact h'.2
 ·have h':(s.lo i&&Abr L.r.length i)=true:=h
  simp only[Bool.and_eq_true,Abr,decide_eq_true_eq]at h'
  omega
theorem A6x{L:Ly}{x:Inp}{us:Nat->Bool}{s:Sta}(h:SI L us s)(kd n:Int):SI L us (Ahz L x s kd n):=by
 unfold Ahz
 split
 ·rename_i hok
  simp only[okC,Bool.and_eq_true,decide_eq_true_eq]at hok
  split
  ·rename_i hk
   have hn:n.toNat<L.r.length:=by
    have:=hok.2.2
    rw[hk.1,if_neg (by omega)]at this
    omega
   refine⟨h.u,fun i hi=>?_,fun i hi=>?_,fun i hi=>?_⟩
   ·show(s.lo i||decide (i=n.toNat))=true
    rw[h.ul i hi];rfl
   ·show(s.lo i||decide (i=n.toNat))=true
    rw[h.cl i hi];rfl
   ·have hi':(s.lo i||decide (i=n.toNat))=true:=hi
    simp only[Bool.or_eq_true,decide_eq_true_eq]at hi'
    rcases hi' with h1|h1
    ·exact h.ln i h1
    ·omega
  ·split
   ·rename_i hk
    simp only[Bool.and_eq_true]at hk
    refine⟨h.u,h.ul,fun i hi=>?_,h.ln⟩
    have hi':(s.ca i||decide (i=n.toNat))=true:=hi
    simp only[Bool.or_eq_true,decide_eq_true_eq]at hi'
    rcases hi' with h1|h1
    ·exact h.cl i h1
    ·rw[h1];exact hk.2.1.1
   ·split
    ·exact⟨h.u,h.ul,h.cl,h.ln⟩
    ·exact h
 ·exact h
theorem Ayp{L:Ly}{x:Inp}{us:Nat->Bool}:∀{cs:List (Int×Int)} {s:Sta},SI L us s->SI L us (Alb L x s cs)
 |[],s,h=>h
 |c::cs,s,h=>Ayp (cs:=cs) (A6x h c.1 c.2)
def Ah0(s t:Sta)(j:Nat):Prop:=s.lo j=t.lo j/\s.us j=t.us j/\s.ca j=t.ca j/\s.ti j=t.ti j
theorem A1x(s:Sta)(j:Nat):Ah0 s s j:=⟨rfl,rfl,rfl,rfl⟩
theorem Awj{s t u:Sta}{j:Nat}(h:Ah0 s t j)(k:Ah0 t u j):Ah0 s u j:=⟨h.1.trans k.1,h.2.1.trans k.2.1,h.2.2.1.trans k.2.2.1,h.2.2.2.trans k.2.2.2⟩
theorem A6y(L:Ly)(x:Inp)(us:Nat->Bool)(s:Sta)(i:Nat):(roD L x us s i).po=s.po:=by
 unfold roD Ah7;repeat' split
 all_goals rfl
theorem Awk(L:Ly)(x:Inp)(us:Nat->Bool)(s:Sta){i j:Nat}(h:j≠i):Ah0 (roD L x us s i) s j:=by
 unfold roD Ah7 Ah0 upd
 repeat' split
 all_goals simp[h]
theorem A1y(L:Ly)(x:Inp)(us:Nat->Bool){s t:Sta}{i:Nat}(h:Ah0 s t i):Ah0 (roD L x us s i) (roD L x us t i) i:=by
 obtain⟨h1,h2,h3,h4⟩:=h
 unfold roD Ah7 Ah0 upd
 rw[h3,h4]
 repeat' split
 all_goals simp[h1,h2,h3,h4]
theorem Ato(L:Ly)(x:Inp)(us:Nat->Bool)(s:Sta)(j:Nat):∀k,Ah0 (Ak7 L x us s k) (if j<k/\s.lo j=true then roD L x us s j else s) j/\(Ak7 L x us s k).po=s.po
 |0=>⟨by rw[if_neg (by omega)];exact A1x _ _,rfl⟩
 |k+1=>by
  obtain⟨ih,ihp⟩:=Ato L x us s j k
  rw[Al9]
  by_cases e:j=k
  ·subst e
   rw[if_neg (by omega)]at ih
   have hl:=ih.1
   cases hlo:s.lo j with
   |false=>
    rw[hlo]at hl
    rw[if_neg (by rw[hl];simp),if_neg (by simp)]
    exact⟨ih,ihp⟩
   |true=>
    rw[hlo]at hl
    rw[if_pos hl,if_pos ⟨by omega,rfl⟩]
    exact⟨A1y L x us ih,by rw[A6y];exact ihp⟩
  ·have ec:(j<k+1/\s.lo j=true)=(j<k/\s.lo j=true):=by
    apply propext
    exact⟨fun h=>⟨by omega,h.2⟩,fun h=>⟨by omega,h.2⟩⟩
   simp only[ec]
   split
   ·exact⟨Awj (Awk L x us _ e) ih,by rw[A6y];exact ihp⟩
   ·exact⟨ih,ihp⟩
theorem A1z{s t:Sta}(h:∀j,Ah0 s t j)(hp:s.po=t.po):s=t:=by
 obtain⟨a,b,c,d,e⟩:=s
 obtain⟨a',b',c',d',e'⟩:=t
 simp only at hp
 subst hp
 have h1:a=a':=funext fun j=>(h j).1
 have h2:b=b':=funext fun j=>(h j).2.1
 have h3:c=c':=funext fun j=>(h j).2.2.1
 have h4:d=d':=funext fun j=>(h j).2.2.2
 subst h1 h2 h3 h4;rfl
theorem A6z{L:Ly}{x:Inp}(he:Aan L=0){us:Nat->Bool}{s:Sta}(h:SI L us s):Awe L x us s=Ak7 L x us s L.r.length:=by
 refine A1z (fun j=>?_) (by rw[(Ato L x us s 0 L.r.length).2];rfl)
 have hr:=(Ato L x us s j L.r.length).1
 obtain⟨r1,r2,r3,r4⟩:=hr
 unfold Ah0
 rw[r1,r2,r3,r4]
 clear r1 r2 r3 r4
 have hu:s.us j=us j:=by rw[h.u]
 show(s.lo j&& !Aj4 L x us s j)=_/\((s.lo j&& !Aj4 L x us s j)&&(us j||A2l L x j))=_/\(s.ca j&& !Aj4 L x us s j)=_/\(if Aj4 L x us s j then 0 else if Ahi L x us s j&& !decide (s.ti j=0)then s.ti j-1 else s.ti j)=_
 cases hlo:s.lo j with
 |false=>
  have hus:us j=false:=by
   cases hx:us j with
   |false=>rfl
   |true=>have:=h.ul j hx;rw[hlo]at this;cases this
  have hca:s.ca j=false:=by
   cases hx:s.ca j with
   |false=>rfl
   |true=>have:=h.cl j hx;rw[hlo]at this;cases this
  rw[if_neg (by simp)]
  have hw:Ahi L x us s j=false:=by unfold Ahi;rw[hca];rfl
  have hrel:Aj4 L x us s j=false:=by unfold Aj4;rw[hus,hw];simp
  rw[hrel,hw,hca,hlo,hu,hus];simp
 |true=>
  have hj:=h.ln j hlo
  rw[if_pos ⟨hj,rfl⟩]
  have hfree:Apv L x j=frD x (ro L j):=by unfold Apv;rw[Ang he hj];simp[hj]
  have hent:=A6u (x:=x) hj
  unfold Aj4 Ahi roD Ah7 upd
  rw[hfree,hent]
  cases hus:us j<;>cases hen:Abx x.oc ((ro L j).path.getD 0 0)<;>cases hfr:frD x (ro L j)<;>cases hca:s.ca j<;>by_cases ht:s.ti j=0<;>
   (have ht':(0<s.ti j)=(¬s.ti j=0):=by apply propext;omega
    rw[hus]at hu
    simp[hlo,hu,hca,ht,ht'])
theorem A10{L:Ly}(he:Aan L=0)(s:Sta)(x:Inp)(cs:List (Int×Int)):Ahy L s x cs=Acj L s x cs:=by
 unfold Ahy Acj
 rw[Ayo he]
 exact A6z he (Ayp (A1w L s))
theorem Ba2{L:Ly}{x:Inp}(he:Aan L=0)(s:Sta)(i:Nat):prB L x s i=(decide (i<L.r.length)&&Ad3 L x s i):=by
 unfold prB Ad3 Apv A75
 by_cases hi:i<L.r.length
 ·rw[Ang he hi]
  have hg:=Aay he (List.getElem_mem hi)
  rw[<-Acn hi]at hg
  have lp:=(Aa1 (Aar he)).p
  have e:((Abj fun p=>nor L i p&& !Acz x p)&&(Abj fun p=>rev L i p&& !Ac0 x p))=(nds (ro L i)).all fun z=>if z.2 then Ac0 x z.1.toNat else Acz x z.1.toNat:=by
   rw[Bool.eq_iff_iff,Bool.and_eq_true,Ahj,Ahj,List.all_eq_true]
   constructor
   ·rintro⟨h1,h2⟩ ⟨zp,zb⟩ hz
    obtain⟨g0,g1⟩:=hg.nd _ hz
    obtain⟨m,rfl⟩:∃m:Nat,zp=(m:Int):=⟨zp.toNat,by simp only at g0;omega⟩
    have hm:m<32:=by simp only at g1;omega
    have hmt:(Int.toNat (m:Int))=m:=by omega
    simp only[hmt]
    cases zb with
    |false=>
     have hc:nor L i m=true:=List.contains_iff_mem.2 hz
     have:=h1 m hm
     rw[hc]at this
     simpa using this
    |true=>
     have hc:rev L i m=true:=List.contains_iff_mem.2 hz
     have:=h2 m hm
     rw[hc]at this
     simpa using this
   ·intro h
    refine⟨fun p hp=>?_,fun p hp=>?_⟩
    ·cases hc:nor L i p with
     |false=>rfl
     |true=>
      have:=h _ (List.contains_iff_mem.1 (show(nds (ro L i)).contains ((p:Int),false)=true from hc))
      have hmt:(Int.toNat (p:Int))=p:=by omega
      simp only[hmt,Bool.false_eq_true,if_false]at this
      rw[this];rfl
    ·cases hc:rev L i p with
     |false=>rfl
     |true=>
      have:=h _ (List.contains_iff_mem.1 (show(nds (ro L i)).contains ((p:Int),true)=true from hc))
      have hmt:(Int.toNat (p:Int))=p:=by omega
      simp only[hmt,if_true]at this
      rw[this];rfl
  rw[e]
  simp only[hi,decide_true,Bool.true_and]
  cases s.lo i<;>cases s.us i<;>cases s.ca i<;>cases frD x (ro L i)<;>simp
 ·simp[hi]
end Go.AM.Fd
namespace Go.AM.F
def Bee:TypeId->List Value
 |83=>[(.int .u8 0),(.int .i64 0)]
 |46=>[(.int .u64 0),(.int .u32 0),(.int .u32 0),(.slice none 0 0)]
 |144=>[(.int .i64 0),(.int .i64 0),(.pointer none),(.pointer none),(.pointer none),(.bool false)]
 |49=>[(.int .i64 0),(.int .i64 0),(.int .u64 0),(.int .u32 0),(.int .u32 0),(.slice none 0 0)]
 |_=>[]
def Bef:TypeId->Value
 |49=>(.agg #[(.int .i64 0),(.int .i64 0),(.int .u64 0),(.int .u32 0),(.int .u32 0),(.slice none 0 0)])
 |_=>undef
def Beg:TypeId->List Nat
 |83=>[1,1]
 |_=>[]
def Beh:Nat->TypeId->List Value
 |0,83=>[]
 |_,_=>[]
structure QzM (sl:List Nat) (n:Nat) where
 p:CzV sl n:=by
  refine(fun(_:Cz Bee Bef Beg Beh Go.Proofs.Tryz.prog 0 ?sl ?n ?a)=>(CzV.mk ?a:CzV ?sl ?n)) ?h
  case h=>
  intro zc zv zk zr hc hv hk hr
  conv=>lhs;cbv;try simp only[hc,hv,hk,hr,Bee,Bef,Beg,Beh]
noncomputable def f36:=({}:QzM [0,1,2,3,4,5,6,8,9,41,43,44,45,46,50,51,55,66] 36).p.a
noncomputable def f69:=({}:QzM [0,1,4] 69).p.a
noncomputable def f70:=({}:QzM [0,1,4] 70).p.a
noncomputable def f73:=({}:QzM [0,1,2,3,4] 73).p.a
noncomputable def f74:=({}:QzM [0,1,2,3,4,5,26] 74).p.a
noncomputable def Bah:=({}:QzM [0,2,4] 108).p.a
noncomputable def A7z:=({}:QzM [0,1,4,5,6,11,12,13,14,15,24] 109).p.a
noncomputable def f29:=({}:QzM [0,2,8] 29).p.a
noncomputable def f37:=({}:QzM [0,1,2,5,6,7,8,9,10,14,57,66] 37).p.a
noncomputable def f38:=({}:QzM [0,1,4,5,6,7,9,26,28,36,60,72,73,84] 38).p.a
noncomputable def f72:=({}:QzM [0,1,3] 72).p.a
noncomputable def f39:=({}:QzM [0,2,3,25] 39).p.a
noncomputable def f40:=({}:QzM [0,2,4] 40).p.a
noncomputable def f71:=({}:QzM [0,1,2] 71).p.a
def A70:List Value:=[(.int .i64 0),(.slice none 0 0),(.slice none 0 0),(.slice none 0 0),(.slice none 0 0),.nilIface,(.int .u64 0),(.int .u64 0),(.int .u64 0)]++List.replicate 64 (.int .u8 0)++[(.int .u32 0),(.int .i64 0),(.int .i64 0),(.pointer none),(.bool false),(.pointer none)]
def Bei:List Value:=[(.int .u64 0),(.int .u64 0),(.int .u64 0)]++List.replicate 64 (.int .u8 0)++[(.int .u32 0)]
def Bai:List Nat:=List.replicate 68 1
def Bej:TypeId->List Value
 |9=>[(.string ByteArray.empty)]
 |89=>[(.string ByteArray.empty),(.int .i64 0)]
 |87=>[(.string ByteArray.empty),(.int .i64 0),(.slice none 0 0),(.slice none 0 0),(.slice none 0 0),(.slice none 0 0)]
 |27=>[(.slice none 0 0),(.slice none 0 0),(.slice none 0 0),(.slice none 0 0)]
 |99=>A70
 |49=>[(.int .i64 0),(.int .i64 0),(.int .u64 0),(.int .u32 0),(.int .u32 0),(.slice none 0 0)]
 |43=>Bei
 |56=>[(.int .i64 0),(.int .i64 0),(.int .u64 0),(.int .u32 0)]
 |46=>[(.int .u64 0),(.int .u32 0),(.int .u32 0),(.slice none 0 0)]
 |54=>[(.int .u64 0),(.int .u32 0)]
 |83=>[(.int .u8 0),(.int .i64 0)]
 |_=>[]
def Bek:TypeId->Value
 |49=>(.agg #[(.int .i64 0),(.int .i64 0),(.int .u64 0),(.int .u32 0),(.int .u32 0),(.slice none 0 0)])
 |_=>undef
def Bel:TypeId->List Nat
 |43=>Bai
 |56=>[1,1,1,1]
 |_=>[]
def Bem:Nat->TypeId->List Value
 |1,83=>[(.int .u8 0),(.int .i64 0)]
 |_,_=>[]
structure QzN (sl:List Nat) (n:Nat) where
 p:CzV sl n:=by
  refine(fun(_:Cz Bej Bek Bel Bem Go.Proofs.Tryz.prog 0 ?sl ?n ?a)=>(CzV.mk ?a:CzV ?sl ?n)) ?h
  case h=>
  intro zc zv zk zr hc hv hk hr
  conv=>lhs;cbv;try simp only[hc,hv,hk,hr,Bej,Bek,Bel,Bem]
noncomputable def f9:=({}:QzN [0,1,3,4,5,6,7,8,14,22] 9).p.a
noncomputable def f28:=({}:QzN [0,1,3,4,5,6,7,8,9,11] 28).p.a
noncomputable def f34:=({}:QzN [0,2] 34).p.a
noncomputable def f11:=({}:QzN [0,1,2,3,5,8,9,12] 11).p.a
noncomputable def f13:=({}:QzN [0,1,2,5,6,7,8,9,10,14,46] 13).p.a
noncomputable def f14:=({}:QzN [0,1,4,5,6,8,24] 14).p.a
noncomputable def f15:=({}:QzN [0,2,3,4,5,6,7,8,10,28] 15).p.a
noncomputable def f17:=({}:QzN [0,2,3,6] 17).p.a
noncomputable def f18:=({}:QzN [0,2,4] 18).p.a
noncomputable def f23:=({}:QzN [0,2,3,5] 23).p.a
noncomputable def f26:=({}:QzN [0,1,3,4,5,7,53,54,55] 26).p.a
noncomputable def f5:=({}:QzN [0,1,2,3,4,5,6,7,8,9,10,11,12] 5).p.a
noncomputable def f8:=({}:QzN [0,1,2,3,4,5,8,9,10,12,14,15,16,17,19,20,50] 8).p.a
end Go.AM.F
namespace Go.AM.Fd
open Nat (reduceAdd reduceEqDiff reduceLT reduceLeDiff reduceMul reduceSub)
open Go.Proofs Go.AM.F
theorem Aw3(f:Nat->Bool):Abz .shr (S64 f) (.int .u64 1)=some (S64 fun i=>decide (i+1<64)&&f (i+1)):=by
 have h:=Apu f 1
 unfold S64 at h ⊢
 rw[Alp .u64 _ ((1:Nat):Int) .i64 (by omega)]at h
 rw[Alp .u64 _ 1 .u64 (by omega)]
 exact h
theorem Aw4(f:Nat->Bool):Abz .shr (S32 f) (.int .u64 1)=some (S32 fun i=>decide (i+1<32)&&f (i+1)):=by
 have h:=Al4 f 1
 unfold S32 at h ⊢
 rw[Alp .u32 _ ((1:Nat):Int) .i64 (by omega)]at h
 rw[Alp .u32 _ 1 .u64 (by omega)]
 exact h
theorem t69{H:Aaa}(f:Nat->Bool){n:Nat}(hn:n<=64):∃w H',Aaq Tryz.prog 0 69 [S64 f,.int .i64 (n:Nat)] H w H'/\w=.bool (Agz f n)/\H'=H:=by
 refine Aam f69 ?_
 intro Q hq1 hq2
 have hz:n=0->Aax f=Agz f n:=fun e=>by unfold Agz;subst e;congr 1;funext i;simp
 by_cases h0:(0:Int)<(n:Int)
 ·have hw:IntKind.i64.wrap ((n:Int)-1)=((n-1:Nat):Int):=by rw[Aa5 (by omega) (by omega)];omega
  have e:(Aax fun i=>decide (i+1<64)&&(decide (i+1+(n-1)<64)&&f (i+1+(n-1))))=Agz f n:=by
   unfold Agz
   rw[Bool.eq_iff_iff,Adn,Adn]
   constructor
   ·intro h j hj
    by_cases hjn:j<n
    ·simp[hjn]
    ·have:=h (j-n) (by omega)
     have e1:j-n+1+(n-1)=j:=by omega
     have e2:j-n+1<64:=by omega
     rw[e1]at this
     simp[e2,hj]at this
     simp[this]
   ·intro h i hi
    by_cases h1:i+1+(n-1)<64
    ·have:=h (i+1+(n-1)) h1
     have e1:¬i+1+(n-1)<n:=by omega
     simp[e1]at this
     simp[this]
    ·simp[h1]
  cases hA:Agz f n with
  |true=>
   rw[hA]at e
   simp(disch:=first|assumption|omega)only[f69,P4,seval,h0,hw,Apu,Aw3,Aef,e]
   exact hq2 _ _ ⟨.bool _,rfl,by rw[hA],rfl⟩
  |false=>
   rw[hA]at e
   have hf:Aax f=false:=by
    unfold Agz at hA
    rw[A1q]at hA ⊢
    obtain⟨i,hi,h⟩:=hA
    exact⟨i,hi,by simp at h;exact h.1⟩
   simp(disch:=first|assumption|omega)only[f69,P4,seval,h0,hw,Apu,Aw3,Aef,e,hf]
   exact hq2 _ _ ⟨.bool _,rfl,by rw[hA],rfl⟩
 ·have hn0:n=0:=by omega
  simp(disch:=first|assumption|omega)only[f69,P4,seval,h0,Aef]
  exact hq2 _ _ ⟨.bool _,rfl,by rw[hz hn0],rfl⟩
theorem t70{H:Aaa}(f:Nat->Bool){n:Nat}(hn:n<=32):∃w H',Aaq Tryz.prog 0 70 [S32 f,.int .i64 (n:Nat)] H w H'/\w=.bool (Aeg f n)/\H'=H:=by
 refine Aam f70 ?_
 intro Q hq1 hq2
 have hz:n=0->Abj f=Aeg f n:=fun e=>by unfold Aeg;subst e;congr 1;funext i;simp
 by_cases h0:(0:Int)<(n:Int)
 ·have hw:IntKind.i64.wrap ((n:Int)-1)=((n-1:Nat):Int):=by rw[Aa5 (by omega) (by omega)];omega
  have e:(Abj fun i=>decide (i+1<32)&&(decide (i+1+(n-1)<32)&&f (i+1+(n-1))))=Aeg f n:=by
   unfold Aeg
   rw[Bool.eq_iff_iff,Ahj,Ahj]
   constructor
   ·intro h j hj
    by_cases hjn:j<n
    ·simp[hjn]
    ·have:=h (j-n) (by omega)
     have e1:j-n+1+(n-1)=j:=by omega
     have e2:j-n+1<32:=by omega
     rw[e1]at this
     simp[e2,hj]at this
     simp[this]
   ·intro h i hi
    by_cases h1:i+1+(n-1)<32
    ·have:=h (i+1+(n-1)) h1
     have e1:¬i+1+(n-1)<n:=by omega
     simp[e1]at this
     simp[this]
    ·simp[h1]
  cases hA:Aeg f n with
  |true=>
   rw[hA]at e
   simp(disch:=first|assumption|omega)only[f70,P4,seval,h0,hw,Al4,Aw4,Anb,e]
   exact hq2 _ _ ⟨.bool _,rfl,by rw[hA],rfl⟩
  |false=>
   rw[hA]at e
   have hf:Abj f=false:=by
    unfold Aeg at hA
    rw[A1r]at hA ⊢
    obtain⟨i,hi,h⟩:=hA
    exact⟨i,hi,by simp at h;exact h.1⟩
   simp(disch:=first|assumption|omega)only[f70,P4,seval,h0,hw,Al4,Aw4,Anb,e,hf]
   exact hq2 _ _ ⟨.bool _,rfl,by rw[hA],rfl⟩
 ·have hn0:n=0:=by omega
  simp(disch:=first|assumption|omega)only[f70,P4,seval,h0,Anb]
  exact hq2 _ _ ⟨.bool _,rfl,by rw[hz hn0],rfl⟩
structure A7q (u:V4) (ns np nr:Nat):Prop where
 s:isS u.s=true/\Ab9 u.s=ns
 p:isS u.p=true/\Ab9 u.p=np
 g:isS u.g=true
 r:isS u.r=true/\Ab9 u.r=nr
theorem Akw{v:Value}(h:isS v=true):v.oneCell'=true:=by
 cases v with
 |slice a n k=>rfl
 |_=>cases h
theorem t36{H:Aaa}{u:V4}{ns np nr:Nat}{x:Inp}{cv:Value}{cs:List (Int×Int)}(h:A7q u ns np nr)(hc:CL H cv cs)(hcl:cs.length<=1000000):
 ∃w H',Aaq Tryz.prog 0 36 [.agg u.l.toArray,.agg (inl x cv).toArray] H w H'/\w=.bool (inR ns np nr x cs)/\H'=H:=by
 refine gcb ?_
 refine Aam f36 ?_
 intro Q hq1 hq2
 obtain⟨⟨is,ls⟩,⟨ip,lp⟩,ig,⟨ir,lr⟩⟩:=h
 have os:=Akw is
 have op:=Akw ip
 have og:=Akw ig
 have or:=Akw ir
 have isc:=Sl.is hc
 have onec:=Sl.one hc
 have clen:=hc.len
 have hul:u.l=[u.s,u.p,u.g,u.r]:=rfl
 have hinl:inl x cv=[S64 x.oc,S32 x.nr,S32 x.rv,cv]:=rfl
 obtain⟨K0,hK0⟩:∃X,X=(H.alloc (.cells true false 4 [u.s,u.p,u.g,u.r] 27)).alloc (.cells true false 4 (inl x cv) 46):=⟨_,rfl⟩
 have k0:Aac H K0:=by rw[hK0];exact((Aac.refl H).alloc _).alloc _
 have gl0:K0.get H.n=some (.cells true false 4 [u.s,u.p,u.g,u.r] 27):=by rw[hK0];exact((Aac.refl _).alloc _).at_ (Aaa.Bfd H _)
 have gi0:K0.get (H.n+1)=some (.cells true false 4 (inl x cv) 46):=by rw[hK0];exact Aaa.Bfd (H.alloc _) _
 rw[hinl]at hK0 gi0
 have l0:=Aaa.Bfg gl0
 have l1:=Aaa.Bfg gi0
 have m1:min ((np:Nat):Int) 32=((min np 32:Nat):Int):=by omega
 have m2:min ((nr:Nat):Int) 64=((min nr 64:Nat):Int):=by omega
 have m3:min ((ns:Nat):Int) 64=((min ns 64:Nat):Int):=by omega
 have hr:inR ns np nr x cs=((Agz x.oc (min ns 64)&&Aeg (fun p=>x.nr p||x.rv p) (min np 32))&&(decide (cs.length<=8)&&cs.all fun c=>inN (min np 32) (min nr 64) c.1 c.2)):=rfl
 have no:∀{fr:List Value} {K:Aaa},Aac H K->inR ns np nr x cs=false->Ack f36.res fr K=some (.bool false)->Q .ret fr K:=fun k e hr'=>hq2 _ _ ⟨_,hr',by rw[e],k⟩
 rw[hul,hinl]
 simp(disch:=first|assumption|omega|(simp only[LN]<;>omega)|(simp(disch:=first|assumption|omega|(simp only[LN]<;>omega))only[Aab,Aad];assumption))only[f36,P4,seval,os,op,og,or,onec,O4,is,ip,ir,ls,lp,lr,Afj,m1,m2,m3]
 simp only[<-hK0]
 refine Aat (t69 x.oc (by omega)) ?_
 cases h1:Agz x.oc (min ns 64)with
 |false=>
  rw[h1]at hr
  simp(disch:=first|assumption|omega)only[P4,seval]
  exact no k0 (by rw[hr];rfl) rfl
 |true=>
 rw[h1]at hr
 simp(disch:=first|assumption|omega)only[P4,seval,gi0,Al3]
 refine Aat (t70 _ (by omega)) ?_
 cases h2:Aeg (fun p=>x.nr p||x.rv p) (min np 32)with
 |false=>
  rw[h2]at hr
  simp(disch:=first|assumption|omega)only[P4,seval]
  exact no k0 (by rw[hr];rfl) rfl
 |true=>
 rw[h2]at hr
 by_cases h3:(8:Int)<((cs.length:Nat):Int)
 ·have e3:decide (cs.length<=8)=false:=by rw[decide_eq_false_iff_not];omega
  rw[e3]at hr
  simp(disch:=first|assumption|omega)only[P4,seval,gi0,isc,clen,h3]
  exact no k0 (by rw[hr];rfl) rfl
 have e3:decide (cs.length<=8)=true:=by rw[decide_eq_true_eq];omega
 rw[e3]at hr
 have hcs:inR ns np nr x cs=cs.all fun c=>inN (min np 32) (min nr 64) c.1 c.2:=hr
 simp(disch:=first|assumption|omega)only[P3,seval,Aah,Aao,gi0,isc,clen,h3]
 rw[Aag]
 refine Aal (fun q fr K=>∃i x7 x8 x13 x14 x15 x16 x17,fr=[.agg #[u.s,u.p,u.g,u.r],.agg #[S64 x.oc,S32 x.nr,S32 x.rv,cv],ptr H.n 0,ptr (H.n+1) 0,.bool false,.int .i64 ((min np 32:Nat):Int),.int .i64 ((min nr 64:Nat):Int),x7,x8,.bool false,cv,.int .i64 ((cs.length:Nat):Int),.int .i64 ((i:Nat):Int),x13,x14,x15,x16,x17]∧
  Aac H K/\(cs.take i).all (fun c=>inN (min np 32) (min nr 64) c.1 c.2)=true/\i<=cs.length/\q=cs.length-i) cs.length
  ⟨0,_,_,_,_,_,_,_,rfl,k0,rfl,by omega,rfl⟩ ?_
 rintro Q' q fr K ⟨i,x7,x8,x13,x14,x15,x16,x17,rfl,kK,hall,hi,rfl⟩ hn' hx' hret
 by_cases hlt:i<cs.length
 ·obtain⟨na,ra⟩:=(hc.keeps kK).at_ hlt
  have e0:(0:Int)<=(i:Int):=by omega
  have e1:(i:Int)<((cs.length:Nat):Int):=by omega
  have hw:=wrS (i:=i) (by omega)
  have htk:cs.take (i+1)=cs.take i++[cs.getD i (0,0)]:=by rw[List.take_add_one,List.getElem?_eq_getElem hlt,List.getD_eq_getElem?_getD,List.getElem?_eq_getElem hlt];rfl
  have hmem:cs.getD i (0,0)∈cs:=by rw[List.getD_eq_getElem?_getD,List.getElem?_eq_getElem hlt];exact List.getElem_mem hlt
  generalize cs.getD i (0,0)=c at*
  obtain⟨kd,n⟩:=c
  have go:∀{fr:List Value} {K':Aaa},Aac K K'->inN (min np 32) (min nr 64) kd n=true->(∃x7 x8 x13 x14 x15 x16 x17,fr=[.agg #[u.s,u.p,u.g,u.r],.agg #[S64 x.oc,S32 x.nr,S32 x.rv,cv],ptr H.n 0,ptr (H.n+1) 0,.bool false,.int .i64 ((min np 32:Nat):Int),.int .i64 ((min nr 64:Nat):Int),x7,x8,.bool false,cv,.int .i64 ((cs.length:Nat):Int),.int .i64 ((i+1:Nat):Int),x13,x14,x15,x16,x17])->Q' .normal fr K':=by
   rintro fr K' k' hin ⟨x7,x8,x13,x14,x15,x16,x17,rfl⟩
   exact hn' _ _ _ ⟨i+1,_,_,_,_,_,_,_,rfl,kK.trans k',by rw[htk,List.all_append,hall,List.all_cons,hin];rfl,by omega,rfl⟩ (by omega)
  have bad:inN (min np 32) (min nr 64) kd n=false->inR ns np nr x cs=false:=fun e=>by
   rw[hcs,List.all_eq_false];exact⟨_,hmem,by simp[e]⟩
  have kA:=(Aac.refl K).alloc (.cells true false 2 [.int .u8 kd,.int .i64 n] 83)
  obtain⟨m,hm⟩:=A6s (min np 32) (min nr 64) kd
  rw[A6r hm]at go bad
  by_cases hn:n<0
  ·have hb:=bad (by rw[decide_eq_false (by omega)];rfl)
   rcases hm with⟨rfl|rfl,rfl⟩|⟨rfl,rfl⟩|⟨⟨h1,h2,h3⟩,rfl⟩
   all_goals
    first
    |simp(disch:=first|assumption|omega)only[P4,seval,e1,e0,na,ra,clen,Aai,hn]
     exact hret _ _ (no (kK.trans kA) hb rfl)
    |simp(disch:=first|assumption|omega|(simp only[LN]<;>omega)|(simp(disch:=first|assumption|omega|(simp only[LN]<;>omega))only[Aab,Aad];assumption))only[P4,seval,e1,e0,na,ra,clen,Aai,hn,h1,h2,h3]
     exact hret _ _ (no (kK.trans kA) hb rfl)
  by_cases hmn:(m:Int)<=n
  ·have hb:=bad (by rw[decide_eq_false (by omega:¬n<(m:Int))];simp)
   rcases hm with⟨rfl|rfl,rfl⟩|⟨rfl,rfl⟩|⟨⟨h1,h2,h3⟩,rfl⟩
   all_goals
    first
    |simp(disch:=first|assumption|omega)only[P4,seval,e1,e0,na,ra,clen,Aai,hn,hmn]
     exact hret _ _ (no (kK.trans kA) hb rfl)
    |simp(disch:=first|assumption|omega|(simp only[LN]<;>omega)|(simp(disch:=first|assumption|omega|(simp only[LN]<;>omega))only[Aab,Aad];assumption))only[P4,seval,e1,e0,na,ra,clen,Aai,hn,hmn,h1,h2,h3]
     exact hret _ _ (no (kK.trans kA) hb rfl)
  have hg:=fun{fr K'} k'=>@go fr K' k' (by rw[decide_eq_true (by omega:0<=n),decide_eq_true (by omega:n<(m:Int))];rfl)
  rcases hm with⟨rfl|rfl,rfl⟩|⟨rfl,rfl⟩|⟨⟨h1,h2,h3⟩,rfl⟩
  iterate 3
   simp(disch:=first|assumption|omega|(simp only[LN]<;>omega)|(simp(disch:=first|assumption|omega|(simp only[LN]<;>omega))only[Aab,Aad];assumption))only[P4,seval,e1,e0,na,ra,clen,Aai,hn,hmn,hw]
   exact hg kA ⟨_,_,_,_,_,_,_,rfl⟩
  omega
 ·have e1:¬(i:Int)<((cs.length:Nat):Int):=by omega
  have hil:i=cs.length:=by omega
  subst hil
  rw[List.take_length]at hall
  simp(disch:=first|assumption|omega)only[P4,seval,e1]
  refine hx' _ _ _ ?_
  simp(disch:=first|assumption|omega)only[P4,seval]
  exact hq2 _ _ ⟨.bool true,rfl,by rw[hcs,hall],kK⟩
end Go.AM.Fd
namespace Go.AM.F
def Baj:List Nat:=List.replicate 68 1
def Av7:List Value:=[(.slice none 0 0),(.slice none 0 0),(.slice none 0 0),(.slice none 0 0),(.int .u64 0),(.int .u64 0),(.int .u64 0)]++List.replicate 64 (.int .u8 0)++[(.int .u32 0),(.int .i64 0),(.pointer none),(.int .i64 0),(.bool false),(.bool false),(.int .u64 0),(.int .u64 0),(.int .u64 0)]++List.replicate 64 (.int .u8 0)++[(.int .u32 0)]
def Ben:List Value:=[(.int .u64 0),(.int .u64 0),(.int .u64 0)]++List.replicate 64 (.int .u8 0)++[(.int .u32 0)]
def Beo:List Value:=[(.int .i64 0),(.int .i64 0),(.bool false),(.int .u64 0),(.int .u32 0),(.int .u32 0),(.slice none 0 0),(.bool false),(.int .u64 0),(.int .u32 0),(.int .u32 0),(.slice none 0 0),(.bool false),(.int .i64 0),(.int .i64 0),(.int .u64 0),(.int .u32 0),(.int .u32 0),(.slice none 0 0),(.bool false)]
def Bep:TypeId->List Value
 |46=>[(.int .u64 0),(.int .u32 0),(.int .u32 0),(.slice none 0 0)]
 |74=>Av7
 |49=>[(.int .i64 0),(.int .i64 0),(.int .u64 0),(.int .u32 0),(.int .u32 0),(.slice none 0 0)]
 |126=>[(.int .i64 0),(.int .i64 0),(.int .u64 0),(.int .u32 0),(.int .u32 0),(.slice none 0 0)]
 |43=>Ben
 |56=>[(.int .i64 0),(.int .i64 0),(.int .u64 0),(.int .u32 0)]
 |130=>[(.int .i64 0),(.int .i64 0),(.int .u64 0),(.int .u32 0)]
 |136=>Beo
 |54=>[(.int .u64 0),(.int .u32 0)]
 |_=>[]
def Beq:TypeId->Value
 |_=>undef
def Ber:TypeId->List Nat
 |43=>Baj
 |54=>[1,1]
 |83=>[1,1]
 |_=>[]
def Bes:Nat->TypeId->List Value
 |_,_=>[]
structure QzP (sl:List Nat) (n:Nat) where
 p:CzV sl n:=by
  refine(fun(_:Cz Bep Beq Ber Bes Go.Proofs.Tryz.prog 0 ?sl ?n ?a)=>(CzV.mk ?a:CzV ?sl ?n)) ?h
  case h=>
  intro zc zv zk zr hc hv hk hr
  conv=>lhs;cbv;try simp only[hc,hv,hk,hr,Bep,Beq,Ber,Bes]
noncomputable def f4:=({}:QzP [0,1,2,4,6,7,8,9,11,12,13,14,15,16,24,42,52,54,62,81,103] 4).p.a
noncomputable def f19:=({}:QzP [0,1,4,5,9,13,34] 19).p.a
noncomputable def f21:=({}:QzP [0,1,3,4] 21).p.a
noncomputable def f22:=({}:QzP [0,1,2,5,6,7,8,9,10,11,12,13,14,15,16,19,20,64,84,111,118,134] 22).p.a
noncomputable def f24:=({}:QzP [0,2,3,21] 24).p.a
noncomputable def f25:=({}:QzP [0,1,2,3,4] 25).p.a
noncomputable def f49:=({}:QzP [0,2] 49).p.a
noncomputable def f50:=({}:QzP [0,1,4,6] 50).p.a
noncomputable def f51:=({}:QzP [0,1,2,5,6,7,8,9,28,41] 51).p.a
noncomputable def f52:=({}:QzP [0,1,3,4,12] 52).p.a
noncomputable def f53:=({}:QzP [0,2,3,4,5,6,7,8,24] 53).p.a
noncomputable def f54:=({}:QzP [0,1,2,3,4] 54).p.a
noncomputable def f55:=({}:QzP [0,2,7] 55).p.a
noncomputable def f56:=({}:QzP [0,1,2,3,4,5,31] 56).p.a
noncomputable def f57:=({}:QzP [0,1,2,3,5,8,25] 57).p.a
noncomputable def f58:=({}:QzP [0,1,2,3,4,5,26] 58).p.a
noncomputable def f59:=({}:QzP [0,1,4,5,10,14,25] 59).p.a
noncomputable def f87:=({}:QzP [0,1,2,5,6,7,13,53] 87).p.a
noncomputable def f88:=({}:QzP [0,1,3,4,12,19,26,41,73,78,94] 88).p.a
noncomputable def f91:=({}:QzP [0,2] 91).p.a
noncomputable def Bet:=({}:QzP [0,1,2,3] 111).p.a
end Go.AM.F
namespace Go.AM.Fd
open Nat (reduceAdd reduceEqDiff reduceLT reduceLeDiff reduceMul reduceSub)
open Go.Proofs Go.AM.F
def q64(f g:Nat->Bool):Bool:=((Aa0 f 64:Nat):Int)==((Aa0 g 64:Nat):Int)
def q32(f g:Nat->Bool):Bool:=((Aa0 f 32:Nat):Int)==((Aa0 g 32:Nat):Int)
theorem Alt(f g:Nat->Bool):Abz .eql (S64 f) (S64 g)=some (.bool (q64 f g)):=by unfold S64 q64;rw[Apc]
theorem Apj(f g:Nat->Bool):Abz .eql (S32 f) (S32 g)=some (.bool (q32 f g)):=by unfold S32 q32;rw[Apc]
theorem A9q(f g:Nat->Bool):q64 f g=q64 g f:=Bool.beq_comm
theorem A4k(f g:Nat->Bool):q32 f g=q32 g f:=Bool.beq_comm
theorem A9r(f:Nat->Bool):q64 f f=true:=by simp[q64]
theorem A4l(f:Nat->Bool):q32 f f=true:=by simp[q32]
def Akx(x:Inp)(cs:List (Int×Int))(y:Inp)(ds:List (Int×Int)):Bool:=((q64 x.oc y.oc&&q32 x.nr y.nr)&&q32 x.rv y.rv)&&decide (cs=ds)
theorem Aw5(x:Inp)(cs:List (Int×Int))(y:Inp)(ds:List (Int×Int)):Akx x cs y ds=Akx y ds x cs:=by
 unfold Akx
 rw[A9q,A4k x.nr,A4k x.rv]
 congr 1
 rw[decide_eq_decide]
 exact eq_comm
theorem Aw6(x:Inp)(cs:List (Int×Int)):Akx x cs x cs=true:=by unfold Akx;rw[A9r,A4l,A4l];simp
theorem Av0(a b c d:Int)(H:Aaa):Aak (.eqs [1,1] true (.agg #[.int .u8 a,.int .i64 b]) (.agg #[.int .u8 c,.int .i64 d])) H=some (.bool (!decide ((a,b)=(c,d))),H):=by
 have:Aak (.eqs [1,1] true (.agg #[.int .u8 a,.int .i64 b]) (.agg #[.int .u8 c,.int .i64 d])) H=some (.bool (!((a==c)&&((b==d)&&true))),H):=rfl
 rw[this]
 congr 3
 by_cases h1:a=c<;>by_cases h2:b=d<;>simp[h1,h2]
theorem A4m{cs ds:List (Int×Int)}{i:Nat}(hi:i<cs.length)(hl:cs.length=ds.length)(h:cs.getD i (0,0)≠ds.getD i (0,0)):decide (cs=ds)=false:=by
 rw[decide_eq_false_iff_not];rintro rfl;exact h rfl
theorem Aw7{cs ds:List (Int×Int)}(hl:cs.length=ds.length)(h:∀i,i<cs.length->cs.getD i (0,0)=ds.getD i (0,0)):decide (cs=ds)=true:=by
 rw[decide_eq_true_eq]
 refine List.ext_getElem hl fun i h1 h2=>?_
 have:=h i h1
 rw[List.getD_eq_getElem?_getD,List.getD_eq_getElem?_getD,List.getElem?_eq_getElem h1,List.getElem?_eq_getElem h2]at this
 exact this
theorem Bbq{H:Aaa}{v w:Value}{cs ds:List (Int×Int)}(hc:CL H v cs)(hd:CL H w ds)(hcl:cs.length<=1000000)(hdl:ds.length<=1000000):
 ∃r H',Aaq Tryz.prog 0 109 [v,w] H r H'/\r=.bool (decide (cs=ds))/\H'=H:=by
 refine gcb ?_
 refine Aam A7z ?_
 intro Q hq1 hq2
 have ic:=Sl.is hc
 have id_:=Sl.is hd
 have lc:=hc.len
 have ld:=hd.len
 have no:decide (cs=ds)=false->∀{fr:List Value} {K:Aaa},Aac H K->Ack A7z.res fr K=some (.bool false)->Q .ret fr K:=fun e fr K k hr=>hq2 _ _ ⟨_,hr,by rw[e],k⟩
 by_cases hl:cs.length=ds.length
 case neg=>
  have e:(((cs.length:Nat):Int) != ((ds.length:Nat):Int))=true:=by simp;omega
  simp(disch:=first|assumption|omega)only[A7z,P4,seval,ic,id_,lc,ld,e]
  exact no (by rw[decide_eq_false_iff_not];rintro rfl;exact hl rfl) (Aac.refl H) rfl
 case pos=>
 have e:(((cs.length:Nat):Int) != ((ds.length:Nat):Int))=false:=by simp;omega
 simp(disch:=first|assumption|omega)only[A7z,P3,seval,Aah,Aao,ic,id_,lc,ld,e]
 rw[Aag]
 refine Aal (fun q fr K=>∃i x3 x4 x9 x10,fr=[v,w,.bool false,x3,x4,.bool false,v,.int .i64 ((cs.length:Nat):Int),.int .i64 ((i:Nat):Int),x9,x10]/\Aac H K/\(∀j,j<i->cs.getD j (0,0)=ds.getD j (0,0))/\i<=cs.length/\q=cs.length-i) cs.length
  ⟨0,_,_,_,_,rfl,Aac.refl H,fun j hj=>absurd hj (by omega),by omega,rfl⟩ ?_
 rintro Q' q fr K ⟨i,x3,x4,x9,x10,rfl,kK,hall,hi,rfl⟩ hn' hx' hret
 by_cases hlt:i<cs.length
 ·have kA:=(Aac.refl K).alloc (.cells true false 2 [.int .u8 (cs.getD i (0,0)).1,.int .i64 (cs.getD i (0,0)).2] 83)
  obtain⟨na,ra⟩:=(hc.keeps kK).at_ hlt
  obtain⟨nb,rb⟩:=((hd.keeps kK).keeps kA).at_ (i:=i) (by omega)
  have e0:(0:Int)<=(i:Int):=by omega
  have e1:(i:Int)<((cs.length:Nat):Int):=by omega
  have e2:(i:Int)<((ds.length:Nat):Int):=by omega
  have hw:=wrS (i:=i) (by omega)
  by_cases he:cs.getD i (0,0)=ds.getD i (0,0)
  ·have hne:decide ((((cs.getD i (0,0)).1,(cs.getD i (0,0)).2):Int×Int)=((ds.getD i (0,0)).1,(ds.getD i (0,0)).2))=true:=by rw[decide_eq_true_eq];exact he
   simp(disch:=first|assumption|omega|(simp only[LN]<;>omega)|(simp(disch:=first|assumption|omega|(simp only[LN]<;>omega))only[Aab,Aad];assumption))only[P4,seval,e1,e0,e2,na,ra,nb,rb,lc,ld,Aai,Av0,hne,hw]
   refine hn' _ _ _ ⟨i+1,_,_,_,_,rfl,kK.trans kA,fun j hj=>?_,by omega,rfl⟩ (by omega)
   rcases Nat.lt_or_ge j i with h|h
   ·exact hall j h
   ·have:j=i:=by omega
    subst this;exact he
  ·have hne:decide ((((cs.getD i (0,0)).1,(cs.getD i (0,0)).2):Int×Int)=((ds.getD i (0,0)).1,(ds.getD i (0,0)).2))=false:=by rw[decide_eq_false_iff_not];exact he
   simp(disch:=first|assumption|omega|(simp only[LN]<;>omega)|(simp(disch:=first|assumption|omega|(simp only[LN]<;>omega))only[Aab,Aad];assumption))only[P4,seval,e1,e0,e2,na,ra,nb,rb,lc,ld,Aai,Av0,hne]
   exact hret _ _ (no (A4m hlt hl he) (kK.trans kA) rfl)
 ·have e1:¬(i:Int)<((cs.length:Nat):Int):=by omega
  have hil:i=cs.length:=by omega
  subst hil
  simp(disch:=first|assumption|omega)only[P4,seval,e1]
  refine hx' _ _ _ ?_
  simp(disch:=first|assumption|omega)only[P4,seval]
  exact hq2 _ _ ⟨.bool true,rfl,by rw[Aw7 hl hall],kK⟩
theorem t59{H:Aaa}{v w:Value}{cs ds:List (Int×Int)}(hc:CL H v cs)(hd:CL H w ds)(hcl:cs.length<=1000000)(hdl:ds.length<=1000000):
 ∃r H',Aaq Tryz.prog 0 59 [v,w] H r H'/\r=.bool (decide (cs=ds))/\H'=H:=by
 refine gcb ?_
 refine Aam f59 ?_
 intro Q hq1 hq2
 have ic:=Sl.is hc
 have id_:=Sl.is hd
 have lc:=hc.len
 have ld:=hd.len
 have no:decide (cs=ds)=false->∀{fr:List Value} {K:Aaa},Aac H K->Ack f59.res fr K=some (.bool false)->Q .ret fr K:=fun e fr K k hr=>hq2 _ _ ⟨_,hr,by rw[e],k⟩
 by_cases hl:cs.length=ds.length
 case neg=>
  have e:(((cs.length:Nat):Int) != ((ds.length:Nat):Int))=true:=by simp;omega
  simp(disch:=first|assumption|omega)only[f59,P4,seval,ic,id_,lc,ld,e]
  exact no (by rw[decide_eq_false_iff_not];rintro rfl;exact hl rfl) (Aac.refl H) rfl
 case pos=>
 have e:(((cs.length:Nat):Int) != ((ds.length:Nat):Int))=false:=by simp;omega
 simp(disch:=first|assumption|omega)only[f59,P3,seval,Aah,Aao,ic,id_,lc,ld,e]
 rw[Aag]
 refine Aal (fun q fr K=>∃i x5 x6,fr=[v,w,.bool false,.int .i64 ((i:Nat):Int),.bool false,x5,x6]/\K=H/\(∀j,j<i->cs.getD j (0,0)=ds.getD j (0,0))/\i<=cs.length/\q=cs.length-i) cs.length
  ⟨0,_,_,rfl,rfl,fun j hj=>absurd hj (by omega),by omega,rfl⟩ ?_
 rintro Q' q fr K ⟨i,x5,x6,rfl,rfl,hall,hi,rfl⟩ hn' hx' hret
 by_cases hlt:i<cs.length
 ·obtain⟨na,ra⟩:=hc.at_ hlt
  obtain⟨nb,rb⟩:=hd.at_ (i:=i) (by omega)
  have e0:(0:Int)<=(i:Int):=by omega
  have e1:(i:Int)<((cs.length:Nat):Int):=by omega
  have e2:(i:Int)<((ds.length:Nat):Int):=by omega
  have hw:=wrS (i:=i) (by omega)
  by_cases he:cs.getD i (0,0)=ds.getD i (0,0)
  ·have hne:decide ((((cs.getD i (0,0)).1,(cs.getD i (0,0)).2):Int×Int)=((ds.getD i (0,0)).1,(ds.getD i (0,0)).2))=true:=by rw[decide_eq_true_eq];exact he
   simp(disch:=first|assumption|omega)only[P4,seval,e1,e0,e2,na,ra,nb,rb,ic,lc,ld,Aai,Av0,hne,hw]
   refine hn' _ _ _ ⟨i+1,_,_,rfl,rfl,fun j hj=>?_,by omega,rfl⟩ (by omega)
   rcases Nat.lt_or_ge j i with h|h
   ·exact hall j h
   ·have:j=i:=by omega
    subst this;exact he
  ·have hne:decide ((((cs.getD i (0,0)).1,(cs.getD i (0,0)).2):Int×Int)=((ds.getD i (0,0)).1,(ds.getD i (0,0)).2))=false:=by rw[decide_eq_false_iff_not];exact he
   simp(disch:=first|assumption|omega)only[P4,seval,e1,e0,e2,na,ra,nb,rb,ic,lc,ld,Aai,Av0,hne]
   exact hret _ _ (no (A4m hlt hl he) (Aac.refl K) rfl)
 ·have e1:¬(i:Int)<((cs.length:Nat):Int):=by omega
  have hil:i=cs.length:=by omega
  subst hil
  simp(disch:=first|assumption|omega)only[P4,seval,ic,lc,e1]
  refine hx' _ _ _ ?_
  simp(disch:=first|assumption|omega)only[P4,seval]
  exact hq2 _ _ ⟨.bool true,rfl,by rw[Aw7 hl hall],Aac.refl K⟩
theorem t73{H:Aaa}{x y:Inp}{v w:Value}{cs ds:List (Int×Int)}(hc:CL H v cs)(hd:CL H w ds)(hcl:cs.length<=1000000)(hdl:ds.length<=1000000):
 ∃r H',Aaq Tryz.prog 0 73 [.agg (inl x v).toArray,.agg (inl y w).toArray] H r H'/\r=.bool (Akx x cs y ds)/\H'=H:=by
 refine gcb ?_
 refine Aam f73 ?_
 intro Q hq1 hq2
 have oc:=Sl.one hc
 have od:=Sl.one hd
 have k0:=((Aac.refl H).alloc (.cells true false 4 (inl x v) 46)).alloc (.cells true false 4 (inl y w) 46)
 have e1:inl x v=[S64 x.oc,S32 x.nr,S32 x.rv,v]:=rfl
 have e2:inl y w=[S64 y.oc,S32 y.nr,S32 y.rv,w]:=rfl
 rw[e1,e2]at k0 ⊢
 have hs:Akx x cs y ds=(((q64 x.oc y.oc&&q32 x.nr y.nr)&&q32 x.rv y.rv)&&decide (cs=ds)):=rfl
 rw[hs]at hq1 hq2
 cases h1:q64 x.oc y.oc with
 |false=>
  rw[h1]at hq2
  simp(disch:=first|assumption|omega|(simp only[LN]<;>omega)|(simp(disch:=first|assumption|omega|(simp only[LN]<;>omega))only[Aab,Aad];assumption))only[f73,P4,seval,oc,od,O4,Alt,h1]
  exact hq2 _ _ ⟨.bool false,rfl,rfl,k0⟩
 |true=>
 rw[h1]at hq2
 cases h2:q32 x.nr y.nr with
 |false=>
  rw[h2]at hq2
  simp(disch:=first|assumption|omega|(simp only[LN]<;>omega)|(simp(disch:=first|assumption|omega|(simp only[LN]<;>omega))only[Aab,Aad];assumption))only[f73,P4,seval,oc,od,O4,Alt,Apj,h1,h2]
  exact hq2 _ _ ⟨.bool false,rfl,rfl,k0⟩
 |true=>
 rw[h2]at hq2
 cases h3:q32 x.rv y.rv with
 |false=>
  rw[h3]at hq2
  simp(disch:=first|assumption|omega|(simp only[LN]<;>omega)|(simp(disch:=first|assumption|omega|(simp only[LN]<;>omega))only[Aab,Aad];assumption))only[f73,P4,seval,oc,od,O4,Alt,Apj,h1,h2,h3]
  exact hq2 _ _ ⟨.bool false,rfl,rfl,k0⟩
 |true=>
 rw[h3]at hq2
 have tA:=Bbq (hc.keeps k0) (hd.keeps k0) hcl hdl
 simp(disch:=first|assumption|omega|(simp only[LN]<;>omega)|(simp(disch:=first|assumption|omega|(simp only[LN]<;>omega))only[Aab,Aad];assumption))only[f73,P4,seval,oc,od,O4,Alt,Apj,h1,h2,h3]
 refine Aae tA ?_
 rintro _ X ⟨rfl,hX⟩
 rw[hX]
 simp(disch:=first|assumption|omega)only[P4,seval]
 exact hq2 _ _ ⟨.bool _,rfl,by simp,k0⟩
theorem t25{H:Aaa}{x y:Inp}{v w:Value}{cs ds:List (Int×Int)}(hc:CL H v cs)(hd:CL H w ds)(hcl:cs.length<=1000000)(hdl:ds.length<=1000000):
 ∃r H',Aaq Tryz.prog 0 25 [.agg (inl x v).toArray,.agg (inl y w).toArray] H r H'/\r=.bool (Akx x cs y ds)/\H'=H:=by
 refine gcb ?_
 refine Aam f25 ?_
 intro Q hq1 hq2
 have oc:=Sl.one hc
 have od:=Sl.one hd
 have k0:=((Aac.refl H).alloc (.cells true false 4 (inl x v) 46)).alloc (.cells true false 4 (inl y w) 46)
 have e1:inl x v=[S64 x.oc,S32 x.nr,S32 x.rv,v]:=rfl
 have e2:inl y w=[S64 y.oc,S32 y.nr,S32 y.rv,w]:=rfl
 rw[e1,e2]at k0 ⊢
 have hs:Akx x cs y ds=(((q64 x.oc y.oc&&q32 x.nr y.nr)&&q32 x.rv y.rv)&&decide (cs=ds)):=rfl
 rw[hs]at hq1 hq2
 cases h1:q64 x.oc y.oc with
 |false=>
  rw[h1]at hq2
  simp(disch:=first|assumption|omega|(simp only[LN]<;>omega)|(simp(disch:=first|assumption|omega|(simp only[LN]<;>omega))only[Aab,Aad];assumption))only[f25,P4,seval,oc,od,O4,Alt,h1]
  exact hq2 _ _ ⟨.bool false,rfl,rfl,k0⟩
 |true=>
 rw[h1]at hq2
 cases h2:q32 x.nr y.nr with
 |false=>
  rw[h2]at hq2
  simp(disch:=first|assumption|omega|(simp only[LN]<;>omega)|(simp(disch:=first|assumption|omega|(simp only[LN]<;>omega))only[Aab,Aad];assumption))only[f25,P4,seval,oc,od,O4,Alt,Apj,h1,h2]
  exact hq2 _ _ ⟨.bool false,rfl,rfl,k0⟩
 |true=>
 rw[h2]at hq2
 cases h3:q32 x.rv y.rv with
 |false=>
  rw[h3]at hq2
  simp(disch:=first|assumption|omega|(simp only[LN]<;>omega)|(simp(disch:=first|assumption|omega|(simp only[LN]<;>omega))only[Aab,Aad];assumption))only[f25,P4,seval,oc,od,O4,Alt,Apj,h1,h2,h3]
  exact hq2 _ _ ⟨.bool false,rfl,rfl,k0⟩
 |true=>
 rw[h3]at hq2
 have tA:=t59 (hc.keeps k0) (hd.keeps k0) hcl hdl
 simp(disch:=first|assumption|omega|(simp only[LN]<;>omega)|(simp(disch:=first|assumption|omega|(simp only[LN]<;>omega))only[Aab,Aad];assumption))only[f25,P4,seval,oc,od,O4,Alt,Apj,h1,h2,h3]
 refine Aae tA ?_
 rintro _ X ⟨rfl,hX⟩
 rw[hX]
 simp(disch:=first|assumption|omega)only[P4,seval]
 exact hq2 _ _ ⟨.bool _,rfl,by simp,k0⟩
theorem _root_.Go.AM.OW.slc{e z:Nat}{H K:Aaa}{v:Value}{rows:List (List Value)}(h:OW e z H K v rows):SlC K z v rows:=by
 refine⟨h.sl,?_⟩
 rcases h.ap with⟨rfl,_,_⟩|⟨b,room,rfl,_,h2⟩
 ·exact .inl rfl
 ·exact .inr (.inr ⟨b,_,_,_,_,_,_,rfl,Nat.le_refl _,h2⟩)
theorem SlC.chg{H K:Aaa}{z:Nat}{v:Value}{rows:List (List Value)}{S:List Nat}(h:SlC H z v rows)(k:Chg S H K)(hS:∀b,blk v=some b->b∉S):SlC K z v rows:=by
 refine⟨Sl.chg h.s k hS,?_⟩
 rcases h.c with e|e|⟨b,n,m,o,r,c,u,e1,e2,e3⟩
 ·exact .inl e
 ·exact .inr (.inl e)
 ·exact .inr (.inr ⟨b,n,m,o,r,c,u,e1,e2,k.at_ e3 (hS b (by rw[e1];rfl))⟩)
structure Ap0 (H K:Aaa) (v:Value) (cs:List (Int×Int)):Prop where
 k:Aac H K
 c:SlC K 2 v (cs.map Aer)
 f:Ads H.n v
theorem _root_.Go.AM.OW.newC{H K:Aaa}{v:Value}{cs:List (Int×Int)}{e:Nat}(h:OW e 2 H K v (cs.map Aer)):Ap0 H K v cs:=⟨h.k,h.slc,h.f⟩
theorem Bbr{H:Aaa}{v:Value}{cs:List (Int×Int)}(hc:CL H v cs)(hcl:cs.length<=1000000):∃w K,Aaq Tryz.prog 0 108 [v] H w K/\Ap0 H K w cs:=by
 refine Aam Bah ?_
 intro Q hq1 hq2
 obtain⟨a,k,rfl⟩:=hc.sh
 cases a with
 |none=>
  have:cs=[]:=by
   have:=hc.el
   simp only[Abf,Option.some.injEq]at this
   have h2:=hc.len
   cases cs with
   |nil=>rfl
   |cons c r=>simp[Aer]at this
  subst this
  simp(disch:=first|assumption|omega)only[Bah,P4,seval,A0a,eqA,Option.isNone_none]
  exact hq2 _ _ ⟨.slice none 0 0,rfl,Aac.refl H,⟨Sl.nil _ _,.inl rfl⟩,fun b hb=>by cases hb⟩
 |some a=>
  have kA:=(Aac.refl H).alloc (.cells true false 2 [] 83)
  have ow0:OW 83 2 H (H.alloc (.cells true false 2 [] 83)) (slc H.n 0 0 0) []:=⟨.inr ⟨_,_,rfl,rfl,Aaa.Bfd H _⟩,by simp,kA,fun b hb=>by cases hb;exact Nat.le_refl _⟩
  have one:(Value.slice (some a) (cs.map Aer).length k).oneCell'=true:=rfl
  simp(disch:=first|assumption|omega)only[Bah,P4,seval,A0a,eqA,Option.isNone_some]
  refine OW.appR ow0 (Sl.keeps hc kA) (by simp;omega) ?_
  intro v' K' ow' _
  simp(disch:=first|assumption|omega)only[P4,seval]
  exact hq2 _ _ ⟨_,rfl,OW.newC ow'⟩
theorem Aw8(a b c:Nat->Bool):Aau [.int .u64 0,.int .u32 0,.int .u32 0,.slice none 0 0] [(0,1,S64 a),(1,1,S32 b),(2,1,S32 c)]=some [S64 a,S32 b,S32 c,.slice none 0 0]:=rfl
def Ae9(x y:Inp):Inp:=⟨fun i=>x.oc i||y.oc i,fun i=>x.nr i&&y.nr i,fun i=>x.rv i&&y.rv i⟩
def Ajj(cs ds:List (Int×Int)):List (Int×Int):=if cs=ds then cs else[]
theorem t74{H:Aaa}{x y:Inp}{v w:Value}{cs ds:List (Int×Int)}(hc:CL H v cs)(hd:CL H w ds)(hcl:cs.length<=1000000)(hdl:ds.length<=1000000):
 ∃r K,Aaq Tryz.prog 0 74 [.agg (inl x v).toArray,.agg (inl y w).toArray] H r K/\∃z,r=.agg (inl (Ae9 x y) z).toArray/\Ap0 H K z (Ajj cs ds):=by
 refine Aam f74 ?_
 intro Q hq1 hq2
 have oc:=Sl.one hc
 have od:=Sl.one hd
 obtain⟨K0,hK0⟩:∃X,X=(((H.alloc (.cells true false 4 (inl x v) 46)).alloc (.cells true false 4 (inl y w) 46)).alloc (.cells true false 4 [.int .u64 0,.int .u32 0,.int .u32 0,.slice none 0 0] 46)).alloc (.cells true false 4 (inl (Ae9 x y) (.slice none 0 0)) 46):=⟨_,rfl⟩
 have k0:Aac H K0:=by rw[hK0];exact((((Aac.refl H).alloc _).alloc _).alloc _).alloc _
 have n0:K0.n=H.n+4:=by rw[hK0];rfl
 have g0:K0.get H.n=some (.cells true false 4 (inl x v) 46):=by rw[hK0];exact((((Aac.refl _).alloc _).alloc _).alloc _).at_ (Aaa.Bfd H _)
 have g1:K0.get (H.n+1)=some (.cells true false 4 (inl y w) 46):=by rw[hK0];exact(((Aac.refl _).alloc _).alloc _).at_ (Aaa.Bfd (H.alloc _) _)
 have g2:K0.get (H.n+2)=some (.cells true false 4 [.int .u64 0,.int .u32 0,.int .u32 0,.slice none 0 0] 46):=by rw[hK0];exact((Aac.refl _).alloc _).at_ (Aaa.Bfd ((H.alloc _).alloc _) _)
 have g3:K0.get (H.n+3)=some (.cells true false 4 (inl (Ae9 x y) (.slice none 0 0)) 46):=by rw[hK0];exact Aaa.Bfd (((H.alloc _).alloc _).alloc _) _
 have e1:inl x v=[S64 x.oc,S32 x.nr,S32 x.rv,v]:=rfl
 have e2:inl y w=[S64 y.oc,S32 y.nr,S32 y.rv,w]:=rfl
 have e3:∀z,inl (Ae9 x y) z=[S64 fun i=>x.oc i||y.oc i,S32 fun i=>x.nr i&&y.nr i,S32 fun i=>x.rv i&&y.rv i,z]:=fun _=>rfl
 rw[e1]at g0 hK0
 rw[e2]at g1 hK0
 rw[e3]at g3 hK0
 rw[e1,e2]
 simp only[e3]at hq1 hq2
 have l2:=Aaa.Bfg g2
 have l3:=Aaa.Bfg g3
 have fin:∀{Y Z:Aaa} {z:Value} {es:List (Int×Int)} {fr:List Value},Aac K0 Y->Chg [H.n+1+1,H.n+1+1+1] Y Z->SlC Y 2 z (es.map Aer)->Ads K0.n z->es=Ajj cs ds->Z.get (H.n+1+1)=some (.cells true false 4 (inl (Ae9 x y) z) 46)->fr[4]? =some (ptr (H.n+1+1) 0)→
  Q .ret fr Z:=by
  intro Y Z z es fr kY cZ hz fz he gZ hfr
  have hn:∀b,blk z=some b->K0.n<=b:=fz
  have hz2:=hz.chg cZ (fun b hb hm=>by have:=hn b hb;simp at hm;omega)
  refine hq2 _ _ ⟨_,?_,z,rfl,⟨(k0.trans kY).Bfh cZ (by simp;omega),by rw[<-he];exact hz2,fun b hb=>by have:=hn b hb;omega⟩⟩
  show Ack [.cn 4 4] _ _=_
  have hgd:fr.getD 4 undef=ptr (H.n+1+1) 0:=by rw[List.getD_eq_getElem?_getD,hfr];rfl
  have hr4:∀c:List Value,c.length=4->Ac5 (some (.cells true false 4 c 46)) 0 4=some c:=fun c h=>Aa9 h
  rw[Aoa,hgd,Ace,Abe,gZ,hr4 _ rfl]
  rfl
 have tA:=Bbq (hc.keeps k0) (hd.keeps k0) hcl hdl
 simp(disch:=first|assumption|omega|(simp only[LN]<;>omega)|(simp(disch:=first|assumption|omega|(simp only[LN]<;>omega))only[Aab,Aad];assumption))only[f74,P4,seval,oc,od,O4,Agw,Afa,Aw8]
 rw[<-hK0]
 refine Aae tA ?_
 rintro _ X ⟨rfl,hX⟩
 rw[hX]
 by_cases hcd:cs=ds
 ·have hd':decide (cs=ds)=true:=by simp[hcd]
  have hm:Ajj cs ds=cs:=by unfold Ajj;rw[if_pos hcd]
  rw[hd']
  simp(disch:=first|assumption|omega)only[P4,seval,g0,g1]
  refine Aae (Bbr (hc.keeps k0) hcl) ?_
  rintro z Y nc
  have kY:=nc.k
  have gY2:=kY.at_ g2
  have gY3:=kY.at_ g3
  have lY2:=Aaa.Bfg gY2
  have lY3:=Aaa.Bfg gY3
  have oz:=Sl.one nc.c.s
  simp(disch:=first|assumption|omega|(simp only[LN]<;>omega)|(simp(disch:=first|assumption|omega|(simp only[LN]<;>omega))only[Aab,Aad];assumption))only[P4,seval,gY2,gY3,oz,O4]
  refine fin kY ((Chg.set Y lY3 _).mono (by simp) |>.trans (Chg.set _ (by rw[Ab6];exact lY2) _) (by simp)) nc.c nc.f hm.symm (Aaa.Bfe ((Aaa.Bff Y (by omega) lY3 _).trans gY2) _) rfl
 ·have hd':decide (cs=ds)=false:=by simp[hcd]
  have hm:Ajj cs ds=[]:=by unfold Ajj;rw[if_neg hcd]
  rw[hd']
  simp(disch:=first|assumption|omega|(simp only[LN]<;>omega)|(simp(disch:=first|assumption|omega|(simp only[LN]<;>omega))only[Aab,Aad];assumption))only[P4,seval,g3,g2,O4]
  exact fin (Aac.refl _) ((Chg.set K0 l2 _).mono (by simp)) ⟨Sl.nil _ _,.inl rfl⟩ (fun b hb=>by cases hb) hm.symm (Aaa.Bfe g2 _) rfl
theorem t58{H:Aaa}{x y:Inp}{v w:Value}{cs ds:List (Int×Int)}(hc:CL H v cs)(hd:CL H w ds)(hcl:cs.length<=1000000)(hdl:ds.length<=1000000):
 ∃r K,Aaq Tryz.prog 0 58 [.agg (inl x v).toArray,.agg (inl y w).toArray] H r K/\∃z,r=.agg (inl (Ae9 x y) z).toArray/\Ap0 H K z (Ajj cs ds):=by
 refine Aam f58 ?_
 intro Q hq1 hq2
 have oc:=Sl.one hc
 have od:=Sl.one hd
 obtain⟨K0,hK0⟩:∃X,X=(((H.alloc (.cells true false 4 (inl x v) 46)).alloc (.cells true false 4 (inl y w) 46)).alloc (.cells true false 4 [.int .u64 0,.int .u32 0,.int .u32 0,.slice none 0 0] 46)).alloc (.cells true false 4 (inl (Ae9 x y) (.slice none 0 0)) 46):=⟨_,rfl⟩
 have k0:Aac H K0:=by rw[hK0];exact((((Aac.refl H).alloc _).alloc _).alloc _).alloc _
 have n0:K0.n=H.n+4:=by rw[hK0];rfl
 have g0:K0.get H.n=some (.cells true false 4 (inl x v) 46):=by rw[hK0];exact((((Aac.refl _).alloc _).alloc _).alloc _).at_ (Aaa.Bfd H _)
 have g1:K0.get (H.n+1)=some (.cells true false 4 (inl y w) 46):=by rw[hK0];exact(((Aac.refl _).alloc _).alloc _).at_ (Aaa.Bfd (H.alloc _) _)
 have g2:K0.get (H.n+2)=some (.cells true false 4 [.int .u64 0,.int .u32 0,.int .u32 0,.slice none 0 0] 46):=by rw[hK0];exact((Aac.refl _).alloc _).at_ (Aaa.Bfd ((H.alloc _).alloc _) _)
 have g3:K0.get (H.n+3)=some (.cells true false 4 (inl (Ae9 x y) (.slice none 0 0)) 46):=by rw[hK0];exact Aaa.Bfd (((H.alloc _).alloc _).alloc _) _
 have e1:inl x v=[S64 x.oc,S32 x.nr,S32 x.rv,v]:=rfl
 have e2:inl y w=[S64 y.oc,S32 y.nr,S32 y.rv,w]:=rfl
 have e3:∀z,inl (Ae9 x y) z=[S64 fun i=>x.oc i||y.oc i,S32 fun i=>x.nr i&&y.nr i,S32 fun i=>x.rv i&&y.rv i,z]:=fun _=>rfl
 rw[e1]at g0 hK0
 rw[e2]at g1 hK0
 rw[e3]at g3 hK0
 rw[e1,e2]
 simp only[e3]at hq1 hq2
 have l2:=Aaa.Bfg g2
 have l3:=Aaa.Bfg g3
 have fin:∀{Y Z:Aaa} {z:Value} {es:List (Int×Int)} {fr:List Value},Aac K0 Y->Chg [H.n+1+1,H.n+1+1+1] Y Z->SlC Y 2 z (es.map Aer)->Ads K0.n z->es=Ajj cs ds->Z.get (H.n+1+1)=some (.cells true false 4 (inl (Ae9 x y) z) 46)->fr[4]? =some (ptr (H.n+1+1) 0)→
  Q .ret fr Z:=by
  intro Y Z z es fr kY cZ hz fz he gZ hfr
  have hn:∀b,blk z=some b->K0.n<=b:=fz
  have hz2:=hz.chg cZ (fun b hb hm=>by have:=hn b hb;simp at hm;omega)
  refine hq2 _ _ ⟨_,?_,z,rfl,⟨(k0.trans kY).Bfh cZ (by simp;omega),by rw[<-he];exact hz2,fun b hb=>by have:=hn b hb;omega⟩⟩
  show Ack [.cn 4 4] _ _=_
  have hgd:fr.getD 4 undef=ptr (H.n+1+1) 0:=by rw[List.getD_eq_getElem?_getD,hfr];rfl
  have hr4:∀c:List Value,c.length=4->Ac5 (some (.cells true false 4 c 46)) 0 4=some c:=fun c h=>Aa9 h
  rw[Aoa,hgd,Ace,Abe,gZ,hr4 _ rfl]
  rfl
 have tA:=t59 (hc.keeps k0) (hd.keeps k0) hcl hdl
 simp(disch:=first|assumption|omega|(simp only[LN]<;>omega)|(simp(disch:=first|assumption|omega|(simp only[LN]<;>omega))only[Aab,Aad];assumption))only[f58,P4,seval,oc,od,O4,Agw,Afa,Aw8]
 rw[<-hK0]
 refine Aae tA ?_
 rintro _ X ⟨rfl,hX⟩
 rw[hX]
 by_cases hcd:cs=ds
 ·have hd':decide (cs=ds)=true:=by simp[hcd]
  have hm:Ajj cs ds=cs:=by unfold Ajj;rw[if_pos hcd]
  rw[hd']
  simp(disch:=first|assumption|omega)only[P4,seval,g0,g1,g3]
  refine OW.appR (OW.nil 83 2 (Aac.refl K0)) (Sl.keeps hc k0) (by simp;omega) ?_
  intro z Y ow _
  have nc:=OW.newC ow
  have kY:=nc.k
  have gY2:=kY.at_ g2
  have gY3:=kY.at_ g3
  have lY2:=Aaa.Bfg gY2
  have lY3:=Aaa.Bfg gY3
  have oz:=Sl.one nc.c.s
  simp(disch:=first|assumption|omega|(simp only[LN]<;>omega)|(simp(disch:=first|assumption|omega|(simp only[LN]<;>omega))only[Aab,Aad];assumption))only[P4,seval,gY2,gY3,oz,O4]
  refine fin kY ((Chg.set Y lY3 _).mono (by simp) |>.trans (Chg.set _ (by rw[Ab6];exact lY2) _) (by simp)) nc.c nc.f hm.symm (Aaa.Bfe ((Aaa.Bff Y (by omega) lY3 _).trans gY2) _) rfl
 ·have hd':decide (cs=ds)=false:=by simp[hcd]
  have hm:Ajj cs ds=[]:=by unfold Ajj;rw[if_neg hcd]
  rw[hd']
  simp(disch:=first|assumption|omega|(simp only[LN]<;>omega)|(simp(disch:=first|assumption|omega|(simp only[LN]<;>omega))only[Aab,Aad];assumption))only[P4,seval,g3,g2,O4]
  exact fin (Aac.refl _) ((Chg.set K0 l2 _).mono (by simp)) ⟨Sl.nil _ _,.inl rfl⟩ (fun b hb=>by cases hb) hm.symm (Aaa.Bfe g2 _) rfl
theorem A7r{H:Aaa}{x:Inp}{v:Value}{cs:List (Int×Int)}(hc:CL H v cs)(hcl:cs.length<=1000000):
 ∃r K,Aaq Tryz.prog 0 111 [.agg (inl x v).toArray] H r K/\∃z,r=.agg (inl x z).toArray/\Ap0 H K z cs:=by
 refine Aam Bet ?_
 intro Q hq1 hq2
 have oc:=Sl.one hc
 have e1:∀z,inl x z=[S64 x.oc,S32 x.nr,S32 x.rv,z]:=fun _=>rfl
 simp only[e1]at hq1 hq2 ⊢
 obtain⟨K0,hK0⟩:∃X,X=((H.alloc (.cells true false 4 [S64 x.oc,S32 x.nr,S32 x.rv,v] 46)).alloc (.cells true false 4 [.int .u64 0,.int .u32 0,.int .u32 0,.slice none 0 0] 46)).alloc (.cells true false 4 [S64 x.oc,S32 x.nr,S32 x.rv,.slice none 0 0] 46):=⟨_,rfl⟩
 have k0:Aac H K0:=by rw[hK0];exact(((Aac.refl H).alloc _).alloc _).alloc _
 have n0:K0.n=H.n+3:=by rw[hK0];rfl
 have g1:K0.get (H.n+1)=some (.cells true false 4 [.int .u64 0,.int .u32 0,.int .u32 0,.slice none 0 0] 46):=by rw[hK0];exact((Aac.refl _).alloc _).at_ (Aaa.Bfd (H.alloc _) _)
 have g2:K0.get (H.n+2)=some (.cells true false 4 [S64 x.oc,S32 x.nr,S32 x.rv,.slice none 0 0] 46):=by rw[hK0];exact Aaa.Bfd ((H.alloc _).alloc _) _
 simp(disch:=first|assumption|omega|(simp only[LN]<;>omega)|(simp(disch:=first|assumption|omega|(simp only[LN]<;>omega))only[Aab,Aad];assumption))only[Bet,P4,seval,oc,O4]
 rw[<-hK0]
 refine OW.appR (OW.nil 83 2 (Aac.refl K0)) (Sl.keeps hc k0) (by simp;omega) ?_
 intro z Y ow _
 have nc:=OW.newC ow
 have hn:∀b,blk z=some b->K0.n<=b:=nc.f
 have kY:=nc.k
 have gY1:=kY.at_ g1
 have gY2:=kY.at_ g2
 have l1:=Aaa.Bfg gY1
 have l2:=Aaa.Bfg gY2
 have oz:=Sl.one nc.c.s
 simp(disch:=first|assumption|omega|(simp only[LN]<;>omega)|(simp(disch:=first|assumption|omega|(simp only[LN]<;>omega))only[Aab,Aad];assumption))only[P4,seval,gY1,gY2,oz,O4]
 have c1:=(Chg.set Y l2 (.cells true false 4 [S64 x.oc,S32 x.nr,S32 x.rv,z] 46)).mono (T:=[H.n+1,H.n+1+1]) (by simp) |>.trans (Chg.set _ (b:=H.n+1) (by rw[Ab6];exact l1) (.cells true false 4 [S64 x.oc,S32 x.nr,S32 x.rv,z] 46)) (by simp)
 refine hq2 _ _ ⟨_,?_,z,rfl,⟨(k0.trans kY).Bfh c1 (by simp;omega),nc.c.chg c1 (fun b hb hm=>by have:=hn b hb;simp at hm;omega),fun b hb=>by have:=hn b hb;omega⟩⟩
 show Ack [.cn 4 2] _ _=_
 have hr4:∀c:List Value,c.length=4->Ac5 (some (.cells true false 4 c 46)) 0 4=some c:=fun c h=>Aa9 h
 rw[Aoa]
 show Adb 4 (ptr (H.n+1) 0) _=_
 rw[Ace,Abe,Aaa.Bfe ((Aaa.Bff Y (by omega) l2 _).trans gY1),hr4 _ rfl]
 rfl
structure Rd where
 ch:Int
 cy:Int
 x:Inp
 c:List (Int×Int)
def rdl(r:Rd)(v:Value):List Value:=[.int .i64 r.ch,.int .i64 r.cy,S64 r.x.oc,S32 r.x.nr,S32 r.x.rv,v]
theorem t71{H:Aaa}{r:Rd}{v:Value}(hc:CL H v r.c)(hcl:r.c.length<=1000000):
 ∃w K,Aaq Tryz.prog 0 71 [.agg (rdl r v).toArray] H w K/\∃z,w=ptr H.n 0/\K.get H.n=some (.cells true false 6 (rdl r z) 49)/\Ap0 H K z r.c:=by
 refine Aam f71 ?_
 intro Q hq1 hq2
 have oc:=Sl.one hc
 have e1:∀z,rdl r z=[.int .i64 r.ch,.int .i64 r.cy,S64 r.x.oc,S32 r.x.nr,S32 r.x.rv,z]:=fun _=>rfl
 simp only[e1]at hq1 hq2 ⊢
 have k0:=(Aac.refl H).alloc (.cells true false 6 [.int .i64 r.ch,.int .i64 r.cy,S64 r.x.oc,S32 r.x.nr,S32 r.x.rv,v] 49)
 simp(disch:=first|assumption|omega)only[f71,P4,seval,oc,O4]
 refine Aae (Bbr (hc.keeps k0) hcl) ?_
 intro z Y nc
 have hn:∀b,blk z=some b->H.n+1<=b:=nc.f
 have kY:=nc.k
 have g1:=kY.at_ (Aaa.Bfd H (.cells true false 6 [.int .i64 r.ch,.int .i64 r.cy,S64 r.x.oc,S32 r.x.nr,S32 r.x.rv,v] 49))
 have l1:=Aaa.Bfg g1
 have oz:=Sl.one nc.c.s
 simp(disch:=first|assumption|omega)only[P4,seval,g1,oz]
 have c1:=Chg.set Y l1 (.cells true false 6 [.int .i64 r.ch,.int .i64 r.cy,S64 r.x.oc,S32 r.x.nr,S32 r.x.rv,z] 49)
 exact hq2 _ _ ⟨_,rfl,z,rfl,Aaa.Bfe g1 _,⟨(k0.trans kY).Bfh c1 (by simp),nc.c.chg c1 (fun b hb hm=>by have:=hn b hb;simp at hm;omega),fun b hb=>by have:=hn b hb;omega⟩⟩
def X0:Inp:=⟨fun _=>false,fun _=>false,fun _=>false⟩
def R0:Rd:=⟨0,0,X0,[]⟩
theorem A4n(z:Value):inl X0 z=[.int .u64 0,.int .u32 0,.int .u32 0,z]:=by
 show[S64 _,S32 _,S32 _,z]=_
 rw[Acs,Ae5];rfl
theorem Alu(z:Value):rdl R0 z=[.int .i64 0,.int .i64 0,.int .u64 0,.int .u32 0,.int .u32 0,z]:=by
 show[.int .i64 0,.int .i64 0,S64 _,S32 _,S32 _,z]=_
 rw[Acs,Ae5];rfl
def OtR(H:Aaa)(S:List Nat):Prop:=∀b∈S,∀o r z C T,H.get b=some (.cells o r z C T)->z≠2/\T≠49
def RdB(H:Aaa)(v:Value)(r:Rd):Prop:=∃b z o rm,v=ptr b 0/\H.get b=some (.cells o rm 6 (rdl r z) 49)/\SlC H 2 z (r.c.map Aer)
theorem SlC.oth{H K:Aaa}{S:List Nat}{v:Value}{rows:List (List Value)}(h:SlC H 2 v rows)(k:Chg S H K)(hS:∀b∈S,∀o r z C T,H.get b=some (.cells o r z C T)->z≠2):SlC K 2 v rows:=by
 rcases h.c with e|⟨b',o,q,e⟩|⟨b',n,m,o,r,c,u,e1,e2,e3⟩
 ·exact h.chg k fun b hb=>by subst e;cases hb
 ·subst e
  have hl:=h.s.len
  have:rows=[]:=List.eq_nil_of_length_eq_zero hl.symm
  subst this
  exact⟨⟨⟨_,_,rfl⟩,by simp,by simp[Abf]⟩,.inr (.inl ⟨_,_,_,rfl⟩)⟩
 ·exact h.chg k fun b hb hm=>by subst e1;cases hb;exact(hS _ hm _ _ _ _ _ e3) rfl
theorem RdB.oth{H K:Aaa}{S:List Nat}{v:Value}{r:Rd}(h:RdB H v r)(k:Chg S H K)(hS:OtR H S):RdB K v r:=by
 obtain⟨b,z,o,rm,rfl,g,hz⟩:=h
 exact⟨b,z,o,rm,rfl,k.at_ g (fun hm=>(hS b hm _ _ _ _ _ g).2 rfl),hz.oth k fun b hb o r z C T e=>(hS b hb o r z C T e).1⟩
theorem RdB.ne{H K:Aaa}{S:List Nat}{p:Nat}{r:Rd}(h:RdB H (ptr p 0) r)(k:Chg S H K)(hp:p∉S)(hS:∀b∈S,∀o r z C T,H.get b=some (.cells o r z C T)->z≠2):RdB K (ptr p 0) r:=by
 obtain⟨b,z,o,rm,e,g,hz⟩:=h
 cases e
 exact⟨p,z,o,rm,rfl,k.at_ g hp,hz.oth k hS⟩
def pR(H:Aaa)(v:Value)(o:Option Rd):Prop:=match o with
 |none=>v=.pointer none
 |some r=>RdB H v r
theorem pR.oth{H K:Aaa}{S:List Nat}{v:Value}{o:Option Rd}(h:pR H v o)(k:Chg S H K)(hS:OtR H S):pR K v o:=by
 cases o with
 |none=>exact h
 |some r=>exact RdB.oth h k hS
theorem pR.one{H:Aaa}{v:Value}{o:Option Rd}(h:pR H v o):v.oneCell'=true:=by
 cases o with
 |none=>rw[show v=_ from h];rfl
 |some r=>obtain⟨_,_,_,_,rfl,_⟩:=h;rfl
structure Sd where
 ch:Int
 cy:Int
 own:Option Rd
 other:Option Rd
 kept:Option Rd
 br:Bool
def ROk(r:Rd):Prop:=r.c.length<=1000/\∀c∈r.c,0<=c.1/\c.1<256
structure SOk (s:Sd):Prop where
 own:∀r,s.own=some r->ROk r
 other:∀r,s.other=some r->ROk r/\r.cy=s.cy
 kept:∀r,s.kept=some r->ROk r
def AgR(H:Aaa)(b:Nat)(s:Sd):Prop:=∃vo vt vk,H.get b=some (.cells true false 6 [.int .i64 s.ch,.int .i64 s.cy,vo,vt,vk,.bool s.br] 144)/\pR H vo s.own/\pR H vt s.other/\pR H vk s.kept
theorem AgR.oth{H K:Aaa}{S:List Nat}{b:Nat}{s:Sd}(h:AgR H b s)(k:Chg S H K)(hb:b∉S)(hS:OtR H S):AgR K b s:=by
 obtain⟨vo,vt,vk,g,a,c,d⟩:=h
 exact⟨vo,vt,vk,k.at_ g hb,a.oth k hS,c.oth k hS,d.oth k hS⟩
theorem AgR.keeps{H K:Aaa}{b:Nat}{s:Sd}(h:AgR H b s)(k:Aac H K):AgR K b s:=h.oth (k.chg []) (by simp) (fun b hb=>by cases hb)
theorem AgR.otr{H:Aaa}{b:Nat}{s:Sd}(h:AgR H b s):OtR H [b]:=by
 obtain⟨vo,vt,vk,g,_⟩:=h
 intro c hc o r z C T e
 simp only[List.mem_cons,List.not_mem_nil,or_false]at hc
 subst hc;rw[g]at e;cases e
 exact⟨by decide,by decide⟩
def sd0(ch:Int):Sd:=⟨ch,0,none,none,none,false⟩
theorem Aob(ch:Int):SOk (sd0 ch):=⟨by simp[sd0],by simp[sd0],by simp[sd0]⟩
theorem A4o(ch:Int):Aau [.int .i64 0,.int .i64 0,.pointer none,.pointer none,.pointer none,.bool false] [(0,1,.int .i64 ch)]=some [.int .i64 ch,.int .i64 0,.pointer none,.pointer none,.pointer none,.bool false]:=rfl
theorem t29{H:Aaa}{ch:Int}(hc:ch=0\/ch=1):∃w K,Aaq Tryz.prog 0 29 [.int .i64 ch] H w K/\w=ptr H.n 0/\Aac H K/\AgR K H.n (sd0 ch):=by
 refine Aam f29 ?_
 intro Q hq1 hq2
 rcases hc with rfl|rfl
 all_goals
  simp(disch:=first|assumption|omega)only[f29,P4,seval,A4o]
  exact hq2 _ _ ⟨ptr H.n 0,rfl,rfl,(Aac.refl H).alloc _,_,_,_,Aaa.Bfd H _,rfl,rfl,rfl⟩
def Ai8(s:Sd)(cy:Int)(x:Inp)(cs:List (Int×Int)):Sd:=if cy<=s.cy then s else
 {s with cy:=cy,own:=some ⟨s.ch,cy,x,cs⟩,br:=false,other:=s.kept.filter fun k=>decide (k.cy=cy),kept:=s.kept.filter fun k=>decide (cy<k.cy)}
def Ait(s:Sd)(cy:Int)(x:Inp)(cs:List (Int×Int)):Rd:=if cy<=s.cy then R0 else⟨s.ch,cy,x,cs⟩
def Ajx(s:Sd)(cy:Int):Int:=if cy<=s.cy then 2 else 0
theorem Ar8{s:Sd}{cy:Int}{x:Inp}{cs:List (Int×Int)}(h:SOk s)(h1:cs.length<=1000)(h2:∀c∈cs,0<=c.1/\c.1<256):SOk (Ai8 s cy x cs):=by
 unfold Ai8
 split
 ·exact h
 ·refine⟨fun r e=>by cases e;exact⟨h1,h2⟩,fun r e=>?_,fun r e=>?_⟩
  ·obtain⟨e1,e2⟩:=Option.filter_eq_some_iff.1 e
   exact⟨h.kept r e1,by simpa using e2⟩
  ·exact h.kept r (Option.filter_eq_some_iff.1 e).1
theorem Aoc(a b:Int)(c d e:Nat->Bool)(v:Value):Aau [.int .i64 0,.int .i64 0,.int .u64 0,.int .u32 0,.int .u32 0,.slice none 0 0] [(0,1,.int .i64 a),(1,1,.int .i64 b),(2,4,.agg #[S64 c,S32 d,S32 e,v])]=some [.int .i64 a,.int .i64 b,S64 c,S32 d,S32 e,v]:=rfl
theorem Agp:Aau [.int .i64 0,.int .i64 0,.int .u64 0,.int .u32 0,.int .u32 0,.slice none 0 0] []=some [.int .i64 0,.int .i64 0,.int .u64 0,.int .u32 0,.int .u32 0,.slice none 0 0]:=rfl
theorem Adj{K:Aaa}{fr:List Value}{n i j p T:Nat}{o r:Bool}{c:List Value}{w:Value}(g:K.get p=some (.cells o r n c T))(hl:c.length=n)(h1:fr.getD i undef=ptr p 0)(h2:fr.getD j undef=w):Ack [.cn n i,.t j] fr K=some (.tuple #[.agg c.toArray,w]):=by
 simp only[Ack,Af0,RX.get,h1,h2]
 rw[Ace,Abe,g,Aa9 hl]
 rfl
theorem u37{B H:Aaa}{b:Nat}{s:Sd}{cy:Int}{x:Inp}{v:Value}{cs:List (Int×Int)}(h:AgR B b s)(kB:Aac B H)(hv:SlC H 2 v (cs.map Aer))(hcl:cs.length<=1000):
 ∃w K,Aaq Tryz.prog 0 37 [ptr b 0,.int .i64 cy,.agg (inl x v).toArray] H w K/\Chg [b] H K/\(∀S K',Chg S K K'->b∉S->(∀x∈S,B.n<=x/\x<H.n/\∀o r z C T,K.get x=some (.cells o r z C T)->z≠2)->AgR K' b (Ai8 s cy x cs))/\∃z,w=.tuple #[.agg (rdl (Ait s cy x cs) z).toArray,.int .i64 (Ajx s cy)]/\SlC K 2 z ((Ait s cy x cs).c.map Aer):=by
 refine Aam f37 ?_
 intro Q hq1 hq2
 have hbB:=h.otr
 have hb:=(h.keeps kB).otr
 obtain⟨vo,vt,vk,gB,po,pt,pk⟩:=h
 have g:=kB.at_ gB
 have lb:=Aaa.Bfg g
 have toB:∀{K K':Aaa} {S:List Nat},Chg [b] H K->Chg S K K'->(∀x∈S,B.n<=x/\x<H.n/\∀o r z C T,K.get x=some (.cells o r z C T)->z≠2)->Chg [b] B K':=fun c1 c2 hS=>((kB.chg [b]).trans c1 (by simp)).trans c2 fun x hx=>.inr (hS x hx).1
 have hc:CL H v cs:=hv.s
 have oc:=Sl.one hc
 have oo:=po.one
 have ot:=pt.one
 have ok:=pk.one
 have e1:inl x v=[S64 x.oc,S32 x.nr,S32 x.rv,v]:=rfl
 rw[e1]
 by_cases hle:cy<=s.cy
 ·have eS:Ai8 s cy x cs=s:=by unfold Ai8;rw[if_pos hle]
  have eR:Ait s cy x cs=R0:=by unfold Ait;rw[if_pos hle]
  have eE:Ajx s cy=2:=by unfold Ajx;rw[if_pos hle]
  simp only[eS,eR,eE,Alu]at hq1 hq2
  simp(disch:=first|assumption|omega|(simp only[LN]<;>omega)|(simp(disch:=first|assumption|omega|(simp only[LN]<;>omega))only[Aab,Aad];assumption))only[f37,P4,seval,oc,O4,g,hle,Agp]
  have kA:=((Aac.refl H).alloc (.cells true false 4 [S64 x.oc,S32 x.nr,S32 x.rv,v] 46)).alloc (.cells true false 6 [.int .i64 0,.int .i64 0,.int .u64 0,.int .u32 0,.int .u32 0,.slice none 0 0] 49)
  exact hq2 _ _ ⟨_,Adj (p:=H.n+1) (Aaa.Bfd (H.alloc _) _) rfl rfl rfl,kA.chg _,fun S K' c hbS hS=>⟨vo,vt,vk,c.at_ (kA.at_ g) hbS,po.oth (toB (kA.chg _) c hS) hbB,pt.oth (toB (kA.chg _) c hS) hbB,pk.oth (toB (kA.chg _) c hS) hbB⟩,.slice none 0 0,rfl,Sl.nil _ _,.inl rfl⟩
 have eR:Ait s cy x cs=⟨s.ch,cy,x,cs⟩:=by unfold Ait;rw[if_neg hle]
 have eE:Ajx s cy=0:=by unfold Ajx;rw[if_neg hle]
 have eS:Ai8 s cy x cs={s with cy:=cy,own:=some ⟨s.ch,cy,x,cs⟩,br:=false,other:=s.kept.filter fun k=>decide (k.cy=cy),kept:=s.kept.filter fun k=>decide (cy<k.cy)}:=by unfold Ai8;rw[if_neg hle]
 simp only[eR,eE,eS]at hq1 hq2
 have er:∀z,rdl ⟨s.ch,cy,x,cs⟩ z=[.int .i64 s.ch,.int .i64 cy,S64 x.oc,S32 x.nr,S32 x.rv,z]:=fun _=>rfl
 obtain⟨K0,hK0⟩:∃X,X=((H.alloc (.cells true false 4 [S64 x.oc,S32 x.nr,S32 x.rv,v] 46)).alloc (.cells true false 6 [.int .i64 0,.int .i64 0,.int .u64 0,.int .u32 0,.int .u32 0,.slice none 0 0] 49)).alloc (.cells true false 6 (rdl ⟨s.ch,cy,x,cs⟩ v) 49):=⟨_,rfl⟩
 have k0:Aac H K0:=by rw[hK0];exact(((Aac.refl H).alloc _).alloc _).alloc _
 have n0:K0.n=H.n+3:=by rw[hK0];rfl
 have g1:K0.get (H.n+1)=some (.cells true false 6 [.int .i64 0,.int .i64 0,.int .u64 0,.int .u32 0,.int .u32 0,.slice none 0 0] 49):=by rw[hK0];exact((Aac.refl _).alloc _).at_ (Aaa.Bfd (H.alloc _) _)
 have g2:K0.get (H.n+2)=some (.cells true false 6 (rdl ⟨s.ch,cy,x,cs⟩ v) 49):=by rw[hK0];exact Aaa.Bfd ((H.alloc _).alloc _) _
 have tC:=t71 (r:=⟨s.ch,cy,x,cs⟩) (hc.keeps k0) (by show cs.length<=_;omega)
 rw[er]at hK0 g2 tC
 refine Aco 5 (fun fr Z=>∃vt vk x7 x8 x9 x10 x11 Y,fr=[ptr b 0,.int .i64 cy,.agg #[S64 x.oc,S32 x.nr,S32 x.rv,v],ptr H.n 0,ptr (H.n+1) 0,.int .i64 0,ptr (H.n+2) 0,x7,x8,x9,x10,x11]/\Aac K0 Y/\Chg [b] Y Z/\RdB Y (ptr (H.n+3) 0) ⟨s.ch,cy,x,cs⟩∧
  Z.get b=some (.cells true false 6 [.int .i64 s.ch,.int .i64 cy,ptr (H.n+3) 0,vt,vk,.bool false] 144)/\pR B vt (s.kept.filter fun k=>decide (k.cy=cy))/\pR B vk (s.kept.filter fun k=>decide (cy<k.cy))) (by kernel_rfl) ?_ ?_
 ·intro Q' hn _ _
  simp(disch:=first|assumption|omega|(simp only[LN]<;>omega)|(simp(disch:=first|assumption|omega|(simp only[LN]<;>omega))only[Aab,Aad];assumption))only[f37,Aeu,P4,seval,oc,O4,g,hle,Aoc]
  rw[<-hK0]
  refine Aae tC ?_
  rintro _ Y ⟨z,rfl,gz,nc⟩
  rw[n0]at gz
  have kY:=nc.k
  have gY:=(k0.trans kY).at_ g
  have lY:=Aaa.Bfg gY
  have rY:RdB Y (ptr (H.n+3) 0) ⟨s.ch,cy,x,cs⟩:=⟨_,z,_,_,rfl,by rw[er];exact gz,nc.c⟩
  have cY:=fun o=>Chg.set Y lY o
  cases hk:s.kept with
  |none=>
   rw[hk]at pk
   have:vk=.pointer none:=pk
   subst this
   rw[hk]at hn
   simp(disch:=first|assumption|omega)only[P4,seval,n0,gY,oo,ot]
   exact hn _ _ ⟨_,_,_,_,_,_,_,Y,rfl,kY,cY _,rY,Aaa.Bfe gY _,rfl,rfl⟩
  |some k=>
   rw[hk]at pk
   have pk0:RdB B vk k:=pk
   obtain⟨bk,zk,ow,rm,rfl,gk,sk⟩:=pk0
   have hne:bk≠b:=fun e=>by subst e;exact(hbB bk (by simp) _ _ _ _ _ gk).2 rfl
   have gkY:=((kB.trans k0).trans kY).at_ gk
   have ek:rdl k zk=[.int .i64 k.ch,.int .i64 k.cy,S64 k.x.oc,S32 k.x.nr,S32 k.x.rv,zk]:=rfl
   rw[ek]at gkY
   rcases Int.lt_trichotomy cy k.cy with hlt|heq|hgt
   ·have h1:¬k.cy<=cy:=by omega
    have f1:(Option.filter (fun k:Rd=>decide (k.cy=cy)) (some k))=none:=by simp;omega
    have f2:(Option.filter (fun k:Rd=>decide (cy<k.cy)) (some k))=some k:=by simp;omega
    rw[hk,f1,f2]at hn
    simp(disch:=first|assumption|omega)only[P4,seval,n0,gY,oo,ot,gkY,hne,h1]
    exact hn _ _ ⟨_,_,_,_,_,_,_,Y,rfl,kY,cY _,rY,Aaa.Bfe gY _,rfl,pk⟩
   ·have h1:k.cy<=cy:=by omega
    have h2:k.cy=cy:=by omega
    have f1:(Option.filter (fun k:Rd=>decide (k.cy=cy)) (some k))=some k:=by simp;omega
    have f2:(Option.filter (fun k:Rd=>decide (cy<k.cy)) (some k))=none:=by simp;omega
    rw[hk,f1,f2]at hn
    simp(disch:=first|assumption|omega)only[P4,seval,n0,gY,oo,ot,gkY,hne,h1,h2]
    exact hn _ _ ⟨_,_,_,_,_,_,_,Y,rfl,kY,cY _,rY,Aaa.Bfe gY _,pk,rfl⟩
   ·have h1:k.cy<=cy:=by omega
    have h2:¬k.cy=cy:=by omega
    have f1:(Option.filter (fun k:Rd=>decide (k.cy=cy)) (some k))=none:=by simp;omega
    have f2:(Option.filter (fun k:Rd=>decide (cy<k.cy)) (some k))=none:=by simp;omega
    rw[hk,f1,f2]at hn
    simp(disch:=first|assumption|omega)only[P4,seval,n0,gY,oo,ot,gkY,hne,h1,h2]
    exact hn _ _ ⟨_,_,_,_,_,_,_,Y,rfl,kY,cY _,rY,Aaa.Bfe gY _,rfl,rfl⟩
 ·rintro fr Z ⟨vt,vk,x7,x8,x9,x10,x11,Y,rfl,kY,cZ,rY,gZ,pt,pk⟩
  have g2Z:=cZ.at_ (kY.at_ g2) (by simp;omega)
  have g1Z:=cZ.at_ (kY.at_ g1) (by simp;omega)
  have hbY:OtR Y [b]:=fun c hm o r z C T e=>hb c hm o r z C T (by
   simp only[List.mem_cons,List.not_mem_nil,or_false]at hm
   subst hm;rwa [(k0.trans kY).get _ lb]at e)
  have cHZ:=(k0.trans kY).chg [b] |>.trans cZ (by simp)
  have hcZ:SlC Z 2 v (cs.map Aer):=hv.oth cHZ fun c hm o r z C T e=>(hb c hm o r z C T e).1
  have tD:=t71 (r:=⟨s.ch,cy,x,cs⟩) hcZ.s (by show cs.length<=_;omega)
  rw[er]at tD
  simp(disch:=first|assumption|omega|(simp only[LN]<;>omega)|(simp(disch:=first|assumption|omega|(simp only[LN]<;>omega))only[Aab,Aad];assumption))only[f37,Ab1,P4,seval,g2Z]
  refine Aae tD ?_
  rintro _ V ⟨z,rfl,gz,nc⟩
  rw[er]at gz
  have kV:=nc.k
  have g1V:=kV.at_ g1Z
  have l1V:=Aaa.Bfg g1V
  have oz:=Sl.one nc.c.s
  simp(disch:=first|assumption|omega|(simp only[LN]<;>omega)|(simp(disch:=first|assumption|omega|(simp only[LN]<;>omega))only[Aab,Aad];assumption))only[P4,seval,gz,g1V,oz,O4]
  have cV:=Chg.set V l1V (.cells true false 6 [.int .i64 s.ch,.int .i64 cy,S64 x.oc,S32 x.nr,S32 x.rv,z] 49)
  have n1:=kY.n
  have n2:=cZ.n
  have n3:=kV.n
  have fz:∀b,blk z=some b->Z.n<=b:=nc.f
  have rZ:=rY.oth cZ hbY
  have cAll:=cHZ.trans (kV.chg [b]) (by simp) |>.trans (cV.mono (T:=[b,H.n+1]) (by simp)) (by simp)
  have cA:Chg [b] H (V.set (H.n+1) (.cells true false 6 [.int .i64 s.ch,.int .i64 cy,S64 x.oc,S32 x.nr,S32 x.rv,z] 49)):=⟨cAll.n,fun c h1 h2=>cAll.get c h1 (by simp at h2 ⊢;omega)⟩
  have o1:∀c∈[H.n+1],∀o r z C T,V.get c=some (.cells o r z C T)->z≠2:=fun c hm o r y C T e=>by
   simp only[List.mem_cons,List.not_mem_nil,or_false]at hm
   subst hm;rw[g1V]at e;cases e;decide
  have rF:=(rZ.oth (kV.chg []) (fun c h=>by cases h)).ne cV (by simp) o1
  have gF:=(Aaa.Bff V (by omega) l1V (.cells true false 6 [.int .i64 s.ch,.int .i64 cy,S64 x.oc,S32 x.nr,S32 x.rv,z] 49)).trans (kV.at_ gZ)
  exact hq2 _ _ ⟨_,Adj (p:=H.n+1) (Aaa.Bfe g1V _) rfl rfl rfl,cA,fun S K' c hbS hS=>⟨_,_,_,c.at_ gF hbS,rF.ne c (fun hm=>by have:=(hS _ hm).2.1;omega) (fun x hx=>(hS x hx).2.2),pt.oth (toB cA c hS) hbB,pk.oth (toB cA c hS) hbB⟩,z,rfl,nc.c.chg cV (fun c h1 h2=>by have:=fz c h1;simp at h2;omega)⟩
def Ai9(s:Sd):Bool:=s.own.isSome&&(s.other.isSome&& !s.br)
def Aby(s:Sd):Inp:=match s.own,s.other,s.br with
 |some a,some c,false=>Ae9 a.x c.x
 |_,_,_=>X0
def Aja(s:Sd):List (Int×Int):=match s.own,s.other,s.br with
 |some a,some c,false=>Ajj a.c c.c
 |_,_,_=>[]
theorem Aep:Aau [.int .u64 0,.int .u32 0,.int .u32 0,.slice none 0 0] []=some [.int .u64 0,.int .u32 0,.int .u32 0,.slice none 0 0]:=rfl
theorem t39{H:Aaa}{b:Nat}{s:Sd}(h:AgR H b s)(hs:SOk s):∃w K,Aaq Tryz.prog 0 39 [ptr b 0] H w K/\∃z,w=.tuple #[.agg (inl (Aby s) z).toArray,.bool (Ai9 s)]/\Ap0 H K z (Aja s):=by
 refine Aam f39 ?_
 intro Q hq1 hq2
 obtain⟨vo,vt,vk,g,po,pt,pk⟩:=h
 have lb:=Aaa.Bfg g
 have kA:=(Aac.refl H).alloc (.cells true false 4 [.int .u64 0,.int .u32 0,.int .u32 0,.slice none 0 0] 46)
 have gA:=Aaa.Bfd H (.cells true false 4 [.int .u64 0,.int .u32 0,.int .u32 0,.slice none 0 0] 46)
 have no:Aby s=X0->Aja s=[]->Ai9 s=false->∀{fr:List Value},fr.getD 1 undef=ptr H.n 0->fr.getD 2 undef=.bool false->Q .ret fr (H.alloc (.cells true false 4 [.int .u64 0,.int .u32 0,.int .u32 0,.slice none 0 0] 46)):=fun e1 e2 e3 fr h1 h2=>by
  simp only[e1,e2,e3,A4n]at hq2
  exact hq2 _ _ ⟨_,Adj (p:=H.n) gA rfl h1 h2,.slice none 0 0,rfl,kA,⟨Sl.nil _ _,.inl rfl⟩,fun b hb=>by cases hb⟩
 cases ho:s.own with
 |none=>
  rw[ho]at po
  have:vo=.pointer none:=po
  subst this
  simp(disch:=first|assumption|omega|(simp only[LN]<;>omega)|(simp(disch:=first|assumption|omega|(simp only[LN]<;>omega))only[Aab,Aad];assumption))only[f39,P4,seval,g,Aep]
  exact no (by unfold Aby;rw[ho]) (by unfold Aja;rw[ho]) (by unfold Ai9;rw[ho];rfl) rfl rfl
 |some a=>
 rw[ho]at po
 obtain⟨ba,za,oa,ra,rfl,ga,sa⟩:=(show RdB H vo a from po)
 cases ht:s.other with
 |none=>
  rw[ht]at pt
  have:vt=.pointer none:=pt
  subst this
  simp(disch:=first|assumption|omega|(simp only[LN]<;>omega)|(simp(disch:=first|assumption|omega|(simp only[LN]<;>omega))only[Aab,Aad];assumption))only[f39,P4,seval,g,Aep]
  exact no (by unfold Aby;rw[ho,ht]) (by unfold Aja;rw[ho,ht]) (by unfold Ai9;rw[ho,ht];rfl) rfl rfl
 |some c=>
 rw[ht]at pt
 obtain⟨bc,zc,oc,rc,rfl,gc,sc⟩:=(show RdB H vt c from pt)
 cases hbr:s.br with
 |true=>
  rw[hbr]at g
  simp(disch:=first|assumption|omega|(simp only[LN]<;>omega)|(simp(disch:=first|assumption|omega|(simp only[LN]<;>omega))only[Aab,Aad];assumption))only[f39,P4,seval,g,Aep]
  exact no (by unfold Aby;rw[ho,ht,hbr]) (by unfold Aja;rw[ho,ht,hbr]) (by unfold Ai9;rw[ho,ht,hbr];rfl) rfl rfl
 |false=>
 rw[hbr]at g
 have e1:Aby s=Ae9 a.x c.x:=by unfold Aby;rw[ho,ht,hbr]
 have e2:Aja s=Ajj a.c c.c:=by unfold Aja;rw[ho,ht,hbr]
 have e3:Ai9 s=true:=by unfold Ai9;rw[ho,ht,hbr];rfl
 simp only[e1,e2,e3]at hq1 hq2
 have ga':=kA.at_ ga
 have gc':=kA.at_ gc
 have tM:=t74 (x:=a.x) (y:=c.x) (sa.keeps kA).s (sc.keeps kA).s (by have:=(hs.own a ho).1;omega) (by have:=(hs.other c ht).1.1;omega)
 have la:=Aaa.Bfg ga
 have lc:=Aaa.Bfg gc
 have ea:∀z,inl a.x z=[S64 a.x.oc,S32 a.x.nr,S32 a.x.rv,z]:=fun _=>rfl
 have ec:∀z,inl c.x z=[S64 c.x.oc,S32 c.x.nr,S32 c.x.rv,z]:=fun _=>rfl
 simp only[ea,ec]at tM
 have era:∀z,rdl a z=[.int .i64 a.ch,.int .i64 a.cy,S64 a.x.oc,S32 a.x.nr,S32 a.x.rv,z]:=fun _=>rfl
 have erc:∀z,rdl c z=[.int .i64 c.ch,.int .i64 c.cy,S64 c.x.oc,S32 c.x.nr,S32 c.x.rv,z]:=fun _=>rfl
 rw[era]at ga ga'
 rw[erc]at gc gc'
 simp(disch:=first|assumption|omega|(simp only[LN]<;>omega)|(simp(disch:=first|assumption|omega|(simp only[LN]<;>omega))only[Aab,Aad];assumption))only[f39,P4,seval,g,ga,gc,Aep]
 refine Aae tM ?_
 rintro _ V ⟨z,rfl,nc⟩
 have kV:=nc.k
 have gV:=kV.at_ gA
 have lV:=Aaa.Bfg gV
 have oz:=Sl.one nc.c.s
 have em:∀z,inl (Ae9 a.x c.x) z=[S64 (Ae9 a.x c.x).oc,S32 (Ae9 a.x c.x).nr,S32 (Ae9 a.x c.x).rv,z]:=fun _=>rfl
 simp only[em]at hq2 ⊢
 simp(disch:=first|assumption|omega|(simp only[LN]<;>omega)|(simp(disch:=first|assumption|omega|(simp only[LN]<;>omega))only[Aab,Aad];assumption))only[P4,seval,gV,oz,O4]
 have fz:∀b,blk z=some b->H.n+1<=b:=nc.f
 have cV:=Chg.set V lV (.cells true false 4 [S64 (Ae9 a.x c.x).oc,S32 (Ae9 a.x c.x).nr,S32 (Ae9 a.x c.x).rv,z] 46)
 exact hq2 _ _ ⟨_,Adj (p:=H.n) (Aaa.Bfe gV _) rfl rfl rfl,z,rfl,(kA.trans kV).Bfh cV (by simp),nc.c.chg cV (fun b h1 h2=>by have:=fz b h1;simp at h2;omega),fun b h1=>by have:=fz b h1;omega⟩
theorem t40{H:Aaa}{b:Nat}{s:Sd}(h:AgR H b s):∃w K,Aaq Tryz.prog 0 40 [ptr b 0] H w K/\w=.int .i64 s.cy/\K=H:=by
 refine Aam f40 ?_
 intro Q hq1 hq2
 obtain⟨vo,vt,vk,g,po,pt,pk⟩:=h
 simp(disch:=first|assumption|omega)only[f40,P4,seval,g]
 exact hq2 _ _ ⟨.int .i64 s.cy,rfl,rfl,rfl⟩
theorem t72{H:Aaa}{v:Value}{a r:Rd}{p T:Nat}{z:Value}{o rm:Bool}(ha:RdB H v a)(g:H.get p=some (.cells o rm 6 (rdl r z) T))(hz:CL H z r.c)(la:a.c.length<=1000)(lr:r.c.length<=1000):
 ∃w K,Aaq Tryz.prog 0 72 [v,ptr p 0] H w K/\w=.bool (decide (a.cy=r.cy)&&Akx a.x a.c r.x r.c)/\K=H:=by
 refine Aam f72 ?_
 intro Q hq1 hq2
 obtain⟨ba,za,oa,ra,rfl,ga,sa⟩:=ha
 have tS:=t73 (x:=a.x) (y:=r.x) sa.s hz (by omega) (by omega)
 have ea:∀z,inl a.x z=[S64 a.x.oc,S32 a.x.nr,S32 a.x.rv,z]:=fun _=>rfl
 have ec:∀z,inl r.x z=[S64 r.x.oc,S32 r.x.nr,S32 r.x.rv,z]:=fun _=>rfl
 simp only[ea,ec]at tS
 have era:∀z,rdl a z=[.int .i64 a.ch,.int .i64 a.cy,S64 a.x.oc,S32 a.x.nr,S32 a.x.rv,z]:=fun _=>rfl
 have erc:∀z,rdl r z=[.int .i64 r.ch,.int .i64 r.cy,S64 r.x.oc,S32 r.x.nr,S32 r.x.rv,z]:=fun _=>rfl
 rw[era]at ga
 rw[erc]at g
 by_cases e:a.cy=r.cy
 ·have hd:decide (a.cy=r.cy)=true:=by simp[e]
  simp(disch:=first|assumption|omega|(simp only[LN]<;>omega)|(simp(disch:=first|assumption|omega|(simp only[LN]<;>omega))only[Aab,Aad];assumption))only[f72,P4,seval,ga,g,e]
  refine Aae tS ?_
  rintro _ X ⟨rfl,hX⟩
  rw[hX]
  simp(disch:=first|assumption|omega)only[P4,seval]
  exact hq2 _ _ ⟨.bool _,rfl,by rw[hd];simp,rfl⟩
 ·have hd:decide (a.cy=r.cy)=false:=by simp[e]
  simp(disch:=first|assumption|omega)only[f72,P4,seval,ga,g,e]
  exact hq2 _ _ ⟨.bool false,rfl,by rw[hd];rfl,rfl⟩
def Aeq(s:Sd)(r:Rd):Int:=if r.ch≠IntKind.i64.wrap (1-s.ch)then 2 else if r.cy<s.cy then 190 else if s.cy<r.cy then
 (match s.kept with
 |none=>0
 |some k=>if k.cy<r.cy then 0 else if decide (k.cy=r.cy)&&Akx k.x k.c r.x r.c then 0 else 4)
 else match s.other with
  |none=>0
  |some o=>if Akx o.x o.c r.x r.c then 0 else 4
def Aec(s:Sd)(r:Rd):Sd:=if r.ch≠IntKind.i64.wrap (1-s.ch)then s else if r.cy<s.cy then s else if s.cy<r.cy then
 (match s.kept with
 |none=>{s with kept:=some r}
 |some k=>if k.cy<r.cy then{s with kept:=some r}else s)
 else match s.other with
  |none=>{s with other:=some r}
  |some o=>if Akx o.x o.c r.x r.c then s else{s with br:=true}
theorem Ar9{s:Sd}{r:Rd}(h:SOk s)(hr:ROk r):SOk (Aec s r):=by
 unfold Aec
 split
 ·exact h
 split
 ·exact h
 split
 ·split
  ·exact⟨h.own,h.other,fun q e=>by cases e;exact hr⟩
  ·split
   ·exact⟨h.own,h.other,fun q e=>by cases e;exact hr⟩
   ·exact h
 ·rename_i h1 h2 h3
  split
  ·exact⟨h.own,fun q e=>by cases e;exact⟨hr,by show r.cy=s.cy;omega⟩,h.kept⟩
  ·split
   ·exact h
   ·exact⟨h.own,h.other,h.kept⟩
theorem t38{H:Aaa}{b:Nat}{s:Sd}{r:Rd}{v:Value}(h:AgR H b s)(hs:SOk s)(hr:ROk r)(hv:SlC H 2 v (r.c.map Aer)):
 ∃w K,Aaq Tryz.prog 0 38 [ptr b 0,.iface 49 (.agg (rdl r v).toArray)] H w K/\w=.int .i64 (Aeq s r)/\Chg [b] H K/\AgR K b (Aec s r):=by
 refine Aam f38 ?_
 intro Q hq1 hq2
 have hb:=h.otr
 have hA:=h
 obtain⟨vo,vt,vk,g,po,pt,pk⟩:=h
 have lb:=Aaa.Bfg g
 have ov:=Sl.one hv.s
 have oo:=po.one
 have ot:=pt.one
 have ok:=pk.one
 have er:∀z,rdl r z=[.int .i64 r.ch,.int .i64 r.cy,S64 r.x.oc,S32 r.x.nr,S32 r.x.rv,z]:=fun _=>rfl
 obtain⟨K0,hK0⟩:∃X,X=H.alloc (.cells true false 6 (rdl r v) 49):=⟨_,rfl⟩
 have k0:Aac H K0:=by rw[hK0];exact(Aac.refl H).alloc _
 have n0:K0.n=H.n+1:=by rw[hK0];rfl
 have g0:K0.get H.n=some (.cells true false 6 (rdl r v) 49):=by rw[hK0];exact Aaa.Bfd H _
 have gb0:=k0.at_ g
 have g0':=g0
 rw[er]at hK0 g0'
 have same:Aec s r=s->∀{fr:List Value} {e:Int} {K:Aaa},Aac H K->Aeq s r=e->fr.getD 2 undef=.int .i64 e->Q .ret fr K:=fun e1 fr e K k e2 h1=>by
  rw[e1,e2]at hq2
  exact hq2 _ _ ⟨.int .i64 e,by show some (Ae8 [fr.getD 2 undef])=_;rw[h1];rfl,rfl,k.chg _,hA.keeps k⟩
 have tC:=t71 (hv.keeps k0).s (by have:=hr.1;omega)
 rw[er]at tC
 have rdY:∀{Y:Aaa} {z:Value},Y.get K0.n=some (.cells true false 6 (rdl r z) 49)->Ap0 K0 Y z r.c->∀o,RdB (Y.set b o) (ptr K0.n 0) r:=fun{Y z} g nc o=>by
  have gY:=nc.k.at_ gb0
  have fz:∀b,blk z=some b->K0.n<=b:=nc.f
  exact⟨K0.n,z,_,_,rfl,(Aaa.Bff Y (by omega) (Aaa.Bfg gY) _).trans g,nc.c.chg (Chg.set Y (Aaa.Bfg gY) o) (fun c h1 h2=>by have:=fz c h1;simp at h2;omega)⟩
 have cY:∀{Y:Aaa},Aac K0 Y->∀o,Chg [b] H (Y.set b o):=fun{Y} k o=>((k0.trans k).chg [b]).trans (Chg.set Y (Aaa.Bfg (k.at_ gb0)) o) (by simp)
 rw[er]
 by_cases h1:r.ch=IntKind.i64.wrap (1-s.ch)
 case neg=>
  have e1:Aec s r=s:=by unfold Aec;rw[if_pos h1]
  have e2:Aeq s r=2:=by unfold Aeq;rw[if_pos h1]
  simp(disch:=first|assumption|omega|(simp only[LN]<;>omega)|(simp(disch:=first|assumption|omega|(simp only[LN]<;>omega))only[Aab,Aad];assumption))only[f38,P4,seval,ov,O4,g]
  rw[<-hK0]
  exact same e1 k0 e2 rfl
 case pos=>
 have en:¬r.ch≠IntKind.i64.wrap (1-s.ch):=fun e=>e h1
 by_cases h2:r.cy<s.cy
 ·have e1:Aec s r=s:=by unfold Aec;rw[if_neg en,if_pos h2]
  have e2:Aeq s r=190:=by unfold Aeq;rw[if_neg en,if_pos h2]
  simp(disch:=first|assumption|omega|(simp only[LN]<;>omega)|(simp(disch:=first|assumption|omega|(simp only[LN]<;>omega))only[Aab,Aad];assumption))only[f38,P4,seval,ov,O4,g,h2]
  rw[<-hK0]
  exact same e1 k0 e2 rfl
 by_cases h3:s.cy<r.cy
 ·cases hk:s.kept with
  |none=>
   have e1:Aec s r={s with kept:=some r}:=by unfold Aec;rw[if_neg en,if_neg h2,if_pos h3,hk]
   have e2:Aeq s r=0:=by unfold Aeq;rw[if_neg en,if_neg h2,if_pos h3,hk]
   rw[hk]at pk
   have:vk=.pointer none:=pk
   subst this
   simp(disch:=first|assumption|omega|(simp only[LN]<;>omega)|(simp(disch:=first|assumption|omega|(simp only[LN]<;>omega))only[Aab,Aad];assumption))only[f38,P4,seval,ov,O4,g,h2,h3]
   rw[<-hK0]
   refine Aae tC ?_
   rintro _ Y ⟨z,rfl,gz,nc⟩
   have gY:=nc.k.at_ gb0
   have lY:=Aaa.Bfg gY
   simp(disch:=first|assumption|omega)only[P4,seval,gY,oo,ot]
   exact hq2 _ _ ⟨.int .i64 0,rfl,by rw[e2],cY nc.k _,by rw[e1];exact⟨_,_,_,Aaa.Bfe gY _,po.oth (cY nc.k _) hb,pt.oth (cY nc.k _) hb,rdY gz nc _⟩⟩
  |some k=>
   rw[hk]at pk
   obtain⟨bk,zk,ow,rm,rfl,gk,sk⟩:=(show RdB H vk k from pk)
   have gk0:=k0.at_ gk
   have ek:rdl k zk=[.int .i64 k.ch,.int .i64 k.cy,S64 k.x.oc,S32 k.x.nr,S32 k.x.rv,zk]:=rfl
   rw[ek]at gk gk0
   have lk:=Aaa.Bfg gk
   by_cases h4:k.cy<r.cy
   ·have e1:Aec s r={s with kept:=some r}:=by unfold Aec;rw[if_neg en,if_neg h2,if_pos h3,hk];simp only[h4,if_true]
    have e2:Aeq s r=0:=by unfold Aeq;rw[if_neg en,if_neg h2,if_pos h3,hk];simp only[h4,if_true]
    simp(disch:=first|assumption|omega|(simp only[LN]<;>omega)|(simp(disch:=first|assumption|omega|(simp only[LN]<;>omega))only[Aab,Aad];assumption))only[f38,P4,seval,ov,O4,g,h2,h3,gk,h4]
    rw[<-hK0]
    refine Aae tC ?_
    rintro _ Y ⟨z,rfl,gz,nc⟩
    have gY:=nc.k.at_ gb0
    have lY:=Aaa.Bfg gY
    simp(disch:=first|assumption|omega)only[P4,seval,gY,oo,ot]
    exact hq2 _ _ ⟨.int .i64 0,rfl,by rw[e2],cY nc.k _,by rw[e1];exact⟨_,_,_,Aaa.Bfe gY _,po.oth (cY nc.k _) hb,pt.oth (cY nc.k _) hb,rdY gz nc _⟩⟩
   ·have e1:Aec s r=s:=by unfold Aec;rw[if_neg en,if_neg h2,if_pos h3,hk];simp only[h4,if_false]
    have e2:Aeq s r=if decide (k.cy=r.cy)&&Akx k.x k.c r.x r.c then 0 else 4:=by unfold Aeq;rw[if_neg en,if_neg h2,if_pos h3,hk];simp only[h4,if_false]
    have tH:=t72 (a:=k) (RdB.oth pk (k0.chg []) (fun c hc=>by cases hc)) g0 (hv.keeps k0).s (hs.kept k hk).1 hr.1
    simp(disch:=first|assumption|omega|(simp only[LN]<;>omega)|(simp(disch:=first|assumption|omega|(simp only[LN]<;>omega))only[Aab,Aad];assumption))only[f38,P4,seval,ov,O4,g,h2,h3,gk,h4]
    rw[<-hK0]
    refine Aae tH ?_
    rintro _ X ⟨rfl,hX⟩
    rw[hX]
    cases hB:(decide (k.cy=r.cy)&&Akx k.x k.c r.x r.c)with
    |true=>
     rw[hB]at e2
     simp(disch:=first|assumption|omega)only[P4,seval]
     exact same e1 k0 e2 rfl
    |false=>
     rw[hB]at e2
     simp(disch:=first|assumption|omega)only[P4,seval]
     exact same e1 k0 e2 rfl
 ·cases ht:s.other with
  |none=>
   have e1:Aec s r={s with other:=some r}:=by unfold Aec;rw[if_neg en,if_neg h2,if_neg h3,ht]
   have e2:Aeq s r=0:=by unfold Aeq;rw[if_neg en,if_neg h2,if_neg h3,ht]
   rw[ht]at pt
   have:vt=.pointer none:=pt
   subst this
   simp(disch:=first|assumption|omega|(simp only[LN]<;>omega)|(simp(disch:=first|assumption|omega|(simp only[LN]<;>omega))only[Aab,Aad];assumption))only[f38,P4,seval,ov,O4,g,h2,h3]
   rw[<-hK0]
   refine Aae tC ?_
   rintro _ Y ⟨z,rfl,gz,nc⟩
   have gY:=nc.k.at_ gb0
   have lY:=Aaa.Bfg gY
   simp(disch:=first|assumption|omega)only[P4,seval,gY,oo,ok]
   exact hq2 _ _ ⟨.int .i64 0,rfl,by rw[e2],cY nc.k _,by rw[e1];exact⟨_,_,_,Aaa.Bfe gY _,po.oth (cY nc.k _) hb,rdY gz nc _,pk.oth (cY nc.k _) hb⟩⟩
  |some k=>
   rw[ht]at pt
   obtain⟨bk,zk,ow,rm,rfl,gk,sk⟩:=(show RdB H vt k from pt)
   have ecy:decide (k.cy=r.cy)=true:=by have:=(hs.other k ht).2;simp;omega
   have tH:=t72 (a:=k) (RdB.oth pt (k0.chg []) (fun c hc=>by cases hc)) g0 (hv.keeps k0).s (hs.other k ht).1.1 hr.1
   simp(disch:=first|assumption|omega|(simp only[LN]<;>omega)|(simp(disch:=first|assumption|omega|(simp only[LN]<;>omega))only[Aab,Aad];assumption))only[f38,P4,seval,ov,O4,g,h2,h3]
   rw[<-hK0]
   refine Aae tH ?_
   rintro _ X ⟨rfl,hX⟩
   rw[hX,ecy,Bool.true_and]
   cases hB:Akx k.x k.c r.x r.c with
   |true=>
    have e1:Aec s r=s:=by unfold Aec;rw[if_neg en,if_neg h2,if_neg h3,ht];simp only[hB,if_true]
    have e2:Aeq s r=0:=by unfold Aeq;rw[if_neg en,if_neg h2,if_neg h3,ht];simp only[hB,if_true]
    simp(disch:=first|assumption|omega)only[P4,seval]
    exact same e1 k0 e2 rfl
   |false=>
    have e1:Aec s r={s with br:=true}:=by unfold Aec;rw[if_neg en,if_neg h2,if_neg h3,ht];simp[hB]
    have e2:Aeq s r=4:=by unfold Aeq;rw[if_neg en,if_neg h2,if_neg h3,ht];simp[hB]
    have l0:=Aaa.Bfg gb0
    simp(disch:=first|assumption|omega)only[P4,seval,gb0,oo,ok]
    exact hq2 _ _ ⟨.int .i64 4,rfl,by rw[e2],cY (Aac.refl _) _,by rw[e1];exact⟨_,_,_,Aaa.Bfe gb0 _,po.oth (cY (Aac.refl _) _) hb,by rw[ht];exact pt.oth (cY (Aac.refl _) _) hb,pk.oth (cY (Aac.refl _) _) hb⟩⟩
theorem u38{H:Aaa}{b:Nat}{s:Sd}{v:Value}(h:AgR H b s)(hv:v=.nilIface\/∃x,v=.iface 9 (.string x)):
 ∃w K,Aaq Tryz.prog 0 38 [ptr b 0,v] H w K/\w=.int .i64 2/\Aac H K:=by
 refine Aam f38 ?_
 intro Q hq1 hq2
 have kA:=(Aac.refl H).alloc (.cells true false 6 [.int .i64 0,.int .i64 0,.int .u64 0,.int .u32 0,.int .u32 0,.slice none 0 0] 49)
 rcases hv with rfl|⟨x,rfl⟩
 ·have an:∀z K,Aak (.assert 49 z true .nilIface) K=some (.tuple #[z,.bool false],K):=fun _ _=>rfl
  simp(disch:=first|assumption|omega|(simp only[LN]<;>omega)|(simp(disch:=first|assumption|omega|(simp only[LN]<;>omega))only[Aab,Aad];assumption))only[f38,P4,seval,an]
  exact hq2 _ _ ⟨.int .i64 2,rfl,rfl,kA⟩
 ·simp(disch:=first|assumption|omega|(simp only[LN]<;>omega)|(simp(disch:=first|assumption|omega|(simp only[LN]<;>omega))only[Aab,Aad];assumption))only[f38,P4,seval]
  exact hq2 _ _ ⟨.int .i64 2,rfl,rfl,kA⟩
end Go.AM.Fd
