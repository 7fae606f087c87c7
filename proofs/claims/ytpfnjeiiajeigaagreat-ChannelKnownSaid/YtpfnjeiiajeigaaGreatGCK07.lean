/- Part of the proof. -/
import Derived.Test.YtpfnjeiiajeigaaGreatGCK06
set_option maxRecDepth 100000
set_option maxHeartbeats 0
set_option linter.unusedSimpArgs false
set_option linter.unusedVariables false
namespace Go.AM.Fd
open Nat (reduceAdd reduceEqDiff reduceLT reduceLeDiff reduceMul reduceSub)
open Go.Proofs Go.AM.F
theorem t4{H:Aaa}{u:V4}{xs:List RV}{L:Ly}(hl:LyR H u xs L)(hi:Ah5 9223372036854775807 L){vc:Value}{lc:List CV}(hc:CvL H vc lc)(hlc:lc.length<=9223372036854775807)(wh:Int):
 ∃w K,Aaq Tryz.prog 0 4 [.int .i64 wh,.agg u.l.toArray,vc] H w K/\w=.bool true/\Aac H K:=by
 refine Aam f4 ?_
 intro Q hq1 hq2
 have ho:=Ai3 hl
 have ll:u.l.length=4:=rfl
 have isc:=Sl.is hc.s
 have lnc:Ab9 vc=lc.length:=by have:=Sl.len hc.s;simpa using this
 obtain⟨K0,hK0⟩:∃X,X=H.alloc (.cells true false 4 u.l 27):=⟨_,rfl⟩
 have k0:Aac H K0:=by rw[hK0];exact(Aac.refl H).alloc _
 have n0:K0.n=H.n+1:=by rw[hK0];rfl
 have gl0:K0.get H.n=some (.cells true false 4 u.l 27):=by rw[hK0];exact Aaa.Bfd H _
 have hl0:=hl.keeps k0
 have hc0:=hc.keeps k0
 have works:∀{K:Aaa} {KF:Value->Aaa->Prop},(KF (.bool true) K)->∃w V,Aaq Tryz.prog 0 8 [] K w V/\KF w V:=fun{K KF} h=>by
  obtain⟨_,_,a,rfl,rfl⟩:=t8 K
  exact⟨_,_,a,h⟩
 simp(disch:=first|assumption|omega)only[f4,P4,seval,ho,ll]
 rw[<-hK0]
 refine Aae (t7 (top:=300) (by omega) hl0 hi) ?_
 rintro _ X ⟨⟨nw,rfl⟩,hX⟩
 rw[hX]
 by_cases hw:(300:Int)<nw
 ·simp(disch:=first|assumption|omega)only[P4,seval,hw]
  refine works ?_
  simp(disch:=first|assumption|omega)only[P4,seval]
  exact hq2 _ _ ⟨.bool true,rfl,rfl,k0⟩
 simp(disch:=first|assumption|omega)only[P4,seval,hw]
 refine Aae (t19 hc0 hlc) ?_
 rintro _ X ⟨⟨b,rfl,hb⟩,hX⟩
 rw[hX]
 cases b with
 |false=>
  simp(disch:=first|assumption|omega)only[P4,seval]
  refine works ?_
  simp(disch:=first|assumption|omega)only[P4,seval]
  exact hq2 _ _ ⟨.bool true,rfl,rfl,k0⟩
 |true=>
 obtain⟨l50,l20⟩:=hb rfl
 simp(disch:=first|assumption|omega)only[P4,seval,gl0,Aa9,ll]
 obtain⟨_,K1,r1,k1,e1,e2⟩:=t9 (wh:=wh) hl0 hi
 have gl1:=k1.at_ gl0
 have tC:=t20 (hl0.keeps k1) hi
 have bi:∀x:Int,(x==x)=true:=fun x=>by simp
 have bn:∀x:Int,(x != x)=false:=fun x=>by simp
 by_cases hv:wh=0\/wh=1
 case neg=>
  rw[e1 hv]at r1
  refine⟨_,_,r1,?_⟩
  have h0:(wh != 0)=true:=by simp;omega
  have h1:(wh != 1)=true:=by simp;omega
  simp(disch:=first|assumption|omega)only[P4,seval,gl1,Aa9,ll]
  refine Aae tC ?_
  rintro _ X ⟨hX,ie,rfl⟩
  rw[hX]
  simp(disch:=first|assumption|omega)only[P4,seval,h0,h1]
  refine works ?_
  simp(disch:=first|assumption|omega)only[P4,seval]
  exact hq2 _ _ ⟨.bool true,rfl,rfl,k0.trans k1⟩
 by_cases he:Aan L=0
 case neg=>
  rw[(e2 hv).1 he]at r1
  have ne:(Aan L != 0)=true:=by simp[he]
  refine⟨_,_,r1,?_⟩
  rcases hv with rfl|rfl
  all_goals
   simp(disch:=first|assumption|omega)only[P4,seval,gl1,Aa9,ll]
   refine Aae tC ?_
   rintro _ X ⟨hX,ie,rfl⟩
   rw[hX]
   simp(disch:=first|assumption|omega)only[P4,seval,ne,bn]
   refine works ?_
   simp(disch:=first|assumption|omega)only[P4,seval]
   exact hq2 _ _ ⟨.bool true,rfl,rfl,k0.trans k1⟩
 clear r1 k1 e1 e2 gl1 tC
 refine Aae (u9 (wh:=wh) hl0 hi hv he) ?_
 rintro _ K1 ⟨c,sb,v,rfl,nc⟩
 have gl1:=nc.k.at_ gl0
 have hl1:=hl0.keeps nc.k
 have tC:=t20 hl1 hi
 rw[he]at tC
 have tN:=t21 hl1 wh
 rcases hv with rfl|rfl
 all_goals
  simp(disch:=first|assumption|omega)only[P4,seval,gl1,Aa9,ll]
  refine Aae tC ?_
  rintro _ X ⟨hX,ie,rfl⟩
  rw[hX]
  simp(disch:=first|assumption|omega)only[P4,seval,gl1,Aa9,ll]
  refine Aae tN ?_
  rintro _ K2 ⟨k2,d,sd,rfl,ld,lsd,hD⟩
  have hp:=nc.one
  have lc1:=nc.lc
  have ls1:=nc.ls
  have n1:=nc.k.n
  obtain⟨W,hW⟩:∃W:Wd,W=⟨K1,[c,sb]⟩:=⟨_,rfl⟩
  have hWn:W.B.n=K1.n:=by rw[hW]
  rw[<-hW]at hp
  have pd:=PD.mk (hp.keeps k2) hD (by omega) (by omega)
  have kk:=nc.k.trans k2
  simp(disch:=first|assumption|omega)only[P3,seval,Aah,Aao]
  rw[Aag]
  obtain⟨A0,hA0⟩:∃z:Value,z=.agg u.l.toArray:=⟨_,rfl⟩
  rw[<-hA0]
  refine Aal (fun q fr K=>∃i x10 x11 x12 x13 x18 x19 x20 sb sd C,fr=[.int .i64 _,A0,vc,ptr H.n 0,.bool false,ptr c 0,.int .i64 0,.int .i64 0,ptr d 0,.int .i64 ((i:Nat):Int),x10,x11,x12,x13,.bool false,.bool false,.bool false,.bool false,x18,x19,x20]∧
   PD W K c sb _ L d sd u C/\Aac K0 K/\((K0.n<=c/\K0.n<=sb)/\K0.n<=d/\K0.n<=sd)/\i<=lc.length/\q=lc.length-i) lc.length
   ⟨0,_,_,_,_,_,_,_,sb,sd,_,rfl,pd,kk,by omega,by omega,rfl⟩ ?_
  rintro Q' q fr K ⟨i,x10,x11,x12,x13,x18,x19,x20,sb,sd,C,rfl,pd,kK,oB,hi2,rfl⟩ hn' hx' hret
  by_cases hlt:i<lc.length
  case neg=>
   have e1:¬(i:Int)<((lc.length:Nat):Int):=by omega
   simp(disch:=first|assumption|omega)only[P4,seval,isc,lnc,e1]
   refine hx' _ _ _ ?_
   simp(disch:=first|assumption|omega)only[P4,seval]
   refine works ?_
   simp(disch:=first|assumption|omega)only[P4,seval]
   exact hq2 _ _ ⟨.bool true,rfl,rfl,k0.trans kK⟩
  have e1:(i:Int)<((lc.length:Nat):Int):=by omega
  have e0:(0:Int)<=(i:Int):=by omega
  have hwr:IntKind.i64.wrap ((i:Int)+1)=((i+1:Nat):Int):=by rw[Aa5 (by omega) (by omega)];omega
  obtain⟨nn,ra⟩:=(hc0.keeps kK).at_ hlt
  have mem:lc.getD i cv0∈lc:=by rw[List.getD_eq_getElem?_getD,List.getElem?_eq_getElem hlt];exact List.getElem_mem hlt
  have oc:=hc0.c _ mem
  have l2:=l20 _ mem
  generalize lc.getD i cv0=P at*
  simp(disch:=first|assumption|omega)only[P4,seval,isc,lnc,e0,e1,nn,ra,Aai]
  refine Aae (t22 pd kK oB hl0 he (by omega) oc l2) ?_
  rintro _ K3 ⟨rfl,c3,sb3,sd3,C3,hs3,ht3,pd3⟩
  have kB3:=kK.Bfh c3 (by simp;omega)
  have oB3:(K0.n<=c/\K0.n<=sb3)/\K0.n<=d/\K0.n<=sd3:=by have:=kK.n;omega
  have hqd:=pd3.q
  obtain⟨x,hx⟩:=hqd
  obtain⟨n,gd,hn⟩:=hx.g
  obtain⟨v1,v2,v3,v4,v5,v6⟩:=hx.e
  have ms:=A0y x C3.s n
  have m73:=Aj0 x C3.s n
  rw[v2]at m73
  have eqs:∀K,Aak (.eqs Baj true (.agg (stl C3.s).toArray) (.agg (stl C3.s).toArray)) K=some (.bool false,K):=fun K=>(Ahs K true C3.s C3.s).trans (by rw[Afy];rfl)
  simp(disch:=first|assumption|omega)only[P4,seval]
  refine Aat (t18 pd3.p) ?_
  have lenD:=Ac6 x C3.s n
  have ldd:=Aaa.Bfg gd
  simp(disch:=first|assumption|omega)only[P4,seval,gd,ms,lenD,eqs]
  refine Aae (t23 pd3.p) ?_
  rintro _ K4 ⟨z4,rfl,m4⟩
  have inz:∀z,inl (Aby C3.sd) z=[S64 (Aby C3.sd).oc,S32 (Aby C3.sd).nr,S32 (Aby C3.sd).rv,z]:=fun _=>rfl
  have mok:=Am1 hx.ok
  rw[inz]
  have oz4:=Sl.one m4.c.s
  obtain⟨K5,hK5⟩:∃X,X=K4.alloc (.cells true false 4 [S64 (Aby C3.sd).oc,S32 (Aby C3.sd).nr,S32 (Aby C3.sd).rv,z4] 46):=⟨_,rfl⟩
  have k5:Aac K4 K5:=by rw[hK5];exact(Aac.refl _).alloc _
  have gi5:K5.get K4.n=some (.cells true false 4 [S64 (Aby C3.sd).oc,S32 (Aby C3.sd).nr,S32 (Aby C3.sd).rv,z4] 46):=by rw[hK5];exact Aaa.Bfd K4 _
  have gd4:=m4.k.at_ gd
  have gd5:=k5.at_ gd4
  have tM:=t24 (hx.sd.keeps (m4.k.trans k5)) hx.ok
  simp(disch:=first|assumption|omega|(simp only[LN]<;>omega)|(simp(disch:=first|assumption|omega|(simp only[LN]<;>omega))only[Aab,Aad];assumption))only[P4,seval,oz4,O4,gd4,lenD,m73]
  rw[<-hK5]
  simp(disch:=first|assumption|omega)only[P4,seval,gd5,lenD,m73]
  refine Aae tM ?_
  rintro _ K6 ⟨z6,rfl,m6⟩
  rw[inz]
  have oz6:=Sl.one m6.c.s
  have gi6:=m6.k.at_ gi5
  obtain⟨K7,hK7⟩:∃X,X=K6.alloc (.cells true false 4 [S64 (Aby C3.sd).oc,S32 (Aby C3.sd).nr,S32 (Aby C3.sd).rv,z6] 46):=⟨_,rfl⟩
  have k7:Aac K6 K7:=by rw[hK7];exact(Aac.refl _).alloc _
  have gi7:=k7.at_ gi6
  have gj7:K7.get K6.n=some (.cells true false 4 [S64 (Aby C3.sd).oc,S32 (Aby C3.sd).nr,S32 (Aby C3.sd).rv,z6] 46):=by rw[hK7];exact Aaa.Bfd K6 _
  have li6:=Aaa.Bfg gi6
  have tS:=t25 (x:=Aby C3.sd) (y:=Aby C3.sd) ((m4.c.keeps k5).keeps (m6.k.trans k7)).s (m6.c.keeps k7).s (by omega) (by omega)
  rw[Aw6,inz,inz]at tS
  have rg:∀(y:Value) (o r:Bool) (T:Nat),Ac5 (some (.cells o r 4 [S64 (Aby C3.sd).oc,S32 (Aby C3.sd).nr,S32 (Aby C3.sd).rv,y] T)) 0 4=some [S64 (Aby C3.sd).oc,S32 (Aby C3.sd).nr,S32 (Aby C3.sd).rv,y]:=fun _ _ _ _=>rfl
  have bb:(Ai9 C3.sd==Ai9 C3.sd)=true:=by simp
  simp(disch:=first|assumption|omega|(simp only[LN]<;>omega)|(simp(disch:=first|assumption|omega|(simp only[LN]<;>omega))only[Aab,Aad];assumption))only[P4,seval,oz6,O4,gi6,bb,rg]
  rw[<-hK7]
  refine Aae tS ?_
  rintro _ X ⟨rfl,hX⟩
  rw[hX]
  have kA:=((m4.k.trans k5).trans m6.k).trans k7
  simp(disch:=first|assumption|omega)only[P4,seval,hwr]
  exact hn' _ _ _ ⟨i+1,_,_,_,_,_,_,_,sb3,sd3,C3,rfl,pd3.keeps kA,kB3.trans kA,oB3,by omega,rfl⟩ (by omega)
theorem n26{H:Aaa}(s:Sta):∃w K,Aaq Tryz.prog 0 26 [.pointer none,.agg (stl s).toArray] H w K/\w=.tuple #[]/\Aac H K:=by
 refine Aam f26 ?_
 intro Q hq1 hq2
 have k:=(Aac.refl H).alloc (.cells true false 68 (stl s) 43)
 simp(disch:=first|assumption|omega)only[f26,P4,seval,Aas,Aaf]
 exact hq2 _ _ ⟨.tuple #[],rfl,rfl,k⟩
theorem n13{H:Aaa}(cy:Int){x:Inp}{z:Value}(hz:z.oneCell'=true):∃w K,Aaq Tryz.prog 0 13 [.pointer none,.int .i64 cy,.agg (inl x z).toArray] H w K/\w=.tuple #[.agg #[.int .i64 0,.int .i64 0,.int .u64 0,.int .u32 0,.int .u32 0,.slice none 0 0],.int .i64 1]/\Aac H K:=by
 refine Aam f13 ?_
 intro Q hq1 hq2
 have e:inl x z=[S64 x.oc,S32 x.nr,S32 x.rv,z]:=rfl
 have k:=((Aac.refl H).alloc (.cells true false 4 [S64 x.oc,S32 x.nr,S32 x.rv,z] 46)).alloc (.cells true false 6 [.int .i64 0,.int .i64 0,.int .u64 0,.int .u32 0,.int .u32 0,.slice none 0 0] 49)
 rw[e]
 simp(disch:=first|assumption|omega|(simp only[LN]<;>omega)|(simp(disch:=first|assumption|omega|(simp only[LN]<;>omega))only[Aab,Aad];assumption))only[f13,P4,seval,hz,O4,Agp]
 exact hq2 _ _ ⟨_,Adj (p:=H.n+1) (Aaa.Bfd (H.alloc _) _) rfl rfl rfl,rfl,k⟩
theorem n15{H:Aaa}:∃w K,Aaq Tryz.prog 0 15 [.pointer none] H w K/\w=.tuple #[.agg (stl Abi).toArray,.agg #[.int .i64 0,.int .i64 0,.int .u64 0,.int .u32 0],.int .i64 1]/\Aac H K:=by
 refine Aam f15 ?_
 intro Q hq1 hq2
 have k:=((Aac.refl H).alloc (.cells true false 68 (stl Abi) 43)).alloc (.cells true false 4 [.int .i64 0,.int .i64 0,.int .u64 0,.int .u32 0] 56)
 simp(disch:=first|assumption|omega|(simp only[LN]<;>omega)|(simp(disch:=first|assumption|omega|(simp only[LN]<;>omega))only[Aab,Aad];assumption))only[f15,P4,seval,Adq,Aas,Aaf,Aa8,Ajz,Akt]
 exact hq2 _ _ ⟨_,Aiu (p:=H.n) (q:=H.n+1) (((Aac.refl _).alloc _).at_ (Aaa.Bfd H _)) (Aaf _) (Aaa.Bfd (H.alloc _) _) rfl rfl rfl rfl,rfl,k⟩
theorem n23{H:Aaa}:∃w K,Aaq Tryz.prog 0 23 [.pointer none] H w K/\w=.tuple #[.agg #[.int .u64 0,.int .u32 0,.int .u32 0,.slice none 0 0],.bool false]/\Aac H K:=by
 refine Aam f23 ?_
 intro Q hq1 hq2
 have k:=(Aac.refl H).alloc (.cells true false 4 [.int .u64 0,.int .u32 0,.int .u32 0,.slice none 0 0] 46)
 simp(disch:=first|assumption|omega|(simp only[LN]<;>omega)|(simp(disch:=first|assumption|omega|(simp only[LN]<;>omega))only[Aab,Aad];assumption))only[f23,P4,seval,Aep]
 exact hq2 _ _ ⟨_,Adj (p:=H.n) (Aaa.Bfd H _) rfl rfl rfl,rfl,k⟩
theorem n17{H:Aaa}:∃w K,Aaq Tryz.prog 0 17 [.pointer none] H w K/\w=.int .i64 1/\Aac H K:=by
 refine Aam f17 ?_
 intro Q hq1 hq2
 simp(disch:=first|assumption|omega)only[f17,P4,seval]
 exact hq2 _ _ ⟨.int .i64 1,rfl,rfl,Aac.refl H⟩
theorem n14{H:Aaa}(v:Value):∃w K,Aaq Tryz.prog 0 14 [.pointer none,v] H w K/\w=.int .i64 1/\Aac H K:=by
 refine Aam f14 ?_
 intro Q hq1 hq2
 simp(disch:=first|assumption|omega)only[f14,P4,seval]
 exact hq2 _ _ ⟨.int .i64 1,rfl,rfl,Aac.refl H⟩
theorem n11{H:Aaa}(s:Sta)(ep cy:Int):∃w K,Aaq Tryz.prog 0 11 [.pointer none,.agg (stl s).toArray,.int .i64 ep,.int .i64 cy] H w K/\w=.int .i64 1/\Aac H K:=by
 refine Aam f11 ?_
 intro Q hq1 hq2
 have k:=(Aac.refl H).alloc (.cells true false 68 (stl s) 43)
 simp(disch:=first|assumption|omega)only[f11,P4,seval,Aas,Aaf]
 exact hq2 _ _ ⟨.int .i64 1,rfl,rfl,k⟩
theorem n18{H:Aaa}:∃w K,Aaq Tryz.prog 0 18 [.pointer none] H w K/\w=.agg (stl Abi).toArray/\Aac H K:=by
 refine Aam f18 ?_
 intro Q hq1 hq2
 have k:=(Aac.refl H).alloc (.cells true false 68 (stl Abi) 43)
 simp(disch:=first|assumption|omega)only[f18,P4,seval,Adq,Aas,Aaf,Aa8,Akt]
 exact hq2 _ _ ⟨_,by show Ack [.cn 68 1] _ _=_;rw[Aoa];show Adb 68 (ptr H.n 0) _=_;rw[Ace,Abe,Aaa.Bfd,Aa6];rfl,rfl,k⟩
theorem t5{H:Aaa}(s:Sta){x:Inp}{z:Value}(hz:z.oneCell'=true):∃w K,Aaq Tryz.prog 0 5 [.agg (stl s).toArray,.agg (inl x z).toArray] H w K/\w=.bool true/\Aac H K:=by
 refine Aam f5 ?_
 intro Q hq1 hq2
 have e:inl x z=[S64 x.oc,S32 x.nr,S32 x.rv,z]:=rfl
 obtain⟨K0,hK0⟩:∃X,X=(H.alloc (.cells true false 68 (stl s) 43)).alloc (.cells true false 4 [S64 x.oc,S32 x.nr,S32 x.rv,z] 46):=⟨_,rfl⟩
 have k0:Aac H K0:=by rw[hK0];exact((Aac.refl H).alloc _).alloc _
 have gs0:K0.get H.n=some (.cells true false 68 (stl s) 43):=by rw[hK0];exact((Aac.refl _).alloc _).at_ (Aaa.Bfd H _)
 have gi0:K0.get (H.n+1)=some (.cells true false 4 [S64 x.oc,S32 x.nr,S32 x.rv,z] 46):=by rw[hK0];exact Aaa.Bfd (H.alloc _) _
 have tB:=fun K=>n13 (H:=K) 1 (x:=x) hz
 rw[e]at tB ⊢
 simp(disch:=first|assumption|omega|(simp only[LN]<;>omega)|(simp(disch:=first|assumption|omega|(simp only[LN]<;>omega))only[Aab,Aad];assumption))only[f5,P4,seval,hz,O4,Aas,Aaf,Aa6]
 rw[<-hK0]
 refine Aae (n26 s) ?_
 rintro _ K1 ⟨rfl,k1⟩
 have gi1:=k1.at_ gi0
 simp(disch:=first|assumption|omega|(simp only[LN]<;>omega)|(simp(disch:=first|assumption|omega|(simp only[LN]<;>omega))only[Aab,Aad];assumption))only[P4,seval,gi1]
 refine Aae (tB _) ?_
 rintro _ K2 ⟨rfl,k2⟩
 simp(disch:=first|assumption|omega|(simp only[LN]<;>omega)|(simp(disch:=first|assumption|omega|(simp only[LN]<;>omega))only[Aab,Aad];assumption))only[P4,seval]
 refine Aae n15 ?_
 rintro _ K3 ⟨rfl,k3⟩
 simp(disch:=first|assumption|omega|(simp only[LN]<;>omega)|(simp(disch:=first|assumption|omega|(simp only[LN]<;>omega))only[Aab,Aad];assumption))only[P4,seval,Adq,Aas,Aaf,Aa8]
 refine Aae n23 ?_
 rintro _ K4 ⟨rfl,k4⟩
 have gr:=k4.at_ ((((Aac.refl K3).alloc (.cells true false 68 (stl Abi) 43)).alloc (.cells true false 4 [.int .i64 0,.int .i64 0,.int .u64 0,.int .u32 0] 56)).at_ (k3.at_ (Aaa.Bfd K2 (.cells true false 6 [.int .i64 0,.int .i64 0,.int .u64 0,.int .u32 0,.int .u32 0,.slice none 0 0] 49))))
 have gs3:=k4.at_ (((Aac.refl (K3.alloc (.cells true false 68 (stl Abi) 43))).alloc (.cells true false 4 [.int .i64 0,.int .i64 0,.int .u64 0,.int .u32 0] 56)).at_ (Aaa.Bfd K3 (.cells true false 68 (stl Abi) 43)))
 have gf3:=k4.at_ (Aaa.Bfd (K3.alloc (.cells true false 68 (stl Abi) 43)) (.cells true false 4 [.int .i64 0,.int .i64 0,.int .u64 0,.int .u32 0] 56))
 rw[show(K3.alloc (.cells true false 68 (stl Abi) 43)).n=K3.n+1 from rfl]at gf3
 have kk3:Aac H K3:=(((k0.trans k1).trans k2).trans ((Aac.refl K2).alloc (.cells true false 6 [.int .i64 0,.int .i64 0,.int .u64 0,.int .u32 0,.int .u32 0,.slice none 0 0] 49))).trans k3
 have kk4:Aac K0 K4:=((((k1.trans k2).trans ((Aac.refl K2).alloc _)).trans k3).trans (((Aac.refl K3).alloc _).alloc _)).trans k4
 have gs4:=kk4.at_ gs0
 obtain⟨K5,hK5⟩:∃X,X=K4.alloc (.cells true false 4 [.int .u64 0,.int .u32 0,.int .u32 0,.slice none 0 0] 46):=⟨_,rfl⟩
 have k5:Aac K4 K5:=by rw[hK5];exact(Aac.refl _).alloc _
 have gi5:K5.get K4.n=some (.cells true false 4 [.int .u64 0,.int .u32 0,.int .u32 0,.slice none 0 0] 46):=by rw[hK5];exact Aaa.Bfd K4 _
 have l1:=Aaa.Bfg gr
 have l2:=Aaa.Bfg gs3
 have l3:=Aaa.Bfg gf3
 have eqs:∀K,Aak (.eqs Bai false (.agg (stl Abi).toArray) (.agg (stl Abi).toArray)) K=some (.bool true,K):=fun K=>(Ahs K false Abi Abi).trans (by rw[Afy];rfl)
 have eqf:∀K,Aak (.eqs [1,1,1,1] false (.agg #[.int .i64 0,.int .i64 0,.int .u64 0,.int .u32 0]) (.agg #[.int .i64 0,.int .i64 0,.int .u64 0,.int .u32 0])) K=some (.bool true,K):=fun K=>by simp[Aak,Ae6,eqC]
 simp(disch:=first|assumption|omega|(simp only[LN]<;>omega)|(simp(disch:=first|assumption|omega|(simp only[LN]<;>omega))only[Aab,Aad];assumption))only[P4,seval,Adq,Aas,Aaf,Aa8,gr,gs3,gf3,Aa6,eqs,eqf,Ajz,Akt]
 rw[<-hK5]
 refine Aae n17 ?_
 rintro _ K6 ⟨rfl,k6⟩
 have gr6:=(k5.trans k6).at_ gr
 simp(disch:=first|assumption|omega|(simp only[LN]<;>omega)|(simp(disch:=first|assumption|omega|(simp only[LN]<;>omega))only[Aab,Aad];assumption))only[P4,seval,gr6]
 refine Aae (n14 _) ?_
 rintro _ K7 ⟨rfl,k7⟩
 have gs7:=((k5.trans k6).trans k7).at_ gs4
 simp(disch:=first|assumption|omega)only[P4,seval,gs7,Aa6]
 refine Aae (n11 s 0 0) ?_
 rintro _ K8 ⟨rfl,k8⟩
 simp(disch:=first|assumption|omega)only[P4,seval]
 refine Aae n18 ?_
 rintro _ K9 ⟨rfl,k9⟩
 have gi9:=(((k6.trans k7).trans k8).trans k9).at_ gi5
 simp(disch:=first|assumption|omega)only[P4,seval,Adq,eqs,gi9,Akt]
 refine Aat (t8 _) ?_
 simp(disch:=first|assumption|omega)only[P4,seval]
 exact hq2 _ _ ⟨.bool true,rfl,rfl,k0.trans (kk4.trans (((((k5.trans k6).trans k7).trans k8).trans k9)))⟩
end Go.AM.Fd
namespace Go.AM.F
def A5u:List Value:=[(.int .u64 0),(.int .u64 0),(.int .u64 0)]++List.replicate 64 (.int .u8 0)++[(.int .u32 0)]
def A71:List Nat:=List.replicate 68 1
def f3:Af8:=⟨[0,1,2,3,4,8,9,10,11,12,13,14,15,16,17,18,19,20,21,22,23,24,25,33,73,84,120,163,210,235],
 .seq (.reg [
 ⟨.box 27 4 (.fr 0),.fr 4,none⟩,
 ⟨.mov (.c (.bool false)),.fr 5,none⟩]) <|
 .seq (.seq (.reg [
 ⟨.loadn 4 (.fr 4),.tm,none⟩,
 ⟨.callf 7 [(.tm 0),(.c (.int .i64 300))],.tm,none⟩,
 ⟨.bin .gtr (.tm 0) (.c (.int .i64 300)),.tm,none⟩,
 ⟨.mov (.tm 0),.tm,none⟩,
 ⟨.mov (.fr 1),.tm,some ((.tm 0),false)⟩,
 ⟨.len false (.tm 0),.tm,some ((.tm 1),false)⟩,
 ⟨.bin .gtr (.tm 0) (.c (.int .i64 40)),.tm,some ((.tm 2),false)⟩,
 ⟨.pick (.tm 3) (.c (.bool true)) (.tm 0),.fr 23,none⟩]) <|
 .cond (.fr 23)
 (.seq (.reg [
 ⟨.callf 8 [],.tm,none⟩,
 ⟨.mov (.tm 0),.fr 5,none⟩]) <|
 .ret)
 (.skip)) <|
 .seq (.reg [
 ⟨.loadn 4 (.fr 4),.tm,none⟩,
 ⟨.callf 9 [(.c (.int .i64 0)),(.tm 0)],.tm,none⟩,
 ⟨.mov (.tm 0),.tm,none⟩,
 ⟨.extract (.tm 0) 0,.tm,none⟩,
 ⟨.extract (.tm 1) 1,.tm,none⟩,
 ⟨.mov (.tm 1),.fr 6,none⟩,
 ⟨.mov (.tm 0),.fr 7,none⟩]) <|
 .seq (.reg [
 ⟨.loadn 4 (.fr 4),.tm,none⟩,
 ⟨.callf 9 [(.c (.int .i64 1)),(.tm 0)],.tm,none⟩,
 ⟨.mov (.tm 0),.tm,none⟩,
 ⟨.extract (.tm 0) 0,.tm,none⟩,
 ⟨.extract (.tm 1) 1,.tm,none⟩,
 ⟨.mov (.tm 1),.fr 8,none⟩,
 ⟨.mov (.tm 0),.fr 9,none⟩]) <|
 .seq (.reg [
 ⟨.loadn 4 (.fr 4),.tm,none⟩,
 ⟨.callf 10 [(.tm 0)],.tm,none⟩,
 ⟨.mov (.tm 0),.tm,none⟩,
 ⟨.extract (.tm 0) 0,.tm,none⟩,
 ⟨.extract (.tm 1) 1,.tm,none⟩,
 ⟨.mov (.tm 1),.fr 10,none⟩,
 ⟨.mov (.tm 0),.fr 11,none⟩]) <|
 .seq (.seq (.reg [
 ⟨.mov (.fr 7),.tm,none⟩,
 ⟨.bin .neq (.tm 0) (.c (.int .i64 0)),.tm,none⟩,
 ⟨.mov (.tm 0),.tm,none⟩,
 ⟨.mov (.fr 9),.tm,some ((.tm 0),false)⟩,
 ⟨.bin .neq (.tm 0) (.c (.int .i64 0)),.tm,some ((.tm 1),false)⟩,
 ⟨.pick (.tm 2) (.c (.bool true)) (.tm 0),.tm,none⟩,
 ⟨.mov (.tm 0),.tm,none⟩,
 ⟨.mov (.fr 11),.tm,some ((.tm 0),false)⟩,
 ⟨.bin .neq (.tm 0) (.c (.int .i64 0)),.tm,some ((.tm 1),false)⟩,
 ⟨.pick (.tm 2) (.c (.bool true)) (.tm 0),.tm,none⟩,
 ⟨.mov (.tm 0),.tm,none⟩,
 ⟨.mov (.fr 6),.tm,some ((.tm 0),false)⟩,
 ⟨.build A5u [],.tm,some ((.tm 1),false)⟩,
 ⟨.mov (.fr 3),.tm,some ((.tm 2),false)⟩,
 ⟨.callf 11 [(.tm 2),(.tm 1),(.tm 0),(.c (.int .i64 0))],.tm,some ((.tm 3),false)⟩,
 ⟨.bin .neq (.tm 0) (.c (.int .i64 0)),.tm,some ((.tm 4),false)⟩,
 ⟨.pick (.tm 5) (.c (.bool true)) (.tm 0),.tm,none⟩,
 ⟨.mov (.tm 0),.tm,none⟩,
 ⟨.mov (.fr 8),.tm,some ((.tm 0),false)⟩,
 ⟨.build A5u [],.tm,some ((.tm 1),false)⟩,
 ⟨.mov (.fr 3),.tm,some ((.tm 2),false)⟩,
 ⟨.callf 11 [(.tm 2),(.tm 1),(.tm 0),(.c (.int .i64 0))],.tm,some ((.tm 3),false)⟩,
 ⟨.bin .neq (.tm 0) (.c (.int .i64 0)),.tm,some ((.tm 4),false)⟩,
 ⟨.pick (.tm 5) (.c (.bool true)) (.tm 0),.fr 24,none⟩]) <|
 .cond (.fr 24)
 (.seq (.reg [
 ⟨.callf 8 [],.tm,none⟩,
 ⟨.mov (.tm 0),.fr 5,none⟩]) <|
 .ret)
 (.skip)) <|
 .seq (.seq (.reg [
 ⟨.mov (.c (.int .i64 0)),.fr 12,none⟩]) <|
 .block 0 (.loop (.seq (.seq (.reg [
 ⟨.mov (.fr 12),.tm,none⟩,
 ⟨.mov (.fr 1),.tm,none⟩,
 ⟨.len false (.tm 0),.tm,none⟩,
 ⟨.bin .lss (.tm 2) (.tm 0),.tm,none⟩,
 ⟨.mov (.tm 0),.tm,none⟩,
 ⟨.mov (.fr 12),.tm,some ((.tm 0),true)⟩,
 ⟨.mov (.fr 2),.tm,some ((.tm 1),true)⟩,
 ⟨.len false (.tm 0),.tm,some ((.tm 2),true)⟩,
 ⟨.bin .lss (.tm 2) (.tm 0),.tm,some ((.tm 3),true)⟩,
 ⟨.pick (.tm 4) (.tm 0) (.c (.bool false)),.fr 25,none⟩]) <|
 .cond (.fr 25)
 (.skip)
 (.exit 0)) <|
 .seq (.block 1 (.seq (.seq (.dreg [
 (⟨.mov (.fr 1),.tm,none⟩,[]),
 (⟨.mov (.fr 12),.tm,none⟩,[]),
 (⟨.iaddr 4 (.tm 1) (.tm 0),.tm,none⟩,[]),
 (⟨.faddr 3 (.tm 0),.tm,none⟩,[]),
 (⟨.load1 (.tm 0),.tm,none⟩,[]),
 (⟨.len false (.tm 0),.tm,none⟩,[]),
 (⟨.bin .gtr (.tm 0) (.c (.int .i64 20)),.tm,none⟩,[]),
 (⟨.mov (.tm 0),.tm,none⟩,[]),
 (⟨.mov (.fr 2),.tm,some ((.tm 0),false)⟩,[]),
 (⟨.mov (.fr 12),.tm,some ((.tm 1),false)⟩,[]),
 (⟨.iaddr 4 (.tm 1) (.tm 0),.tm,some ((.tm 2),false)⟩,[]),
 (⟨.faddr 3 (.tm 0),.tm,some ((.tm 3),false)⟩,[]),
 (⟨.load1 (.tm 0),.tm,some ((.tm 4),false)⟩,[]),
 (⟨.len false (.tm 0),.tm,some ((.tm 5),false)⟩,[]),
 (⟨.bin .gtr (.tm 0) (.c (.int .i64 20)),.tm,some ((.tm 6),false)⟩,[]),
 (⟨.pick (.tm 7) (.c (.bool true)) (.tm 0),.tm,none⟩,[]),
 (⟨.mov (.tm 0),.tm,none⟩,[]),
 (⟨.loadn 4 (.fr 4),.tm,some ((.tm 0),false)⟩,[]),
 (⟨.mov (.fr 1),.tm,some ((.tm 1),false)⟩,[]),
 (⟨.mov (.fr 12),.tm,some ((.tm 2),false)⟩,[]),
 (⟨.iaddr 4 (.tm 1) (.tm 0),.tm,some ((.tm 3),false)⟩,[]),
 (⟨.loadn 4 (.tm 0),.tm,some ((.tm 4),false)⟩,[]),
 (⟨.callf 12 [(.tm 4),(.tm 0)],.tm,some ((.tm 5),false)⟩,[]),
 (⟨.un .not (.tm 0),.tm,some ((.tm 6),false)⟩,[]),
 (⟨.pick (.tm 7) (.c (.bool true)) (.tm 0),.tm,none⟩,[]),
 (⟨.mov (.tm 0),.tm,none⟩,[]),
 (⟨.loadn 4 (.fr 4),.tm,some ((.tm 0),false)⟩,[]),
 (⟨.mov (.fr 2),.tm,some ((.tm 1),false)⟩,[]),
 (⟨.mov (.fr 12),.tm,some ((.tm 2),false)⟩,[]),
 (⟨.iaddr 4 (.tm 1) (.tm 0),.tm,some ((.tm 3),false)⟩,[]),
 (⟨.loadn 4 (.tm 0),.tm,some ((.tm 4),false)⟩,[]),
 (⟨.callf 12 [(.tm 4),(.tm 0)],.tm,some ((.tm 5),false)⟩,[]),
 (⟨.un .not (.tm 0),.tm,some ((.tm 6),false)⟩,[]),
 (⟨.pick (.tm 7) (.c (.bool true)) (.tm 0),.fr 26,none⟩,[])]) <|
 .cond (.fr 26)
 (.seq (.reg [
 ⟨.callf 8 [],.tm,none⟩,
 ⟨.mov (.tm 0),.fr 5,none⟩]) <|
 .ret)
 (.skip)) <|
 .seq (.reg [
 ⟨.mov (.fr 6),.tm,none⟩,
 ⟨.mov (.fr 12),.tm,none⟩,
 ⟨.bin .add (.tm 0) (.c (.int .i64 1)),.tm,none⟩,
 ⟨.mov (.fr 1),.tm,none⟩,
 ⟨.mov (.fr 12),.tm,none⟩,
 ⟨.iaddr 4 (.tm 1) (.tm 0),.tm,none⟩,
 ⟨.loadn 4 (.tm 0),.tm,none⟩,
 ⟨.callf 13 [(.tm 6),(.tm 4),(.tm 0)],.tm,none⟩,
 ⟨.mov (.tm 0),.tm,none⟩,
 ⟨.extract (.tm 0) 0,.tm,none⟩,
 ⟨.extract (.tm 1) 1,.tm,none⟩,
 ⟨.new 49 6 [(.int .i64 0),(.int .i64 0),(.int .u64 0),(.int .u32 0),(.int .u32 0),(.slice none 0 0)],.fr 13,none⟩,
 ⟨.storen 6 (.fr 13) (.tm 1),.no,none⟩,
 ⟨.mov (.tm 0),.fr 14,none⟩]) <|
 .seq (.reg [
 ⟨.mov (.fr 8),.tm,none⟩,
 ⟨.mov (.fr 12),.tm,none⟩,
 ⟨.bin .add (.tm 0) (.c (.int .i64 1)),.tm,none⟩,
 ⟨.mov (.fr 2),.tm,none⟩,
 ⟨.mov (.fr 12),.tm,none⟩,
 ⟨.iaddr 4 (.tm 1) (.tm 0),.tm,none⟩,
 ⟨.loadn 4 (.tm 0),.tm,none⟩,
 ⟨.callf 13 [(.tm 6),(.tm 4),(.tm 0)],.tm,none⟩,
 ⟨.mov (.tm 0),.tm,none⟩,
 ⟨.extract (.tm 0) 0,.tm,none⟩,
 ⟨.extract (.tm 1) 1,.tm,none⟩,
 ⟨.new 49 6 [(.int .i64 0),(.int .i64 0),(.int .u64 0),(.int .u32 0),(.int .u32 0),(.slice none 0 0)],.fr 15,none⟩,
 ⟨.storen 6 (.fr 15) (.tm 1),.no,none⟩,
 ⟨.mov (.tm 0),.fr 16,none⟩]) <|
 .seq (.seq (.reg [
 ⟨.mov (.fr 14),.tm,none⟩,
 ⟨.bin .neq (.tm 0) (.c (.int .i64 0)),.tm,none⟩,
 ⟨.mov (.tm 0),.tm,none⟩,
 ⟨.mov (.fr 16),.tm,some ((.tm 0),false)⟩,
 ⟨.bin .neq (.tm 0) (.c (.int .i64 0)),.tm,some ((.tm 1),false)⟩,
 ⟨.pick (.tm 2) (.c (.bool true)) (.tm 0),.tm,none⟩,
 ⟨.mov (.tm 0),.tm,none⟩,
 ⟨.mov (.fr 6),.tm,some ((.tm 0),false)⟩,
 ⟨.loadn 6 (.fr 15),.tm,some ((.tm 1),false)⟩,
 ⟨.iface 49 (.tm 0),.tm,some ((.tm 2),false)⟩,
 ⟨.callf 14 [(.tm 2),(.tm 0)],.tm,some ((.tm 3),false)⟩,
 ⟨.bin .neq (.tm 0) (.c (.int .i64 0)),.tm,some ((.tm 4),false)⟩,
 ⟨.pick (.tm 5) (.c (.bool true)) (.tm 0),.tm,none⟩,
 ⟨.mov (.tm 0),.tm,none⟩,
 ⟨.mov (.fr 8),.tm,some ((.tm 0),false)⟩,
 ⟨.loadn 6 (.fr 13),.tm,some ((.tm 1),false)⟩,
 ⟨.iface 49 (.tm 0),.tm,some ((.tm 2),false)⟩,
 ⟨.callf 14 [(.tm 2),(.tm 0)],.tm,some ((.tm 3),false)⟩,
 ⟨.bin .neq (.tm 0) (.c (.int .i64 0)),.tm,some ((.tm 4),false)⟩,
 ⟨.pick (.tm 5) (.c (.bool true)) (.tm 0),.fr 27,none⟩]) <|
 .cond (.fr 27)
 (.seq (.reg [
 ⟨.mov (.c (.bool false)),.fr 5,none⟩]) <|
 .ret)
 (.skip)) <|
 .seq (.reg [
 ⟨.mov (.fr 6),.tm,none⟩,
 ⟨.callf 15 [(.tm 0)],.tm,none⟩,
 ⟨.mov (.tm 0),.tm,none⟩,
 ⟨.extract (.tm 0) 0,.tm,none⟩,
 ⟨.extract (.tm 1) 1,.tm,none⟩,
 ⟨.extract (.tm 2) 2,.tm,none⟩,
 ⟨.new 43 68 A5u,.fr 17,none⟩,
 ⟨.new 56 4 [(.int .i64 0),(.int .i64 0),(.int .u64 0),(.int .u32 0)],.fr 18,none⟩,
 ⟨.storen 68 (.fr 17) (.tm 2),.no,none⟩,
 ⟨.storen 4 (.fr 18) (.tm 1),.no,none⟩,
 ⟨.mov (.tm 0),.fr 19,none⟩]) <|
 .seq (.reg [
 ⟨.mov (.fr 8),.tm,none⟩,
 ⟨.callf 15 [(.tm 0)],.tm,none⟩,
 ⟨.mov (.tm 0),.tm,none⟩,
 ⟨.extract (.tm 0) 0,.tm,none⟩,
 ⟨.extract (.tm 1) 1,.tm,none⟩,
 ⟨.extract (.tm 2) 2,.tm,none⟩,
 ⟨.new 43 68 A5u,.fr 20,none⟩,
 ⟨.new 56 4 [(.int .i64 0),(.int .i64 0),(.int .u64 0),(.int .u32 0)],.fr 21,none⟩,
 ⟨.storen 68 (.fr 20) (.tm 2),.no,none⟩,
 ⟨.storen 4 (.fr 21) (.tm 1),.no,none⟩,
 ⟨.mov (.tm 0),.fr 22,none⟩]) <|
 .seq (.seq (.reg [
 ⟨.mov (.fr 19),.tm,none⟩,
 ⟨.bin .neq (.tm 0) (.c (.int .i64 0)),.tm,none⟩,
 ⟨.mov (.tm 0),.tm,none⟩,
 ⟨.mov (.fr 22),.tm,some ((.tm 0),false)⟩,
 ⟨.bin .neq (.tm 0) (.c (.int .i64 0)),.tm,some ((.tm 1),false)⟩,
 ⟨.pick (.tm 2) (.c (.bool true)) (.tm 0),.tm,none⟩,
 ⟨.mov (.tm 0),.tm,none⟩,
 ⟨.loadn 68 (.fr 17),.tm,some ((.tm 0),false)⟩,
 ⟨.loadn 68 (.fr 20),.tm,some ((.tm 1),false)⟩,
 ⟨.eqs A71 true (.tm 1) (.tm 0),.tm,some ((.tm 2),false)⟩,
 ⟨.pick (.tm 3) (.c (.bool true)) (.tm 0),.tm,none⟩,
 ⟨.mov (.tm 0),.tm,none⟩,
 ⟨.loadn 4 (.fr 18),.tm,some ((.tm 0),false)⟩,
 ⟨.loadn 4 (.fr 21),.tm,some ((.tm 1),false)⟩,
 ⟨.eqs [1,1,1,1] true (.tm 1) (.tm 0),.tm,some ((.tm 2),false)⟩,
 ⟨.pick (.tm 3) (.c (.bool true)) (.tm 0),.tm,none⟩,
 ⟨.mov (.tm 0),.tm,none⟩,
 ⟨.faddr 0 (.fr 18),.tm,some ((.tm 0),false)⟩,
 ⟨.load1 (.tm 0),.tm,some ((.tm 1),false)⟩,
 ⟨.mov (.fr 12),.tm,some ((.tm 2),false)⟩,
 ⟨.bin .add (.tm 0) (.c (.int .i64 1)),.tm,some ((.tm 3),false)⟩,
 ⟨.bin .neq (.tm 2) (.tm 0),.tm,some ((.tm 4),false)⟩,
 ⟨.pick (.tm 5) (.c (.bool true)) (.tm 0),.tm,none⟩,
 ⟨.mov (.tm 0),.tm,none⟩,
 ⟨.faddr 1 (.fr 18),.tm,some ((.tm 0),false)⟩,
 ⟨.load1 (.tm 0),.tm,some ((.tm 1),false)⟩,
 ⟨.mov (.fr 3),.tm,some ((.tm 2),false)⟩,
 ⟨.bin .neq (.tm 1) (.tm 0),.tm,some ((.tm 3),false)⟩,
 ⟨.pick (.tm 4) (.c (.bool true)) (.tm 0),.tm,none⟩,
 ⟨.mov (.tm 0),.tm,none⟩,
 ⟨.mov (.fr 10),.tm,some ((.tm 0),false)⟩,
 ⟨.loadn 68 (.fr 17),.tm,some ((.tm 1),false)⟩,
 ⟨.callf 16 [(.tm 1),(.tm 0)],.tm,some ((.tm 2),false)⟩,
 ⟨.un .not (.tm 0),.tm,some ((.tm 3),false)⟩,
 ⟨.pick (.tm 4) (.c (.bool true)) (.tm 0),.fr 28,none⟩]) <|
 .cond (.fr 28)
 (.seq (.reg [
 ⟨.mov (.c (.bool false)),.fr 5,none⟩]) <|
 .ret)
 (.skip)) <|
 .seq (.dreg [
 (⟨.mov (.fr 6),.tm,none⟩,[]),
 (⟨.callf 17 [(.tm 0)],.tm,none⟩,[]),
 (⟨.bin .neq (.tm 0) (.c (.int .i64 0)),.tm,none⟩,[]),
 (⟨.mov (.tm 0),.tm,none⟩,[]),
 (⟨.mov (.fr 8),.tm,some ((.tm 0),false)⟩,[]),
 (⟨.callf 17 [(.tm 0)],.tm,some ((.tm 1),false)⟩,[]),
 (⟨.bin .neq (.tm 0) (.c (.int .i64 0)),.tm,some ((.tm 2),false)⟩,[]),
 (⟨.pick (.tm 3) (.c (.bool true)) (.tm 0),.tm,none⟩,[]),
 (⟨.mov (.tm 0),.tm,none⟩,[]),
 (⟨.mov (.fr 6),.tm,some ((.tm 0),false)⟩,[]),
 (⟨.callf 18 [(.tm 0)],.tm,some ((.tm 1),false)⟩,[]),
 (⟨.loadn 68 (.fr 17),.tm,some ((.tm 2),false)⟩,[10]),
 (⟨.eqs A71 true (.tm 1) (.tm 0),.tm,some ((.tm 3),false)⟩,[]),
 (⟨.pick (.tm 4) (.c (.bool true)) (.tm 0),.tm,none⟩,[]),
 (⟨.mov (.tm 0),.tm,none⟩,[]),
 (⟨.mov (.fr 8),.tm,some ((.tm 0),false)⟩,[]),
 (⟨.callf 18 [(.tm 0)],.tm,some ((.tm 1),false)⟩,[]),
 (⟨.loadn 68 (.fr 17),.tm,some ((.tm 2),false)⟩,[16]),
 (⟨.eqs A71 true (.tm 1) (.tm 0),.tm,some ((.tm 3),false)⟩,[]),
 (⟨.pick (.tm 4) (.c (.bool true)) (.tm 0),.tm,none⟩,[]),
 (⟨.mov (.tm 0),.tm,none⟩,[]),
 (⟨.mov (.fr 6),.tm,some ((.tm 0),false)⟩,[]),
 (⟨.callf 17 [(.tm 0)],.tm,some ((.tm 1),false)⟩,[]),
 (⟨.bin .neq (.tm 0) (.c (.int .i64 4)),.tm,some ((.tm 2),false)⟩,[]),
 (⟨.pick (.tm 3) (.c (.bool true)) (.tm 0),.fr 29,none⟩,[])]) <|
 .cond (.fr 29)
 (.seq (.reg [
 ⟨.mov (.c (.bool false)),.fr 5,none⟩]) <|
 .ret)
 (.skip))) <|
 .reg [
 ⟨.mov (.fr 12),.tm,none⟩,
 ⟨.bin .add (.tm 0) (.c (.int .i64 1)),.tm,none⟩,
 ⟨.mov (.tm 0),.fr 12,none⟩]))) <|
 .seq (.reg [
 ⟨.callf 8 [],.tm,none⟩,
 ⟨.mov (.tm 0),.fr 5,none⟩]) <|
 .ret,[.t 5]⟩
end Go.AM.F
namespace Go.AM.Fd
open Nat (reduceAdd reduceEqDiff reduceLT reduceLeDiff reduceMul reduceSub)
open Go.Proofs Go.AM.F
structure Ai (wh i:Int) (s:Sta) (ep:Int) (C:Ch):Prop where
 s:C.s=s
 ep:C.ep=ep
 fl:C.fl=0
 ch:C.sd.ch=wh
 cy:C.sd.cy=i
 kp:C.sd.kept=none
def cB(wh c:Int)(x:Inp)(cs:List (Int×Int))(s:Sta)(ep:Int):Ch:=⟨s,ep,0,⟨wh,c,some ⟨wh,c,x,cs⟩,none,none,false⟩,false,none⟩
def cH(wh oh c:Int)(x:Inp)(cs:List (Int×Int))(y:Inp)(ds:List (Int×Int))(s:Sta)(ep:Int):Ch:=⟨s,ep,0,⟨wh,c,some ⟨wh,c,x,cs⟩,some ⟨oh,c,y,ds⟩,none,false⟩,false,none⟩
theorem Ai.beg{L:Ly}{wh i:Int}{s:Sta}{ep:Int}{C:Ch}(h:Ai wh i s ep C)(h0:0<=i)(h1:i<=1000){x:Inp}{cs:List (Int×Int)}(hr:inR L.s.length L.p.length L.r.length x cs=true):
 bgS L C (i+1) x cs=cB wh (i+1) x cs s ep/\bgR L C (i+1) x cs=⟨wh,i+1,x,cs⟩/\bgE L C (i+1) x cs=0:=by
 obtain⟨s',ep',fl',⟨ch,cy,ow,ot,kp,br⟩,tk,nx⟩:=C
 obtain⟨rfl,rfl,rfl,rfl,rfl,rfl⟩:=h
 simp only at*
 have hb:bgB L ⟨s',ep',0,⟨ch,cy,ow,ot,none,br⟩,tk,nx⟩ (cy+1) x cs=true:=by
  unfold bgB
  rw[decide_eq_false (by omega),decide_eq_false (by simp only;omega),hr];rfl
 have hn:¬cy+1<=cy:=by omega
 unfold bgS bgR bgE Ai8 Ait Ajx
 rw[hb]
 simp only[hn,if_false,if_true]
 exact⟨rfl,trivial,trivial⟩
theorem Asm{L:Ly}{wh oh c:Int}(hw:oh=IntKind.i64.wrap (1-wh)){x:Inp}{cs:List (Int×Int)}{y:Inp}{ds:List (Int×Int)}{s:Sta}{ep:Int}(hr:inR L.s.length L.p.length L.r.length y ds=true):
 hhS L (cB wh c x cs s ep) ⟨oh,c,y,ds⟩=cH wh oh c x cs y ds s ep/\hhE L (cB wh c x cs s ep) ⟨oh,c,y,ds⟩=0:=by
 unfold hhS hhE
 rw[hr]
 have h1:¬oh≠IntKind.i64.wrap (1-wh):=fun e=>e hw
 have h2:¬c<c:=by omega
 unfold Aec Aeq cB cH
 simp only[h1,h2,if_true,if_false]
 exact⟨trivial,trivial⟩
def cT(L:Ly)(x:Inp)(cs:List (Int×Int))(y:Inp)(ds:List (Int×Int))(s:Sta):Sta:=Acj L s (Ae9 x y) (Ajj cs ds)
theorem Axv(x y:Inp):Ae9 x y=Ae9 y x:=by
 unfold Ae9
 simp only[Inp.mk.injEq]
 exact⟨funext fun _=>Bool.or_comm _ _,funext fun _=>Bool.and_comm _ _,funext fun _=>Bool.and_comm _ _⟩
theorem A5f(a b:List (Int×Int)):Ajj a b=Ajj b a:=by
 unfold Ajj
 by_cases h:a=b
 ·subst h;rfl
 ·rw[if_neg h,if_neg (fun e=>h e.symm)]
theorem cT_c(L:Ly)(x:Inp)(cs:List (Int×Int))(y:Inp)(ds:List (Int×Int))(s:Sta):cT L y ds x cs s=cT L x cs y ds s:=by unfold cT;rw[Axv,A5f]
theorem A5g{L:Ly}{wh oh c:Int}{x:Inp}{cs:List (Int×Int)}{y:Inp}{ds:List (Int×Int)}{s:Sta}{ep:Int}:thW L (cH wh oh c x cs y ds s ep)=.tuple #[.agg (stl (cT L x cs y ds s)).toArray,.agg #[.int .i64 c,.int .i64 ep,S64 fun i=>decide (i<L.r.length)&&Ad3 L (Ae9 x y) (cT L x cs y ds s) i,S32 (cT L x cs y ds s).po],.int .i64 0]∧
 thC L (cH wh oh c x cs y ds s ep)={cH wh oh c x cs y ds s ep with nx:=some (cT L x cs y ds s)}:=⟨rfl,rfl⟩
def cK(wh oh c:Int)(x:Inp)(cs:List (Int×Int))(y:Inp)(ds:List (Int×Int))(t:Sta)(ep:Int):Ch:={cH wh oh c x cs y ds t ep with tk:=true,nx:=none}
theorem Av1{wh oh c:Int}{x:Inp}{cs:List (Int×Int)}{y:Inp}{ds:List (Int×Int)}{s t:Sta}{ep:Int}:tkS {cH wh oh c x cs y ds s ep with nx:=some t}=cK wh oh c x cs y ds t ep/\tkE {cH wh oh c x cs y ds s ep with nx:=some t}=0:=⟨rfl,rfl⟩
theorem A5h{wh oh c:Int}{x:Inp}{cs:List (Int×Int)}{y:Inp}{ds:List (Int×Int)}{t:Sta}{ep:Int}:tkS (cK wh oh c x cs y ds t ep)=cK wh oh c x cs y ds t ep/\tkE (cK wh oh c x cs y ds t ep)=4:=⟨rfl,rfl⟩
theorem A5i{wh oh c:Int}{x:Inp}{cs:List (Int×Int)}{y:Inp}{ds:List (Int×Int)}{t:Sta}{ep:Int}:Ai wh c t ep (cK wh oh c x cs y ds t ep):=⟨rfl,rfl,rfl,rfl,rfl,rfl⟩
theorem Aoe:A5u=stl Abi:=Ac9
theorem ChR.oz{W:Wd}{H:Aaa}{a sa:Nat}{p:Int}{L:Ly}{A:Ch}(h:ChR W H a sa p L A):∀z,z=1\/z=2\/z=4\/z=5->∀b∈[a,sa],∀o r c T,H.get b≠some (.cells o r z c T):=by
 obtain⟨v,hv⟩:=h
 obtain⟨_,_,_,ga,_⟩:=hv.sd
 intro z hz b hb o r c T e
 simp only[List.mem_cons,List.not_mem_nil,or_false]at hb
 rcases hb with rfl|rfl
 ·rw[hv.g]at e;cases e;omega
 ·rw[ga]at e;cases e;omega
theorem A5j(a b:Int)(f:Nat->Bool)(g:Nat->Bool)(H:Aaa):Aak (.eqs [1,1,1,1] true (.agg #[.int .i64 a,.int .i64 b,S64 f,S32 g]) (.agg #[.int .i64 a,.int .i64 b,S64 f,S32 g])) H=some (.bool false,H):=by
 simp[Aak,Ae6,eqC,S64,S32]
theorem t3{H:Aaa}{u:V4}{xs:List RV}{L:Ly}(hl:LyR H u xs L)(hi:Ah5 9223372036854775807 L){va vb:Value}{la lb:List IV}(ha:InL H va la)(hb:InL H vb lb)(ep:Int):
 ∃w K,Aaq Tryz.prog 0 3 [.agg u.l.toArray,va,vb,.int .i64 ep] H w K/\w=.bool true/\Aac H K:=by
 refine Aam f3 ?_
 intro Q hq1 hq2
 have ho:=Ai3 hl
 have ll:u.l.length=4:=rfl
 have isa:=Sl.is ha.s
 have isb:=Sl.is hb.s
 have lna:Ab9 va=la.length:=by have:=Sl.len ha.s;simpa using this
 have lnb:Ab9 vb=lb.length:=by have:=Sl.len hb.s;simpa using this
 obtain⟨K0,hK0⟩:∃X,X=H.alloc (.cells true false 4 u.l 27):=⟨_,rfl⟩
 have k0:Aac H K0:=by rw[hK0];exact(Aac.refl H).alloc _
 have n0:K0.n=H.n+1:=by rw[hK0];rfl
 have gl0:K0.get H.n=some (.cells true false 4 u.l 27):=by rw[hK0];exact Aaa.Bfd H _
 have hl0:=hl.keeps k0
 have works:∀{K:Aaa} {KF:Value->Aaa->Prop},(KF (.bool true) K)->∃w V,Aaq Tryz.prog 0 8 [] K w V/\KF w V:=fun{K KF} h=>by
  obtain⟨_,_,a,rfl,rfl⟩:=t8 K
  exact⟨_,_,a,h⟩
 simp(disch:=first|assumption|omega)only[f3,P4,seval,ho,ll]
 rw[<-hK0]
 refine Aae (t7 (top:=300) (by omega) hl0 hi) ?_
 rintro _ X ⟨⟨nw,rfl⟩,hX⟩
 rw[hX]
 by_cases hw:(300:Int)<nw
 ·simp(disch:=first|assumption|omega)only[P4,seval,hw]
  refine works ?_
  simp(disch:=first|assumption|omega)only[P4,seval]
  exact hq2 _ _ ⟨.bool true,rfl,rfl,k0⟩
 by_cases h40:(40:Int)<((la.length:Nat):Int)
 ·simp(disch:=first|assumption|omega)only[P4,seval,hw,isa,lna,h40]
  refine works ?_
  simp(disch:=first|assumption|omega)only[P4,seval]
  exact hq2 _ _ ⟨.bool true,rfl,rfl,k0⟩
 simp(disch:=first|assumption|omega)only[P4,seval,hw,isa,lna,h40,gl0,Aa9,ll]
 by_cases he:Aan L=0
 case neg=>
  obtain⟨_,K1,r1,k1,_,e1⟩:=t9 (wh:=0) hl0 hi
  rw[(e1 (.inl rfl)).1 he]at r1
  refine⟨_,_,r1,?_⟩
  have gl1:=k1.at_ gl0
  simp(disch:=first|assumption|omega)only[P4,seval,gl1,Aa9,ll]
  obtain⟨_,K2,r2,k2,_,e2⟩:=t9 (wh:=1) (hl0.keeps k1) hi
  rw[(e2 (.inr rfl)).1 he]at r2
  refine⟨_,_,r2,?_⟩
  have gl2:=k2.at_ gl1
  simp(disch:=first|assumption|omega)only[P4,seval,gl2,Aa9,ll]
  obtain⟨_,K3,r3,k3,rfl⟩:=u10 ((hl0.keeps k1).keeps k2) hi he
  refine⟨_,_,r3,?_⟩
  have ne:(Aan L != 0)=true:=by simp[he]
  simp(disch:=first|assumption|omega)only[P4,seval,ne]
  refine works ?_
  simp(disch:=first|assumption|omega)only[P4,seval]
  exact hq2 _ _ ⟨.bool true,rfl,rfl,((k0.trans k1).trans k2).trans k3⟩
 case pos=>
 refine Aae (u9 (wh:=0) hl0 hi (.inl rfl) he) ?_
 rintro _ K1 ⟨a,sa,wa,rfl,na⟩
 have gl1:=na.k.at_ gl0
 have hl1:=hl0.keeps na.k
 simp(disch:=first|assumption|omega)only[P4,seval,gl1,Aa9,ll]
 refine Aae (u9 (wh:=1) hl1 hi (.inr rfl) he) ?_
 rintro _ K2 ⟨b,sb,wb,rfl,nb⟩
 have tw:=na.two (Aac.refl K1) nb
 obtain⟨W,hW⟩:∃W:Wd,W=⟨K2,[a,sa,b,sb]⟩:=⟨_,rfl⟩
 rw[<-hW]at tw
 have kH:Aac H K2:=k0.trans (na.k.trans nb.k)
 have gl2:=nb.k.at_ gl1
 have hl2:=hl1.keeps nb.k
 have oA:H.n<=a/\H.n<=sa:=⟨by have:=na.lc;omega,by have:=na.ls;omega⟩
 have oB:H.n<=b/\H.n<=sb:=⟨by have:=nb.lc;have:=na.k.n;omega,by have:=nb.ls;have:=na.k.n;omega⟩
 simp(disch:=first|assumption|omega)only[P4,seval,gl2,Aa9,ll]
 refine Aae (t10 hl2 hi he) ?_
 rintro _ K3 ⟨k3,mb,rfl,mA⟩
 have tw:=tw.keeps k3
 have kH:=kH.trans k3
 simp(disch:=first|assumption|omega)only[P4,seval,Aoe]
 refine Aae (t11 tw.ca (.inl rfl) he Abi ep 0) ?_
 rintro _ K4 ⟨rfl,c4,sa',hs4,hA⟩
 have kH4:=kH.Bfh c4 (by simp;exact oA)
 cases hrb:Axe L Abi ep 0 with
 |false=>
  have e2:Amd L Abi ep 0=2:=by unfold Amd;rw[hrb];rfl
  rw[e2]
  simp(disch:=first|assumption|omega)only[P4,seval]
  refine works ?_
  simp(disch:=first|assumption|omega)only[P4,seval]
  exact hq2 _ _ ⟨.bool true,rfl,rfl,kH4⟩
 |true=>
 have e2:Amd L Abi ep 0=0:=by unfold Amd;rw[hrb];rfl
 have e3:∀C wh,Aod L C wh Abi ep 0=⟨Abi,ep,0,sd0 wh,false,none⟩:=fun C wh=>by unfold Aod;rw[hrb];rfl
 rw[e2]
 rw[e3]at hA
 have mA:=mA.chg c4 tw.ca.oz
 have tw:=tw.step c4 hs4 hA
 have oA:H.n<=a/\H.n<=sa':=⟨oA.1,by have:=kH.n;rcases hs4 with rfl|h;exact oA.2;omega⟩
 simp(disch:=first|assumption|omega)only[P4,seval,Aoe]
 refine Aae (t11 tw.cb (.inr rfl) he Abi ep 0) ?_
 rintro _ K5 ⟨rfl,c5,sb',hs5,hB⟩
 rw[e2]
 rw[e3]at hB
 have kH5:=kH4.Bfh c5 (by simp;exact oB)
 have mA:=mA.chg c5 tw.cb.oz
 have tw:=(tw.swap.step c5 hs5 hB).swap
 have oB:H.n<=b/\H.n<=sb':=⟨oB.1,by have:=kH4.n;rcases hs5 with rfl|h;exact oB.2;omega⟩
 simp(disch:=first|assumption|omega)only[P3,seval,Aah,Aao]
 rw[Aag]
 have gl5:K5.get H.n=some (.cells true false 4 u.l 27):=by
  have g3:=k3.at_ gl2
  have a1:=na.lc
  have a2:=na.ls
  have a3:=nb.lc
  have a4:=nb.ls
  have a5:=na.k.n
  have a6:=k3.n
  have a7:=nb.k.n
  have a8:=c4.n
  refine c5.at_ (c4.at_ g3 ?_) ?_
  ·simp;omega
  ·simp;omega
 obtain⟨A0,hA0⟩:∃z:Value,z=.agg u.l.toArray:=⟨_,rfl⟩
 rw[<-hA0]
 refine Aal (fun q fr K=>∃i x13 x14 x15 x16 x17 x18 x19 x20 x21 x22 x25 x26 x27 x28 x29 sa sb A B s,fr=[A0,va,vb,.int .i64 ep,ptr H.n 0,.bool false,ptr a 0,.int .i64 0,ptr b 0,.int .i64 0,ptr mb 0,.int .i64 0,.int .i64 ((i:Nat):Int),x13,x14,x15,x16,x17,x18,x19,x20,x21,x22,.bool false,.bool false,x25,x26,x27,x28,x29]∧
  Asi W K a sa b sb 0 1 L A B/\Ai 0 i s ep A/\Ai 1 i s ep B/\RI L s/\MaA K mb L/\Aac H K/\K.get H.n=some (.cells true false 4 u.l 27)/\(H.n<a/\H.n<sa/\H.n<b/\H.n<sb)/\(i<=la.length/\i<=lb.length)/\q=la.length-i) la.length
  ⟨0,_,_,_,_,_,_,_,_,_,_,_,_,_,_,_,sa',sb',_,_,Abi,rfl,tw,⟨rfl,rfl,rfl,rfl,rfl,rfl⟩,⟨rfl,rfl,rfl,rfl,rfl,rfl⟩,ri_0 L,mA,kH5,gl5,by
   have a1:=na.lc
   have a2:=na.ls
   have a3:=nb.lc
   have a4:=nb.ls
   have a5:=na.k.n
   have a6:=k3.n
   have a7:=nb.k.n
   have a8:=c4.n
   omega,by omega,rfl⟩ ?_
 rintro Q' q fr K ⟨i,x13,x14,x15,x16,x17,x18,x19,x20,x21,x22,x25,x26,x27,x28,x29,sa,sb,A,B,s,rfl,tw,aA,aB,ri,mA,kK,glK,oo,hi2,rfl⟩ hn' hx' hret
 by_cases hlt:i<la.length
 case neg=>
  have e1:¬(i:Int)<((la.length:Nat):Int):=by omega
  simp(disch:=first|assumption|omega)only[P4,seval,isa,lna,e1]
  refine hx' _ _ _ ?_
  simp(disch:=first|assumption|omega)only[P4,seval]
  refine works ?_
  simp(disch:=first|assumption|omega)only[P4,seval]
  exact hq2 _ _ ⟨.bool true,rfl,rfl,kK⟩
 have e1:(i:Int)<((la.length:Nat):Int):=by omega
 by_cases hltb:i<lb.length
 case neg=>
  have e2:¬(i:Int)<((lb.length:Nat):Int):=by omega
  simp(disch:=first|assumption|omega)only[P4,seval,isa,lna,isb,lnb,e1,e2]
  refine hx' _ _ _ ?_
  simp(disch:=first|assumption|omega)only[P4,seval]
  refine works ?_
  simp(disch:=first|assumption|omega)only[P4,seval]
  exact hq2 _ _ ⟨.bool true,rfl,rfl,kK⟩
 have e2:(i:Int)<((lb.length:Nat):Int):=by omega
 have e0:(0:Int)<=(i:Int):=by omega
 have haK:=ha.keeps kK
 have hbK:=hb.keeps kK
 obtain⟨nna,ra⟩:=haK.at_ hlt
 obtain⟨nnb,rb⟩:=hbK.at_ hltb
 have ma:la.getD i iv0∈la:=by rw[List.getD_eq_getElem?_getD,List.getElem?_eq_getElem hlt];exact List.getElem_mem hlt
 have mb_:lb.getD i iv0∈lb:=by rw[List.getD_eq_getElem?_getD,List.getElem?_eq_getElem hltb];exact List.getElem_mem hltb
 obtain⟨sca,kda⟩:=haK.c _ ma
 obtain⟨scb,kdb⟩:=hbK.c _ mb_
 have rbZ:∀{Z:Aaa},Aac H Z->Afs Z 4 vb i=some (inl (lb.getD i iv0).x (lb.getD i iv0).v):=fun k=>((hb.keeps k).at_ hltb).2
 generalize la.getD i iv0=P at*
 generalize lb.getD i iv0=R at*
 have isP:=Sl.is sca.s
 have isR:=Sl.is scb.s
 have lnP:Ab9 P.v=P.c.length:=by have:=Sl.len sca.s;simpa using this
 have lnR:Ab9 R.v=R.c.length:=by have:=Sl.len scb.s;simpa using this
 have iP:inl P.x P.v=[S64 P.x.oc,S32 P.x.nr,S32 P.x.rv,P.v]:=rfl
 have iR:inl R.x R.v=[S64 R.x.oc,S32 R.x.nr,S32 R.x.rv,R.v]:=rfl
 rw[iP]at ra
 rw[iR]at rb
 have hL:=Aa1 (Aar he)
 by_cases p20:(20:Int)<((P.c.length:Nat):Int)
 ·simp(disch:=first|assumption|omega)only[P4,seval,isa,lna,isb,lnb,e0,e1,e2,nna,ra,Aaj,isP,lnP,p20]
  refine works ?_
  simp(disch:=first|assumption|omega)only[P4,seval]
  exact hret _ _ (hq2 _ _ ⟨.bool true,rfl,rfl,kK⟩)
 by_cases r20:(20:Int)<((R.c.length:Nat):Int)
 ·simp(disch:=first|assumption|omega)only[P4,seval,isa,lna,isb,lnb,e0,e1,e2,nna,ra,nnb,rb,Aaj,isP,lnP,isR,lnR,p20,r20]
  refine works ?_
  simp(disch:=first|assumption|omega)only[P4,seval]
  exact hret _ _ (hq2 _ _ ⟨.bool true,rfl,rfl,kK⟩)
 have tRa:=u12 (x:=P.x) (cs:=P.c) (hl.keeps kK) hL sca.s (by omega)
 have tRb:=u12 (x:=R.x) (cs:=R.c) (hl.keeps kK) hL scb.s (by omega)
 rw[iP]at tRa
 rw[iR]at tRb
 have rfu:∀(o r:Bool) (T:Nat),Ac5 (some (.cells o r 4 u.l T)) 0 4=some u.l:=fun _ _ _=>Aa9 ll
 simp(disch:=first|assumption|omega)only[P4,seval,isa,lna,isb,lnb,e0,e1,e2,nna,ra,nnb,rb,Aaj,Aai,isP,lnP,isR,lnR,p20,r20,glK,rfu]
 refine Aae tRa ?_
 rintro _ X ⟨rfl,hX⟩
 rw[hX]
 cases era:inR L.s.length L.p.length L.r.length P.x P.c with
 |false=>
  simp(disch:=first|assumption|omega)only[P4,seval]
  refine works ?_
  simp(disch:=first|assumption|omega)only[P4,seval]
  exact hret _ _ (hq2 _ _ ⟨.bool true,rfl,rfl,kK⟩)
 |true=>
 simp(disch:=first|assumption|omega)only[P4,seval,isb,lnb,e0,e2,nnb,rb,Aai,glK,rfu]
 refine Aae tRb ?_
 rintro _ X ⟨rfl,hX⟩
 rw[hX]
 cases erb:inR L.s.length L.p.length L.r.length R.x R.c with
 |false=>
  simp(disch:=first|assumption|omega)only[P4,seval]
  refine works ?_
  simp(disch:=first|assumption|omega)only[P4,seval]
  exact hret _ _ (hq2 _ _ ⟨.bool true,rfl,rfl,kK⟩)
 |true=>
 have ecy:IntKind.i64.wrap ((i:Int)+1)=(i:Int)+1:=by rw[Aa5 (by omega) (by omega)]
 have ecn:(((i+1:Nat)):Int)=(i:Int)+1:=by omega
 obtain⟨la_,lsa,_⟩:=tw.ca.lt
 obtain⟨lb_,lsb,_⟩:=tw.cb.lt
 have tB:=t13 tw.ca ((i:Int)+1) (x:=P.x) sca (by omega) kda
 obtain⟨b1,b2,b3⟩:=aA.beg e0 (by omega) era
 rw[b1,b2,b3,iP]at tB
 simp(disch:=first|assumption|omega)only[P4,seval,isa,lna,isb,lnb,e0,e1,e2,nna,ra,Aai,glK,rfu,ecy]
 refine Aae tB ?_
 rintro _ K7 ⟨c7,hA,y7,rfl,hy7⟩
 have er:∀wh x cs y,rdl ⟨wh,(i:Int)+1,x,cs⟩ y=[.int .i64 wh,.int .i64 ((i:Int)+1),S64 x.oc,S32 x.nr,S32 x.rv,y]:=fun _ _ _ _=>rfl
 have oy7:=Sl.one hy7.s
 have gl7:=c7.at_ glK (by simp;omega)
 have sb7:=scb.oth c7 tw.ca.o2
 have m7:=mA.chg c7 tw.ca.oz
 have tw:=tw.step c7 (.inl rfl) hA
 have n7:=c7.n
 have q7:=kK.Bfh c7 (by simp;omega)
 obtain⟨K8,hK8⟩:∃X,X=K7.alloc (.cells true false 6 (rdl ⟨0,(i:Int)+1,P.x,P.c⟩ y7) 49):=⟨_,rfl⟩
 have k8:Aac K7 K8:=by rw[hK8];exact(Aac.refl _).alloc _
 have g8:K8.get K7.n=some (.cells true false 6 (rdl ⟨0,(i:Int)+1,P.x,P.c⟩ y7) 49):=by rw[hK8];exact Aaa.Bfd K7 _
 have gl8:=k8.at_ gl7
 have m8:=m7.keeps k8
 have q8:=q7.trans k8
 have rb8:=rbZ q8
 have tw:=tw.keeps k8
 have tB:=t13 tw.cb ((i:Int)+1) (x:=R.x) (sb7.keeps k8) (by omega) kdb
 obtain⟨b1,b2,b3⟩:=aB.beg e0 (by omega) erb
 rw[b1,b2,b3,iR]at tB
 rw[iR]at rb8
 rw[er]at hK8 g8 ⊢
 simp(disch:=first|assumption|omega|(simp only[LN]<;>omega)|(simp(disch:=first|assumption|omega|(simp only[LN]<;>omega))only[Aab,Aad];assumption))only[P4,seval,oy7,isb,lnb,e0,e2,nnb,ecy,O4]
 rw[<-hK8]
 simp(disch:=first|assumption|omega)only[P4,seval,isb,lnb,e0,e2,nnb,rb8,Aai,ecy]
 refine Aae tB ?_
 rintro _ K9 ⟨c9,hB,y9,rfl,hy9⟩
 have oy9:=Sl.one hy9.s
 have n8:=k8.n
 have n9:=c9.n
 have gl9:=c9.at_ gl8 (by simp;omega)
 have g9:=c9.at_ g8 (by simp;omega)
 have h7:=(hy7.keeps k8).oth c9 tw.cb.o2
 have m9:=m8.chg c9 tw.cb.oz
 have q9:=q8.Bfh c9 (by simp;omega)
 have tw:=(tw.swap.step c9 (.inl rfl) hB).swap
 obtain⟨K10,hK10⟩:∃X,X=K9.alloc (.cells true false 6 (rdl ⟨1,(i:Int)+1,R.x,R.c⟩ y9) 49):=⟨_,rfl⟩
 have k10:Aac K9 K10:=by rw[hK10];exact(Aac.refl _).alloc _
 have g10:K10.get K9.n=some (.cells true false 6 (rdl ⟨1,(i:Int)+1,R.x,R.c⟩ y9) 49):=by rw[hK10];exact Aaa.Bfd K9 _
 have g10':=k10.at_ g9
 have gl10:=k10.at_ gl9
 have m10:=m9.keeps k10
 have q10:=q9.trans k10
 have tw:=tw.keeps k10
 have okR:∀wh,ROk ⟨wh,(i:Int)+1,R.x,R.c⟩:=fun _=>⟨by simp only;omega,kdb⟩
 have okP:∀wh,ROk ⟨wh,(i:Int)+1,P.x,P.c⟩:=fun _=>⟨by simp only;omega,kda⟩
 have tH:=t14 tw.ca (okR 1) (hy9.keeps k10)
 obtain⟨w1,w3⟩:=Asm (wh:=0) (oh:=1) (c:=(i:Int)+1) (x:=P.x) (cs:=P.c) (s:=s) (ep:=ep) (L:=L) rfl erb
 obtain⟨w2,w4⟩:=Asm (wh:=1) (oh:=0) (c:=(i:Int)+1) (x:=R.x) (cs:=R.c) (s:=s) (ep:=ep) (L:=L) rfl era
 rw[w1,w3]at tH
 rw[er]at hK10 g10 tH ⊢
 simp(disch:=first|assumption|omega|(simp only[LN]<;>omega)|(simp(disch:=first|assumption|omega|(simp only[LN]<;>omega))only[Aab,Aad];assumption))only[P4,seval,oy9,O4]
 rw[<-hK10]
 refine Aae tH ?_
 rintro _ K11 ⟨rfl,c11,hA⟩
 have g11:=c11.at_ g10' (by simp;omega)
 have gl11:=c11.at_ gl10 (by have:=k10.n;simp;omega)
 have n10:=k10.n
 have n11:=c11.n
 have h8:=(h7.keeps k10).oth c11 tw.ca.o2
 have m11:=m10.chg c11 tw.ca.oz
 have q11:=q10.Bfh c11 (by simp;omega)
 have tw:=tw.step c11 (.inl rfl) hA
 have tH:=t14 tw.cb (okP 0) h8
 rw[w2,w4]at tH
 rw[er]at tH
 simp(disch:=first|assumption|omega|(simp only[LN]<;>omega)|(simp(disch:=first|assumption|omega|(simp only[LN]<;>omega))only[Aab,Aad];assumption))only[P4,seval,g11]
 refine Aae tH ?_
 rintro _ K12 ⟨rfl,c12,hB⟩
 have n12:=c12.n
 have gl12:=c12.at_ gl11 (by simp;omega)
 have m12:=m11.chg c12 tw.cb.oz
 have q12:=q11.Bfh c12 (by simp;omega)
 have tw:=(tw.swap.step c12 (.inl rfl) hB).swap
 simp(disch:=first|assumption|omega)only[P4,seval]
 refine Aae (t15 tw.ca he) ?_
 rintro _ K13 ⟨rfl,c13,hA⟩
 have n13:=c13.n
 have gl13:=c13.at_ gl12 (by simp;omega)
 have m13:=m12.chg c13 tw.ca.oz
 have q13:=q12.Bfh c13 (by simp;omega)
 have tw:=tw.step c13 (.inl rfl) hA
 obtain⟨T,hT⟩:∃T,T=cT L P.x P.c R.x R.c s:=⟨_,rfl⟩
 obtain⟨f,hf⟩:∃f:Nat->Bool,f=fun j=>decide (j<L.r.length)&&Ad3 L (Ae9 P.x R.x) T j:=⟨_,rfl⟩
 have eA:=A5g (L:=L) (wh:=0) (oh:=1) (c:=(i:Int)+1) (x:=P.x) (cs:=P.c) (y:=R.x) (ds:=R.c) (s:=s) (ep:=ep)
 have eB:=A5g (L:=L) (wh:=1) (oh:=0) (c:=(i:Int)+1) (x:=R.x) (cs:=R.c) (y:=P.x) (ds:=P.c) (s:=s) (ep:=ep)
 rw[cT_c,Axv]at eB
 rw[<-hT,<-hf]at eA eB
 rw[eA.2]at tw
 rw[eA.1]
 obtain⟨K14,hK14⟩:∃X,X=(K13.alloc (.cells true false 68 (stl T) 43)).alloc (.cells true false 4 [.int .i64 ((i:Int)+1),.int .i64 ep,S64 f,S32 T.po] 56):=⟨_,rfl⟩
 have k14:Aac K13 K14:=by rw[hK14];exact((Aac.refl _).alloc _).alloc _
 have gs14:K14.get K13.n=some (.cells true false 68 (stl T) 43):=by rw[hK14];exact((Aac.refl _).alloc _).at_ (Aaa.Bfd K13 _)
 have gf14:K14.get (K13.n+1)=some (.cells true false 4 [.int .i64 ((i:Int)+1),.int .i64 ep,S64 f,S32 T.po] 56):=by rw[hK14];exact Aaa.Bfd (K13.alloc _) _
 have n14:=k14.n
 have gl14:=k14.at_ gl13
 have m14:=m13.keeps k14
 have q14:=q13.trans k14
 have tw:=tw.keeps k14
 simp(disch:=first|assumption|omega|(simp only[LN]<;>omega)|(simp(disch:=first|assumption|omega|(simp only[LN]<;>omega))only[Aab,Aad];assumption))only[P4,seval,Aoe,Aas,Aaf,Aa8,O4]
 rw[<-hK14]
 refine Aae (t15 tw.cb he) ?_
 rintro _ K15 ⟨rfl,c15,hB⟩
 have n15:=c15.n
 have l14:=Aaa.Bfg gs14
 have l14':=Aaa.Bfg gf14
 have gs15:=c15.at_ gs14 (by simp;omega)
 have gf15:=c15.at_ gf14 (by simp;omega)
 have gl15:=c15.at_ gl14 (by simp;omega)
 have m15:=m14.chg c15 tw.cb.oz
 have q15:=q14.Bfh c15 (by simp;omega)
 have tw:=(tw.swap.step c15 (.inl rfl) hB).swap
 rw[eB.2]at tw
 rw[eB.1]
 obtain⟨K16,hK16⟩:∃X,X=(K15.alloc (.cells true false 68 (stl T) 43)).alloc (.cells true false 4 [.int .i64 ((i:Int)+1),.int .i64 ep,S64 f,S32 T.po] 56):=⟨_,rfl⟩
 have k16:Aac K15 K16:=by rw[hK16];exact((Aac.refl _).alloc _).alloc _
 have gs16:K16.get K15.n=some (.cells true false 68 (stl T) 43):=by rw[hK16];exact((Aac.refl _).alloc _).at_ (Aaa.Bfd K15 _)
 have gf16:K16.get (K15.n+1)=some (.cells true false 4 [.int .i64 ((i:Int)+1),.int .i64 ep,S64 f,S32 T.po] 56):=by rw[hK16];exact Aaa.Bfd (K15.alloc _) _
 have gs16':=k16.at_ gs15
 have gf16':=k16.at_ gf15
 have gl16:=k16.at_ gl15
 have m16:=m15.keeps k16
 have q16:=q15.trans k16
 have tw:=tw.keeps k16
 have ls15:=Aaa.Bfg gs15
 have lf15:=Aaa.Bfg gf15
 have eqs:∀K,Aak (.eqs A71 true (.agg (stl T).toArray) (.agg (stl T).toArray)) K=some (.bool false,K):=fun K=>(Ahs K true T T).trans (by rw[Afy];rfl)
 have eqf:=fun K=>A5j ((i:Int)+1) ep f T.po K
 simp(disch:=first|assumption|omega|(simp only[LN]<;>omega)|(simp(disch:=first|assumption|omega|(simp only[LN]<;>omega))only[Aab,Aad];assumption))only[P4,seval,Aoe,Aas,Aaf,Aa8,O4]
 rw[<-hK16]
 have l16:=Aaa.Bfg gs16
 have l16':=Aaa.Bfg gf16
 simp(disch:=first|assumption|omega|(simp only[LN]<;>omega)|(simp(disch:=first|assumption|omega|(simp only[LN]<;>omega))only[Aab,Aad];assumption))only[P4,seval,gs15,gf15,gs16,gs16',gf16,gf16',Aa6,Aa9,eqs,eqf,ecy]
 have riT:RI L T:=by rw[hT];exact A2e he ri _ _
 refine Aae (t16 m16 he T) ?_
 rintro _ X ⟨rfl,hX⟩
 rw[hX,Awn riT]
 simp(disch:=first|assumption|omega)only[P4,seval]
 refine Aae (t17 tw.ca) ?_
 rintro _ K17 ⟨rfl,c17,hA⟩
 have n16:=k16.n
 have n17:=c17.n
 have gs17:=c17.at_ gs16' (by simp;omega)
 have gl17:=c17.at_ gl16 (by simp;omega)
 have m17:=m16.chg c17 tw.ca.oz
 have q17:=q16.Bfh c17 (by simp;omega)
 have tw:=tw.step c17 (.inl rfl) hA
 rw[Av1.1]at tw
 rw[Av1.2]
 simp(disch:=first|assumption|omega)only[P4,seval]
 refine Aae (t17 tw.cb) ?_
 rintro _ K18 ⟨rfl,c18,hB⟩
 have n18:=c18.n
 have gs18:=c18.at_ gs17 (by simp;omega)
 have gl18:=c18.at_ gl17 (by simp;omega)
 have m18:=m17.chg c18 tw.cb.oz
 have q18:=q17.Bfh c18 (by simp;omega)
 have tw:=(tw.swap.step c18 (.inl rfl) hB).swap
 rw[Av1.1]at tw
 rw[Av1.2]
 simp(disch:=first|assumption|omega)only[P4,seval]
 refine Aat (t18 tw.ca) ?_
 have cKs:∀wh oh x cs y ds,(cK wh oh ((i:Int)+1) x cs y ds T ep).s=T:=fun _ _ _ _ _ _=>rfl
 rw[cKs]
 simp(disch:=first|assumption|omega)only[P4,seval,gs18,Aa6,eqs]
 refine Aae (t18 tw.cb) ?_
 rintro _ X ⟨rfl,hX⟩
 rw[hX,cKs]
 simp(disch:=first|assumption|omega)only[P4,seval,gs18,Aa6,eqs]
 refine Aae (t17 tw.ca) ?_
 rintro _ K19 ⟨rfl,c19,hA⟩
 have n19:=c19.n
 have gl19:=c19.at_ gl18 (by simp;omega)
 have m19:=m18.chg c19 tw.ca.oz
 have q19:=q18.Bfh c19 (by simp;omega)
 have tw:=tw.step c19 (.inl rfl) hA
 rw[A5h.1]at tw
 rw[A5h.2]
 have wr:IntKind.i64.wrap ((i:Int)+1)=((i+1:Nat):Int):=by rw[ecy];omega
 simp(disch:=first|assumption|omega)only[P4,seval,wr]
 refine hn' _ _ _ ⟨i+1,_,_,_,_,_,_,_,_,_,_,_,_,_,_,_,sa,sb,_,_,T,rfl,tw,?_,?_,riT,m19,q19,gl19,oo,by omega,rfl⟩ (by omega)
 ·rw[ecn];exact A5i
 ·rw[ecn];exact A5i
end Go.AM.Fd
namespace Go.AM.F
def Afv:List Value:=[(.int .i64 0),(.int .i64 0),(.int .u64 0),(.int .u32 0),(.int .u32 0),(.slice none 0 0),(.int .i64 0),(.int .i64 0),(.int .u64 0),(.int .u32 0),(.int .u32 0),(.slice none 0 0),(.int .u64 0),(.int .u64 0),(.int .u64 0)]++List.replicate 64 (.int .u8 0)++[(.int .u32 0),(.int .i64 0)]
def A08:List Value:=[(.int .u64 0),(.int .u64 0),(.int .u64 0)]++List.replicate 64 (.int .u8 0)++[(.int .u32 0)]
def Ax9:List Value:=(List.replicate 14 Afv).flatten
def A5v:List Value:=(List.replicate 8 Afv).flatten
def A5w:List Value:=(List.replicate 3 Afv).flatten
def f6:Af8:=⟨[0,1,2,3,4,5,6,7,8,41,47,55,86,108],
 .seq (.reg [
 ⟨.mov (.c (.bool false)),.fr 0,none⟩]) <|
 .seq (.reg [
 ⟨.callf 27 [],.tm,none⟩,
 ⟨.new 27 4 [(.slice none 0 0),(.slice none 0 0),(.slice none 0 0),(.slice none 0 0)],.fr 1,none⟩,
 ⟨.storen 4 (.fr 1) (.tm 0),.no,none⟩]) <|
 .seq (.reg [
 ⟨.build [(.int .u8 0),(.int .i64 0)] [(0,1,(.c (.int .u8 1)))],.tm,none⟩,
 ⟨.bslice 83 2 1 [(.int .u8 0),(.int .i64 0)] [(0,2,(.tm 0))],.tm,none⟩,
 ⟨.build [(.int .u64 0),(.int .u32 0),(.int .u32 0),(.slice none 0 0)] [(1,1,(.c (.int .u32 3))),(3,1,(.tm 0))],.tm,none⟩,
 ⟨.new 46 4 [(.int .u64 0),(.int .u32 0),(.int .u32 0),(.slice none 0 0)],.fr 2,none⟩,
 ⟨.storen 4 (.fr 2) (.tm 0),.no,none⟩]) <|
 .seq (.reg [
 ⟨.loadn 4 (.fr 2),.tm,none⟩,
 ⟨.build Afv [(1,1,(.c (.int .i64 1))),(2,4,(.tm 0))],.tm,none⟩,
 ⟨.loadn 4 (.fr 2),.tm,none⟩,
 ⟨.build [(.int .i64 0),(.int .i64 0),(.int .u64 0),(.int .u32 0),(.int .u32 0),(.slice none 0 0)] [(0,1,(.c (.int .i64 1))),(1,1,(.c (.int .i64 1))),(2,4,(.tm 0))],.tm,none⟩,
 ⟨.build Afv [(0,1,(.c (.int .i64 1))),(6,6,(.tm 0))],.tm,none⟩,
 ⟨.build Afv [(0,1,(.c (.int .i64 2)))],.tm,none⟩,
 ⟨.build Afv [(0,1,(.c (.int .i64 3)))],.tm,none⟩,
 ⟨.build A08 [(0,1,(.c (.int .u64 2))),(1,1,(.c (.int .u64 1))),(67,1,(.c (.int .u32 1)))],.tm,none⟩,
 ⟨.build Afv [(0,1,(.c (.int .i64 4))),(12,68,(.tm 0))],.tm,none⟩,
 ⟨.build A08 [(0,1,(.c (.int .u64 1)))],.tm,none⟩,
 ⟨.build Afv [(0,1,(.c (.int .i64 5))),(12,68,(.tm 0)),(80,1,(.c (.int .i64 3))),(1,1,(.c (.int .i64 1)))],.tm,none⟩,
 ⟨.build A08 [(0,1,(.c (.int .u64 3)))],.tm,none⟩,
 ⟨.build Afv [(0,1,(.c (.int .i64 5))),(12,68,(.tm 0)),(80,1,(.c (.int .i64 3)))],.tm,none⟩,
 ⟨.build Afv [(0,1,(.c (.int .i64 5))),(1,1,(.c (.int .i64 (-1))))],.tm,none⟩,
 ⟨.build Afv [(0,1,(.c (.int .i64 5))),(80,1,(.c (.int .i64 1099511627777)))],.tm,none⟩,
 ⟨.build [(.int .u64 0),(.int .u32 0),(.int .u32 0),(.slice none 0 0)] [(0,1,(.c (.int .u64 64)))],.tm,none⟩,
 ⟨.build Afv [(1,1,(.c (.int .i64 2))),(2,4,(.tm 0))],.tm,none⟩,
 ⟨.build Afv [(1,1,(.c (.int .i64 1099511627777)))],.tm,none⟩,
 ⟨.build [(.int .u64 0),(.int .u32 0),(.int .u32 0),(.slice none 0 0)] [(1,1,(.c (.int .u32 4)))],.tm,none⟩,
 ⟨.build [(.int .i64 0),(.int .i64 0),(.int .u64 0),(.int .u32 0),(.int .u32 0),(.slice none 0 0)] [(0,1,(.c (.int .i64 1))),(1,1,(.c (.int .i64 2))),(2,4,(.tm 0))],.tm,none⟩,
 ⟨.build Afv [(0,1,(.c (.int .i64 1))),(6,6,(.tm 0))],.tm,none⟩,
 ⟨.build Afv [(0,1,(.c (.int .i64 6)))],.tm,none⟩,
 ⟨.build [(.int .u64 0),(.int .u32 0),(.int .u32 0),(.slice none 0 0)] [(0,1,(.c (.int .u64 2))),(1,1,(.c (.int .u32 3)))],.tm,none⟩,
 ⟨.build Afv [(1,1,(.c (.int .i64 2))),(2,4,(.tm 0))],.tm,none⟩,
 ⟨.bslice 71 81 14 Ax9 [(0,81,(.tm 22)),(81,81,(.tm 19)),(162,81,(.tm 18)),(243,81,(.tm 17)),(324,81,(.tm 15)),(405,81,(.tm 13)),(486,81,(.tm 11)),(567,81,(.tm 10)),(648,81,(.tm 9)),(729,81,(.tm 7)),(810,81,(.tm 6)),(891,81,(.tm 3)),(972,81,(.tm 2)),(1053,81,(.tm 0))],.tm,none⟩,
 ⟨.mov (.tm 0),.fr 3,none⟩]) <|
 .seq (.seq (.reg [
 ⟨.mov (.c (.int .i64 0)),.fr 4,none⟩]) <|
 .block 0 (.loop (.seq (.seq (.reg [
 ⟨.mov (.fr 4),.tm,none⟩,
 ⟨.mov (.fr 3),.tm,none⟩,
 ⟨.len false (.tm 0),.tm,none⟩,
 ⟨.bin .lss (.tm 2) (.tm 0),.fr 9,none⟩]) <|
 .cond (.fr 9)
 (.skip)
 (.exit 0)) <|
 .seq (.block 1 (.seq (.reg [
 ⟨.mov (.c (.int .i64 0)),.fr 5,none⟩]) <|
 .block 2 (.loop (.seq (.seq (.reg [
 ⟨.mov (.fr 5),.tm,none⟩,
 ⟨.mov (.fr 3),.tm,none⟩,
 ⟨.len false (.tm 0),.tm,none⟩,
 ⟨.bin .lss (.tm 2) (.tm 0),.fr 10,none⟩]) <|
 .cond (.fr 10)
 (.skip)
 (.exit 2)) <|
 .seq (.block 3 (.seq (.reg [
 ⟨.mov (.fr 4),.tm,none⟩,
 ⟨.bin .rem (.tm 0) (.c (.int .i64 2)),.tm,none⟩,
 ⟨.mov (.tm 0),.fr 6,none⟩]) <|
 .block 4 (.loop (.seq (.seq (.reg [
 ⟨.mov (.fr 6),.tm,none⟩,
 ⟨.mov (.fr 3),.tm,none⟩,
 ⟨.len false (.tm 0),.tm,none⟩,
 ⟨.bin .lss (.tm 2) (.tm 0),.fr 11,none⟩]) <|
 .cond (.fr 11)
 (.skip)
 (.exit 4)) <|
 .seq (.block 5 (.seq (.dreg [
 (⟨.mov (.fr 3),.tm,none⟩,[]),
 (⟨.mov (.fr 4),.tm,none⟩,[]),
 (⟨.iaddr 81 (.tm 1) (.tm 0),.tm,none⟩,[]),
 (⟨.loadn 81 (.tm 0),.tm,none⟩,[]),
 (⟨.mov (.fr 3),.tm,none⟩,[]),
 (⟨.mov (.fr 5),.tm,none⟩,[]),
 (⟨.iaddr 81 (.tm 1) (.tm 0),.tm,none⟩,[]),
 (⟨.loadn 81 (.tm 0),.tm,none⟩,[]),
 (⟨.mov (.fr 3),.tm,none⟩,[]),
 (⟨.mov (.fr 6),.tm,none⟩,[]),
 (⟨.iaddr 81 (.tm 1) (.tm 0),.tm,none⟩,[]),
 (⟨.loadn 81 (.tm 0),.tm,none⟩,[]),
 (⟨.loadn 4 (.fr 2),.tm,none⟩,[]),
 (⟨.build [(.int .i64 0),(.int .i64 0),(.int .u64 0),(.int .u32 0),(.int .u32 0),(.slice none 0 0)] [(0,1,(.c (.int .i64 1))),(1,1,(.c (.int .i64 2))),(2,4,(.tm 0))],.tm,none⟩,[]),
 (⟨.build Afv [(0,1,(.c (.int .i64 1))),(6,6,(.tm 0))],.tm,none⟩,[]),
 (⟨.loadn 4 (.fr 2),.tm,none⟩,[]),
 (⟨.build Afv [(1,1,(.c (.int .i64 2))),(2,4,(.tm 0))],.tm,none⟩,[]),
 (⟨.build Afv [(0,1,(.c (.int .i64 2)))],.tm,none⟩,[]),
 (⟨.build Afv [(0,1,(.c (.int .i64 3)))],.tm,none⟩,[]),
 (⟨.build Afv [(0,1,(.c (.int .i64 2)))],.tm,none⟩,[]),
 (⟨.bslice 71 81 8 A5v [(0,81,(.tm 16)),(81,81,(.tm 12)),(162,81,(.tm 8)),(243,81,(.tm 5)),(324,81,(.tm 3)),(405,81,(.tm 2)),(486,81,(.tm 1)),(567,81,(.tm 0))],.tm,none⟩,[]),
 (⟨.mov (.tm 0),.fr 7,none⟩,[])]) <|
 .seq (.seq (.reg [
 ⟨.mov (.fr 4),.tm,none⟩,
 ⟨.mov (.fr 5),.tm,none⟩,
 ⟨.bin .add (.tm 1) (.tm 0),.tm,none⟩,
 ⟨.bin .rem (.tm 0) (.c (.int .i64 2)),.tm,none⟩,
 ⟨.loadn 4 (.fr 1),.tm,none⟩,
 ⟨.mov (.fr 7),.tm,none⟩,
 ⟨.callf 4 [(.tm 2),(.tm 1),(.tm 0)],.tm,none⟩,
 ⟨.un .not (.tm 0),.fr 12,none⟩]) <|
 .cond (.fr 12)
 (.seq (.reg [
 ⟨.mov (.c (.bool false)),.fr 0,none⟩]) <|
 .ret)
 (.skip)) <|
 .seq (.dreg [
 (⟨.mov (.fr 5),.tm,none⟩,[]),
 (⟨.mov (.fr 6),.tm,none⟩,[]),
 (⟨.bin .add (.tm 1) (.tm 0),.tm,none⟩,[]),
 (⟨.bin .rem (.tm 0) (.c (.int .i64 4)),.tm,none⟩,[]),
 (⟨.bin .eql (.tm 0) (.c (.int .i64 0)),.tm,none⟩,[]),
 (⟨.mov (.tm 0),.tm,none⟩,[]),
 (⟨.loadn 4 (.fr 1),.tm,some ((.tm 0),true)⟩,[]),
 (⟨.mov (.fr 3),.tm,some ((.tm 1),true)⟩,[]),
 (⟨.iaddr 81 (.tm 0) (.c (.int .i64 0)),.tm,some ((.tm 2),true)⟩,[]),
 (⟨.loadn 81 (.tm 0),.tm,some ((.tm 3),true)⟩,[]),
 (⟨.mov (.fr 3),.tm,some ((.tm 4),true)⟩,[]),
 (⟨.iaddr 81 (.tm 0) (.c (.int .i64 1)),.tm,some ((.tm 5),true)⟩,[]),
 (⟨.loadn 81 (.tm 0),.tm,some ((.tm 6),true)⟩,[]),
 (⟨.mov (.fr 3),.tm,some ((.tm 7),true)⟩,[]),
 (⟨.iaddr 81 (.tm 0) (.c (.int .i64 2)),.tm,some ((.tm 8),true)⟩,[]),
 (⟨.loadn 81 (.tm 0),.tm,some ((.tm 9),true)⟩,[]),
 (⟨.bslice 71 81 3 A5w [(0,81,(.tm 6)),(81,81,(.tm 3)),(162,81,(.tm 0))],.tm,some ((.tm 10),true)⟩,[]),
 (⟨.mov (.fr 7),.tm,some ((.tm 11),true)⟩,[]),
 (⟨.app 71 81 216 (.tm 1) (.tm 0),.tm,some ((.tm 12),true)⟩,[6]),
 (⟨.callf 4 [(.c (.int .i64 0)),(.tm 12),(.tm 0)],.tm,some ((.tm 13),true)⟩,[]),
 (⟨.un .not (.tm 0),.tm,some ((.tm 14),true)⟩,[]),
 (⟨.pick (.tm 15) (.tm 0) (.c (.bool false)),.fr 13,none⟩,[])]) <|
 .cond (.fr 13)
 (.seq (.reg [
 ⟨.mov (.c (.bool false)),.fr 0,none⟩]) <|
 .ret)
 (.skip))) <|
 .reg [
 ⟨.mov (.fr 6),.tm,none⟩,
 ⟨.bin .add (.tm 0) (.c (.int .i64 2)),.tm,none⟩,
 ⟨.mov (.tm 0),.fr 6,none⟩])))) <|
 .reg [
 ⟨.mov (.fr 5),.tm,none⟩,
 ⟨.bin .add (.tm 0) (.c (.int .i64 1)),.tm,none⟩,
 ⟨.mov (.tm 0),.fr 5,none⟩])))) <|
 .reg [
 ⟨.mov (.fr 4),.tm,none⟩,
 ⟨.bin .add (.tm 0) (.c (.int .i64 1)),.tm,none⟩,
 ⟨.mov (.tm 0),.fr 4,none⟩]))) <|
 .seq (.reg [
 ⟨.callf 27 [],.tm,none⟩,
 ⟨.new 27 4 [(.slice none 0 0),(.slice none 0 0),(.slice none 0 0),(.slice none 0 0)],.fr 8,none⟩,
 ⟨.storen 4 (.fr 8) (.tm 0),.no,none⟩]) <|
 .seq (.reg [
 ⟨.faddr 3 (.fr 8),.tm,none⟩,
 ⟨.load1 (.tm 0),.tm,none⟩,
 ⟨.iaddr 6 (.tm 0) (.c (.int .i64 1)),.tm,none⟩,
 ⟨.faddr 2 (.tm 0),.tm,none⟩,
 ⟨.store1 (.tm 0) (.c (.slice none 0 0)),.no,none⟩]) <|
 .seq (.reg [
 ⟨.loadn 4 (.fr 8),.tm,none⟩,
 ⟨.callf 4 [(.c (.int .i64 0)),(.tm 0),(.c (.slice none 0 0))],.tm,none⟩,
 ⟨.mov (.tm 0),.tm,none⟩,
 ⟨.loadn 4 (.fr 1),.tm,some ((.tm 0),true)⟩,
 ⟨.callf 4 [(.c (.int .i64 2)),(.tm 0),(.c (.slice none 0 0))],.tm,some ((.tm 1),true)⟩,
 ⟨.pick (.tm 2) (.tm 0) (.c (.bool false)),.tm,none⟩,
 ⟨.mov (.tm 0),.tm,none⟩,
 ⟨.loadn 4 (.fr 8),.tm,some ((.tm 0),true)⟩,
 ⟨.callf 4 [(.c (.int .i64 (-1))),(.tm 0),(.c (.slice none 0 0))],.tm,some ((.tm 1),true)⟩,
 ⟨.pick (.tm 2) (.tm 0) (.c (.bool false)),.tm,none⟩,
 ⟨.mov (.tm 0),.tm,none⟩,
 ⟨.build A08 [(0,1,(.c (.int .u64 1)))],.tm,some ((.tm 0),true)⟩,
 ⟨.loadn 4 (.fr 2),.tm,some ((.tm 1),true)⟩,
 ⟨.callf 5 [(.tm 1),(.tm 0)],.tm,some ((.tm 2),true)⟩,
 ⟨.pick (.tm 3) (.tm 0) (.c (.bool false)),.tm,none⟩,
 ⟨.mov (.tm 0),.tm,none⟩,
 ⟨.loadn 4 (.fr 1),.tm,some ((.tm 0),true)⟩,
 ⟨.loadn 4 (.fr 2),.tm,some ((.tm 1),true)⟩,
 ⟨.build [(.int .u64 0),(.int .u32 0),(.int .u32 0),(.slice none 0 0)] [(0,1,(.c (.int .u64 2))),(1,1,(.c (.int .u32 3)))],.tm,some ((.tm 2),true)⟩,
 ⟨.build [(.int .u64 0),(.int .u32 0),(.int .u32 0),(.slice none 0 0)] [(1,1,(.c (.int .u32 3)))],.tm,some ((.tm 3),true)⟩,
 ⟨.bslice 46 4 3 [(.int .u64 0),(.int .u32 0),(.int .u32 0),(.slice none 0 0),(.int .u64 0),(.int .u32 0),(.int .u32 0),(.slice none 0 0),(.int .u64 0),(.int .u32 0),(.int .u32 0),(.slice none 0 0)] [(0,4,(.tm 2)),(4,4,(.tm 1)),(8,4,(.tm 0))],.tm,some ((.tm 4),true)⟩,
 ⟨.loadn 4 (.fr 2),.tm,some ((.tm 5),true)⟩,
 ⟨.build [(.int .u64 0),(.int .u32 0),(.int .u32 0),(.slice none 0 0)] [(1,1,(.c (.int .u32 3)))],.tm,some ((.tm 6),true)⟩,
 ⟨.build [(.int .u64 0),(.int .u32 0),(.int .u32 0),(.slice none 0 0)] [(1,1,(.c (.int .u32 3)))],.tm,some ((.tm 7),true)⟩,
 ⟨.bslice 46 4 3 [(.int .u64 0),(.int .u32 0),(.int .u32 0),(.slice none 0 0),(.int .u64 0),(.int .u32 0),(.int .u32 0),(.slice none 0 0),(.int .u64 0),(.int .u32 0),(.int .u32 0),(.slice none 0 0)] [(0,4,(.tm 2)),(4,4,(.tm 1)),(8,4,(.tm 0))],.tm,some ((.tm 8),true)⟩,
 ⟨.callf 3 [(.tm 8),(.tm 4),(.tm 0),(.c (.int .i64 4))],.tm,some ((.tm 9),true)⟩,
 ⟨.pick (.tm 10) (.tm 0) (.c (.bool false)),.tm,none⟩,
 ⟨.mov (.tm 0),.tm,none⟩,
 ⟨.callf 8 [],.tm,some ((.tm 0),true)⟩,
 ⟨.pick (.tm 1) (.tm 0) (.c (.bool false)),.tm,none⟩,
 ⟨.mov (.tm 0),.fr 0,none⟩]) <|
 .ret,[.t 0]⟩
end Go.AM.F
namespace Go.AM
def WO(H:Aaa)(e esz:Nat)(v:Value)(n:Nat)(c:List Value):Prop:=
 (v=.slice none 0 0/\n=0/\c=[])\/∃b o k room d,v=slc b o n k/\n<=k/\d.length=o+k*esz/\(d.drop o).take (n*esz)=c/\H.get b=some (.cells true room esz d e)
section
variable {H H':Aaa} {e esz:Nat} {v:Value} {n:Nat} {c:List Value}
theorem AP.wo(h:AP H e esz v n c):WO H e esz v n c:=by
 rcases h with h|⟨b,room,rfl,h1,h2⟩
 ·exact .inl h
 ·exact .inr ⟨b,0,n,room,c,rfl,Nat.le_refl _,by omega,by rw[List.drop_zero,<-h1,List.take_length],h2⟩
theorem WO.elems(h:WO H e esz v n c):Abf H esz v=some c:=by
 rcases h with⟨rfl,rfl,rfl⟩|⟨b,o,k,room,d,rfl,h1,h2,rfl,h4⟩
 ·rfl
 ·have:=Nat.mul_le_mul_right esz h1
  simp only[Abf,slc,h4]
  rw[if_pos (by omega)]
theorem WO.shape(h:WO H e esz v n c):∃a k,v=.slice a n k:=by
 rcases h with⟨rfl,rfl,rfl⟩|⟨b,o,k,room,d,rfl,h1,h2,h3,h4⟩
 ·exact⟨_,_,rfl⟩
 ·exact⟨_,_,rfl⟩
theorem WO.sl{rows:List (List Value)}(h:WO H e esz v n rows.flatten)(hr:∀r∈rows,r.length=esz)(hn:n=rows.length):Sl H esz v rows:=by
 obtain⟨a,k,rfl⟩:=h.shape
 exact⟨⟨a,k,by rw[hn]⟩,hr,h.elems⟩
theorem WO.app{bytes m:Nat}{news:List Value}(h:WO H e esz v n c)(hm:news.length=m*esz)(hs:(n+m)*bytes<=140737488355328/\n+m<=140737488355328):
 ∃v' H',Ajd H e esz bytes v m news=some (v',H')/\WO H' e esz v' (n+m) (c++news)/\Chg (Ahp v) H H'/\(blk v'=blk v\/blk v'=some H.n):=by
 rcases h with⟨rfl,rfl,rfl⟩|⟨b,o,k,room,d,rfl,h1,h2,h3,h4⟩
 ·obtain⟨v',H',a,b,d⟩:=AP.app (H:=H) (e:=e) (esz:=esz) (v:=.slice none 0 0) (n:=0) (c:=[]) (.inl ⟨rfl,rfl,rfl⟩) hm hs
  exact⟨v',H',a,b.wo,d⟩
 ·simp only[Ajd,slc]
  by_cases hm0:m=0
  ·subst hm0
   have:news=[]:=by rw[<-List.length_eq_zero_iff];omega
   subst this
   rw[if_pos rfl]
   exact⟨_,_,rfl,.inr ⟨b,o,k,room,d,rfl,h1,h2,by simpa using h3,h4⟩,Chg.refl _ _,.inl rfl⟩
  ·have hle:=Nat.mul_le_mul_right esz h1
   have hc:c.length=n*esz:=by rw[<-h3,List.length_take,List.length_drop,h2];omega
   have hnm:(n+m)*esz=n*esz+m*esz:=Nat.add_mul _ _ _
   rw[if_neg hm0,if_pos hs]
   simp only[h4,true_and]
   rw[if_pos (show o+k*esz<=d.length by omega)]
   by_cases hk:n+m<=k
   ·have hle2:=Nat.mul_le_mul_right esz hk
    rw[if_pos hk]
    simp only[if_true]
    refine⟨_,_,rfl,.inr ⟨b,o,k,room,_,rfl,hk,?_,?_,Aaa.Bfe h4 _⟩,Chg.set H (Aaa.Bfg h4) _,.inl rfl⟩
    ·rw[List.length_append,List.length_append,List.length_take,List.length_drop,hm];omega
    ·have e1:d.take (o+n*esz)=d.take o++c:=by rw[<-h3,List.take_add]
     have e2:(d.take o).length=o:=by rw[List.length_take];omega
     rw[e1,List.append_assoc,List.append_assoc,List.drop_append,e2,Nat.sub_self,List.drop_zero,List.drop_of_length_le (by omega),List.nil_append,<-List.append_assoc,List.take_append_of_le_length (by rw[List.length_append,hc,hm];omega),List.take_of_length_le (by rw[List.length_append,hc,hm];omega)]
   ·rw[if_neg hk,h3]
    have hlen:(c++news).length=(n+m)*esz:=by rw[List.length_append,hc,hm,Nat.add_mul]
    split
    ·exact⟨_,_,rfl,.inr ⟨H.n,0,n+m,true,_,rfl,Nat.le_refl _,by omega,by rw[List.drop_zero,<-hlen,List.take_length],Aaa.Bfd H _⟩,(Chg.refl _ _).alloc _,.inr rfl⟩
    ·exact⟨_,_,rfl,.inr ⟨H.n,0,n+m,true,_,rfl,Nat.le_refl _,by omega,by rw[List.drop_zero,<-hlen,List.take_length],Aaa.Bfd (H.set b .dead) _⟩,(Chg.set H (Aaa.Bfg h4) _).alloc _,.inr rfl⟩
end
section
variable {P:Program} {ng:Nat} {H:Aaa} {KF:List Value->Aaa->Prop} {fr tm:List Value} {tr:List TE} {e esz:Nat} {v:Value} {n:Nat} {c:List Value}
end
end Go.AM
namespace Go.AM.Fd
open Go.Proofs Go.AM.F
def tbn(n:Nat):Nat->Bool:=fun i=>n.testBit i
def kI(a b:Nat):Inp:=⟨tbn a,tbn b,tbn 0⟩
def kS(a b c:Nat):Sta:={Abi with lo:=tbn a,us:=tbn b,po:=tbn c}
theorem A5k(cv:Value):inl (kI 0 3) cv=[.int .u64 0,.int .u32 3,.int .u32 0,cv]:=by kernel_rfl
def rA(cm:Value)(n:Int):CV:={cv0 with n:=n,x:=kI 0 3,v:=cm,c:=[(1,0)]}
def rB(cm:Value)(n:Int):CV:={cv0 with k:=1,r:=⟨1,n,kI 0 3,[(1,0)]⟩,z:=cm}
def rK(k:Int):CV:={cv0 with k:=k}
def rX(n:Int)(a b:Nat):CV:={cv0 with n:=n,x:=kI a b}
def kv(cm:Value):List CV:=[rA cm 1,rB cm 1,rK 2,rK 3,{cv0 with k:=4,s:=kS 2 1 1},{cv0 with k:=5,s:=kS 1 0 0,ep:=3,n:=1},{cv0 with k:=5,s:=kS 3 0 0,ep:=3},{cv0 with k:=5,n:= -1},{cv0 with k:=5,ep:=1099511627777},
 rX 2 64 0,rX 1099511627777 0 0,{cv0 with k:=1,r:=⟨1,2,kI 0 4,[]⟩},rK 6,rX 2 2 3]
theorem fR0(cm:Value)(n:Int):Aau Afv [(1,1,.int .i64 n),(2,4,.agg #[.int .u64 0,.int .u32 3,.int .u32 0,cm])]=some (Aa3 (rA cm n)):=by kernel_rfl
theorem fR1(cm:Value)(n:Int):Aau Afv [(0,1,.int .i64 1),(6,6,.agg #[.int .i64 1,.int .i64 n,.int .u64 0,.int .u32 3,.int .u32 0,cm])]=some (Aa3 (rB cm n)):=by kernel_rfl
theorem fR2(n:Int):Aau Afv [(0,1,.int .i64 n)]=some (Aa3 (rK n)):=by kernel_rfl
theorem fS4:Aau A08 [(0,1,.int .u64 2),(1,1,.int .u64 1),(67,1,.int .u32 1)]=some (stl (kS 2 1 1)):=by kernel_rfl
theorem fS5:Aau A08 [(0,1,.int .u64 1)]=some (stl (kS 1 0 0)):=by kernel_rfl
theorem fS6:Aau A08 [(0,1,.int .u64 3)]=some (stl (kS 3 0 0)):=by kernel_rfl
theorem fR4:Aau Afv [(0,1,.int .i64 4),(12,68,.agg (stl (kS 2 1 1)).toArray)]=some (Aa3 {cv0 with k:=4,s:=kS 2 1 1}):=by kernel_rfl
theorem fR5:Aau Afv [(0,1,.int .i64 5),(12,68,.agg (stl (kS 1 0 0)).toArray),(80,1,.int .i64 3),(1,1,.int .i64 1)]=some (Aa3 {cv0 with k:=5,s:=kS 1 0 0,ep:=3,n:=1}):=by kernel_rfl
theorem fR6:Aau Afv [(0,1,.int .i64 5),(12,68,.agg (stl (kS 3 0 0)).toArray),(80,1,.int .i64 3)]=some (Aa3 {cv0 with k:=5,s:=kS 3 0 0,ep:=3}):=by kernel_rfl
theorem fR7:Aau Afv [(0,1,.int .i64 5),(1,1,.int .i64 (-1))]=some (Aa3 {cv0 with k:=5,n:= -1}):=by kernel_rfl
theorem fR8:Aau Afv [(0,1,.int .i64 5),(80,1,.int .i64 1099511627777)]=some (Aa3 {cv0 with k:=5,ep:=1099511627777}):=by kernel_rfl
theorem fR9:Aau Afv [(1,1,.int .i64 2),(2,4,.agg #[.int .u64 64,.int .u32 0,.int .u32 0,.slice none 0 0])]=some (Aa3 (rX 2 64 0)):=by kernel_rfl
theorem fRa:Aau Afv [(1,1,.int .i64 1099511627777)]=some (Aa3 (rX 1099511627777 0 0)):=by kernel_rfl
theorem fRb:Aau Afv [(0,1,.int .i64 1),(6,6,.agg #[.int .i64 1,.int .i64 2,.int .u64 0,.int .u32 4,.int .u32 0,.slice none 0 0])]=some (Aa3 {cv0 with k:=1,r:=⟨1,2,kI 0 4,[]⟩}):=by kernel_rfl
theorem fRd:Aau Afv [(1,1,.int .i64 2),(2,4,.agg #[.int .u64 2,.int .u32 3,.int .u32 0,.slice none 0 0])]=some (Aa3 (rX 2 2 3)):=by kernel_rfl
theorem fRs(cm:Value):Aau Ax9 [(0,81,.agg (Aa3 (rA cm 1)).toArray),(81,81,.agg (Aa3 (rB cm 1)).toArray),(162,81,.agg (Aa3 (rK 2)).toArray),(243,81,.agg (Aa3 (rK 3)).toArray),(324,81,.agg (Aa3 {cv0 with k:=4,s:=kS 2 1 1}).toArray),(405,81,.agg (Aa3 {cv0 with k:=5,s:=kS 1 0 0,ep:=3,n:=1}).toArray),(486,81,.agg (Aa3 {cv0 with k:=5,s:=kS 3 0 0,ep:=3}).toArray),(567,81,.agg (Aa3 {cv0 with k:=5,n:= -1}).toArray),(648,81,.agg (Aa3 {cv0 with k:=5,ep:=1099511627777}).toArray),(729,81,.agg (Aa3 (rX 2 64 0)).toArray),(810,81,.agg (Aa3 (rX 1099511627777 0 0)).toArray),(891,81,.agg (Aa3 {cv0 with k:=1,r:=⟨1,2,kI 0 4,[]⟩}).toArray),(972,81,.agg (Aa3 (rK 6)).toArray),(1053,81,.agg (Aa3 (rX 2 2 3)).toArray)]=some ((kv cm).map Aa3).flatten:=by kernel_rfl
def kr(cm:Value)(p q r:CV):List CV:=[p,q,r,rB cm 2,rA cm 2,rK 2,rK 3,rK 2]
theorem fR8s(cm:Value)(p q r:CV):Aau A5v [(0,81,.agg (Aa3 p).toArray),(81,81,.agg (Aa3 q).toArray),(162,81,.agg (Aa3 r).toArray),(243,81,.agg (Aa3 (rB cm 2)).toArray),(324,81,.agg (Aa3 (rA cm 2)).toArray),(405,81,.agg (Aa3 (rK 2)).toArray),(486,81,.agg (Aa3 (rK 3)).toArray),(567,81,.agg (Aa3 (rK 2)).toArray)]=some ((kr cm p q r).map Aa3).flatten:=by kernel_rfl
def kq(p q r:CV):List CV:=[p,q,r]
theorem fR3s(p q r:CV):Aau A5w [(0,81,.agg (Aa3 p).toArray),(81,81,.agg (Aa3 q).toArray),(162,81,.agg (Aa3 r).toArray)]=some ((kq p q r).map Aa3).flatten:=by kernel_rfl
def yL2:Ly:={yL with r:=yL.r.set 1 ⟨[82,50],0,[],[(0,true)],[],[]⟩}
def yX2(H:Aaa):List RV:=(yX H).set 1 ⟨⟨[82,50],0,[],[(0,true)],[],[]⟩,.slice none 0 0,slc (H.n+8) 0 1 1,.slice none 0 0,.slice none 0 0⟩
theorem Axw:Ah5 9223372036854775807 yL2:=by
 refine⟨?_,?_,?_,?_⟩<;>decide
theorem Chg.sl{H K:Aaa}{b:Nat}{esz:Nat}{j n:Nat}{rows:List (List Value)}(c:Chg [b] H K)(hj:j≠b)(h:Sl H esz (slc j 0 n n) rows):Sl K esz (slc j 0 n n) rows:=h.chg c (fun x hx=>by
 have e:x=j:=by simpa[blk,slc]using hx.symm
 subst e
 simpa using hj)
theorem yK_2{H K:Aaa}(k:Aac (yK H) K):LyR (K.set (H.n+16) (.cells true false 6 ((yR H).set 8 (.slice none 0 0)) 87)) (yU H) (yX2 H) yL2:=by
 have h:=(Apy H).keeps k
 have g:K.get (H.n+16)=some (.cells true false 6 (yR H) 87):=k.at_ (Aaa.Bfd _ _)
 have c:=Chg.set K (Aaa.Bfg g) (.cells true false 6 ((yR H).set 8 (.slice none 0 0)) 87)
 obtain⟨h1,h2,h3,h4,h5,h6⟩:=h
 have q:=fun(x:RV) (hx:x∈yX H)=>h6 x hx
 simp only[yX,List.mem_cons,List.not_mem_nil,or_false,forall_eq_or_imp,forall_eq]at q
 obtain⟨⟨a1,a2,a3,a4⟩,⟨b1,b2,b3,b4⟩,⟨c1,c2,c3,c4⟩,⟨d1,d2,d3,d4⟩,⟨e1,e2,e3,e4⟩⟩:=q
 have iz:∀K,IL K (.slice none 0 0) []:=fun K=>Sl.nil _ _
 have nz:∀K,NL K (.slice none 0 0) []:=fun K=>Sl.nil _ _
 refine⟨Chg.sl c (by omega) h1,Chg.sl c (by omega) h2,Chg.sl c (by omega) h3,?_,rfl,?_⟩
 ·refine⟨⟨_,_,rfl⟩,by intro r hr;obtain⟨y,_,rfl⟩:=List.mem_map.1 hr;rfl,?_⟩
  exact(Ais (n:=5) (k:=5) (c:=(yR H).set 8 (.slice none 0 0)) (Aaa.Bfe g _) rfl).trans rfl
 ·intro x hx
  simp only[yX2,yX,List.set_cons_succ,List.set_cons_zero,List.mem_cons,List.not_mem_nil,or_false]at hx
  rcases hx with rfl|rfl|rfl|rfl|rfl
  ·exact⟨Chg.sl c (by omega) a1,Chg.sl c (by omega) a2,Chg.sl c (by omega) a3,nz _⟩
  ·exact⟨iz _,Chg.sl c (by omega) b2,iz _,nz _⟩
  ·exact⟨Chg.sl c (by omega) c1,Chg.sl c (by omega) c2,iz _,nz _⟩
  ·exact⟨Chg.sl c (by omega) d1,nz _,iz _,Chg.sl c (by omega) d4⟩
  ·exact⟨Chg.sl c (by omega) e1,Chg.sl c (by omega) e2,Chg.sl c (by omega) e3,nz _⟩
theorem Bbs{H:Aaa}{cm:Value}(h:SlC H 2 cm [[.int .u8 1,.int .i64 0]]):∀p∈kv cm,CvO H p:=by
 have h':SlC H 2 cm ([((1:Int),(0:Int))].map Aer):=h
 have z:SlC H 2 (.slice none 0 0) (([]:List (Int×Int)).map Aer):=⟨Sl.nil _ _,.inl rfl⟩
 have n1:∀c∈[((1:Int),(0:Int))],0<=c.1/\c.1<256:=by simp
 have n0:∀c∈([]:List (Int×Int)),0<=c.1/\c.1<256:=by simp
 intro p hp
 simp only[kv,List.mem_cons,List.not_mem_nil,or_false]at hp
 rcases hp with rfl|rfl|rfl|rfl|rfl|rfl|rfl|rfl|rfl|rfl|rfl|rfl|rfl|rfl<;>first|exact⟨z,z,n0,n0⟩|exact⟨h',z,n1,n0⟩|exact⟨z,h',n0,n1⟩
theorem kr_c{H:Aaa}{cm:Value}(h:SlC H 2 cm [[.int .u8 1,.int .i64 0]]){p q r:CV}(hp:CvO H p)(hq:CvO H q)(hr:CvO H r):∀x∈kr cm p q r,CvO H x:=by
 have h':SlC H 2 cm ([((1:Int),(0:Int))].map Aer):=h
 have z:SlC H 2 (.slice none 0 0) (([]:List (Int×Int)).map Aer):=⟨Sl.nil _ _,.inl rfl⟩
 have n1:∀c∈[((1:Int),(0:Int))],0<=c.1/\c.1<256:=by simp
 have n0:∀c∈([]:List (Int×Int)),0<=c.1/\c.1<256:=by simp
 intro x hx
 simp only[kr,List.mem_cons,List.not_mem_nil,or_false]at hx
 rcases hx with rfl|rfl|rfl|rfl|rfl|rfl|rfl|rfl<;>first|assumption|exact⟨z,z,n0,n0⟩|exact⟨h',z,n1,n0⟩|exact⟨z,h',n0,n1⟩
open Nat (reduceAdd reduceEqDiff reduceLT reduceLeDiff reduceMul reduceSub)
theorem A5l(k:Nat):Abz .rem (.int .i64 (k:Int)) (.int .i64 2)=some (.int .i64 ((k % 2:Nat):Int)):=Awu (m:=2) (by decide)
theorem A5m(k:Nat):Abz .rem (.int .i64 (k:Int)) (.int .i64 4)=some (.int .i64 ((k % 4:Nat):Int)):=Awu (m:=4) (by decide)
theorem WO.appO2{P:Program}{ng:Nat}{H:Aaa}{KF:List Value->Aaa->Prop}{fr tm:List Value}{tr:List TE}{e esz:Nat}{v:Value}{n:Nat}{c:List Value}{d:D}{un:List Nat}{r:List (Aa7×List Nat)}{bytes:Nat}{x:Value}{m:Nat}{news:List Value}(h:WO H e esz v n c)(hx:∃a k,x=.slice a m k)(h1:Abf H esz x=some news)(hm:news.length=m*esz)
 (hs:(n+m)*bytes<=140737488355328/\n+m<=140737488355328)
 (hk:∀v' H',WO H' e esz v' (n+m) (c++news)->Chg (Ahp v) H H'->(blk v'=blk v\/blk v'=some H.n)->Ak9 3 [] H H' tr un/\RD P ng r (d.frame v' fr) (d.temps v' tm) H' (tr++[⟨3,[],H,H'⟩]) KF):goD P ng (.app e esz bytes v x) (Aak (.app e esz bytes v x) H) d un r fr tm H tr KF:=by
 obtain⟨v',H',e1,e2,e3,e4⟩:=h.app (bytes:=bytes) hm hs
 obtain⟨a,k,rfl⟩:=hx
 obtain⟨q1,q2⟩:=hk v' H' e2 e3 e4
 exact⟨v',H',by simp only[Aak,h1];exact e1,q1,q2⟩
theorem A7s{l:List CV}{i:Nat}(h:i<l.length):l.getD i cv0∈l:=by rw[List.getD_eq_getElem?_getD,List.getElem?_eq_getElem h];exact List.getElem_mem h
theorem Aof{H:Aaa}{l:List CV}(h:∀p∈l,CvO H p):((l.map Aa3).flatten).all Value.oneCell'=true:=by
 rw[List.all_eq_true]
 intro x hx
 obtain⟨r,hr,hx⟩:=List.mem_flatten.1 hx
 obtain⟨p,hp,rfl⟩:=List.mem_map.1 hr
 have h1:=Sl.one (h p hp).a.s
 have h2:=Sl.one (h p hp).b.s
 have:(Aa3 p).all Value.oneCell'=true:=by
  simp only[Aa3,List.all_cons,List.all_append,h1,h2,Aav,Aci,Ae2,Aas];rfl
 exact List.all_eq_true.1 this x hx
theorem Aky(l:List CV):((l.map Aa3).flatten).length=l.length*81:=by
 have:=Ab7 (esz:=81) (rows:=l.map Aa3) (by intro r hr;obtain⟨p,_,rfl⟩:=List.mem_map.1 hr;exact Alv p)
 simpa using this
theorem A04(H:Aaa):∃w H',Aaq Tryz.prog 0 6 [] H w H'/\w=.bool true:=by
 refine Aam f6 ?_
 intro Q hq1 hq2
 simp(disch:=first|assumption|omega)only[f6,P4,seval]
 refine Aat (t27 H) ?_
 have ho:=Ai3 (Apy H)
 have ll:(yU H).l.length=4:=rfl
 have hul:(yU H).l=[(yU H).s,(yU H).p,(yU H).g,(yU H).r]:=rfl
 obtain⟨Y,hY⟩:∃Y,Y=yK H:=⟨_,rfl⟩
 have hly:=Apy H
 rw[<-hY]at hly
 rw[<-hY]
 obtain⟨u,hu⟩:∃u,u=yU H:=⟨_,rfl⟩
 obtain⟨xs,hxs⟩:∃xs,xs=yX H:=⟨_,rfl⟩
 rw[<-hu,<-hxs]at hly
 rw[<-hu]at ho ll
 have fin:Aau [.int .u64 0,.int .u32 0,.int .u32 0,.slice none 0 0] [(1,1,.int .u32 3),(3,1,slc (Y.n+1) 0 1 1)]=some [.int .u64 0,.int .u32 3,.int .u32 0,slc (Y.n+1) 0 1 1]:=rfl
 have fcm:Aau [.int .u8 0,.int .i64 0] [(0,1,.int .u8 1)]=some [.int .u8 1,.int .i64 0]:=rfl
 rw[<-hu]
 have f64:Aau [.int .u64 0,.int .u32 0,.int .u32 0,.slice none 0 0] [(0,1,.int .u64 64)]=some [.int .u64 64,.int .u32 0,.int .u32 0,.slice none 0 0]:=rfl
 have f4:Aau [.int .u64 0,.int .u32 0,.int .u32 0,.slice none 0 0] [(1,1,.int .u32 4)]=some [.int .u64 0,.int .u32 4,.int .u32 0,.slice none 0 0]:=rfl
 have f3:Aau [.int .u64 0,.int .u32 0,.int .u32 0,.slice none 0 0] [(1,1,.int .u32 3)]=some [.int .u64 0,.int .u32 3,.int .u32 0,.slice none 0 0]:=rfl
 have f23:Aau [.int .u64 0,.int .u32 0,.int .u32 0,.slice none 0 0] [(0,1,.int .u64 2),(1,1,.int .u32 3)]=some [.int .u64 2,.int .u32 3,.int .u32 0,.slice none 0 0]:=rfl
 have f6:∀(n:Int) (a b c d:Value),Aau [.int .i64 0,.int .i64 0,.int .u64 0,.int .u32 0,.int .u32 0,.slice none 0 0] [(0,1,.int .i64 1),(1,1,.int .i64 n),(2,4,.agg #[a,b,c,d])]=some [.int .i64 1,.int .i64 n,a,b,c,d]:=fun _ _ _ _ _=>rfl
 have o14:∀b:Nat,((kv (slc b 0 1 1)).map Aa3).flatten.all Value.oneCell'=true:=fun b=>by kernel_rfl
 have l14:∀b:Nat,((kv (slc b 0 1 1)).map Aa3).flatten.length=1134:=fun b=>by kernel_rfl
 simp(disch:=first|assumption|omega|(simp only[LN]<;>omega)|(simp(disch:=first|assumption|omega|(simp only[LN]<;>omega))only[Aab,Aad];assumption))only[P3,seval,Aah,Aao,ho,ll,fin,fcm,F5,f64,f4,f23,f6,fR0,fR1,fR2,fS4,fS5,fS6,fR4,fR5,fR6,fR7,fR8,fR9,fRa,fRb,fRd,fRs,o14,l14]
 obtain⟨K1,hK1⟩:∃X,X=(((Y.alloc (.cells true false 4 u.l 27)).alloc (.cells true false 2 [.int .u8 1,.int .i64 0] 83)).alloc (.cells true false 4 [.int .u64 0,.int .u32 3,.int .u32 0,slc (Y.n+1) 0 1 1] 46)).alloc (.cells true false 81 ((kv (slc (Y.n+1) 0 1 1)).map Aa3).flatten 71):=⟨_,rfl⟩
 have k1:Aac Y K1:=by rw[hK1];exact((((Aac.refl _).alloc _).alloc _).alloc _).alloc _
 have gl1:K1.get Y.n=some (.cells true false 4 u.l 27):=by rw[hK1];exact((((Aac.refl _).alloc _).alloc _).alloc _).at_ (Aaa.Bfd Y _)
 have gc1:K1.get (Y.n+1)=some (.cells true false 2 [.int .u8 1,.int .i64 0] 83):=by rw[hK1];exact(((Aac.refl _).alloc _).alloc _).at_ (Aaa.Bfd (Y.alloc _) _)
 have gi1:K1.get (Y.n+2)=some (.cells true false 4 [.int .u64 0,.int .u32 3,.int .u32 0,slc (Y.n+1) 0 1 1] 46):=by rw[hK1];exact((Aac.refl _).alloc _).at_ (Aaa.Bfd ((Y.alloc _).alloc _) _)
 have sv1:Sl K1 81 (slc (Y.n+3) 0 14 14) ((kv (slc (Y.n+1) 0 1 1)).map Aa3):=by
  rw[hK1];exact Ad2 (by intro r hr;obtain⟨p,_,rfl⟩:=List.mem_map.1 hr;exact Alv p) rfl rfl
 have isv:isS (slc (Y.n+3) 0 14 14)=true:=rfl
 have lv:Ab9 (slc (Y.n+3) 0 14 14)=14:=rfl
 have nY1:K1.n=Y.n+4:=by rw[hK1];rfl
 rw[<-hK1]
 have hl1:=hly.keeps k1
 have hc1:SlC K1 2 (slc (Y.n+1) 0 1 1) [[.int .u8 1,.int .i64 0]]:=⟨⟨⟨_,_,rfl⟩,by simp,Ais (n:=1) (k:=1) gc1 rfl⟩,.inr (.inr ⟨_,1,1,_,_,_,_,rfl,Nat.le_refl _,gc1⟩)⟩
 obtain⟨cm,hcm⟩:∃c,c=slc (Y.n+1) 0 1 1:=⟨_,rfl⟩
 obtain⟨v,hv⟩:∃c,c=slc (Y.n+3) 0 14 14:=⟨_,rfl⟩
 obtain⟨lb,hlb⟩:∃c,c=Y.n:=⟨_,rfl⟩
 obtain⟨ib,hib⟩:∃c,c=Y.n+2:=⟨_,rfl⟩
 have ocm:cm.oneCell'=true:=by rw[hcm];rfl
 rw[<-hcm]at sv1 gi1 hc1
 rw[<-hv]at sv1 isv lv ⊢
 rw[<-hlb]at gl1
 rw[<-hib]at gi1
 have ei:Y.n+1+1=ib:=hib.symm
 try rw[ei]
 rw[<-hlb]
 have hcv:∀X,Aac K1 X->CvL X v (kv cm):=fun X k=>⟨sv1.keeps k,fun p hp=>Bbs (hc1.keeps k) p hp⟩
 have hlay:∀X,Aac K1 X->LyR X u xs yL:=fun X k=>hl1.keeps k
 have yin:=A2f
 have l14:(kv cm).length=14:=rfl
 rw[Aag]
 refine Aal (fun q fr X=>∃i x5 x6 x7 x9 x10 x11 x12 x13,fr=[.bool false,ptr lb 0,ptr ib 0,v,.int .i64 ((i:Nat):Int),x5,x6,x7,undef,x9,x10,x11,x12,x13]/\Aac K1 X/\i<=14/\q=14-i) 14
  ⟨0,_,_,_,_,_,_,_,_,rfl,Aac.refl _,by omega,rfl⟩ ?_
 rintro Q' q fr X ⟨i,x5,x6,x7,x9,x10,x11,x12,x13,rfl,kX,hi,rfl⟩ hn' hx' hret
 by_cases hlt:i<14
 ·have e0:(0:Int)<=(i:Int):=by omega
  have e1:(i:Int)<14:=by omega
  have hw:=wrS (i:=i) (by omega)
  simp(disch:=first|assumption|omega)only[P3,seval,Aah,Aao,e1,isv,lv]
  rw[Aag]
  simp(disch:=first|assumption|omega)only[P3,seval,Aah,Aao,e1,isv,lv]
  rw[Aag]
  refine Aal (fun q fr Z=>∃k x6 x7 x10 x11 x12 x13,fr=[.bool false,ptr lb 0,ptr ib 0,v,.int .i64 ((i:Nat):Int),.int .i64 ((k:Nat):Int),x6,x7,undef,.bool true,x10,x11,x12,x13]/\Aac K1 Z/\k<=14/\q=14-k) 14
   ⟨0,_,_,_,_,_,_,rfl,kX,by omega,rfl⟩ ?_
  rintro Q2 q fr Z ⟨k,x6,x7,x10,x11,x12,x13,rfl,kZ,hk,rfl⟩ hn2 hx2 hret2
  by_cases hlk:k<14
  ·have f0:(0:Int)<=(k:Int):=by omega
   have f1:(k:Int)<14:=by omega
   have hwk:=wrS (i:=k) (by omega)
   simp(disch:=first|assumption|omega)only[P3,seval,Aah,Aao,f1,isv,lv]
   rw[Aag]
   simp(disch:=first|assumption|omega)only[P3,seval,Aah,Aao,f1,isv,lv,A5l]
   rw[Aag]
   refine Aal (fun q fr V=>∃n x7 x11 x12 x13,fr=[.bool false,ptr lb 0,ptr ib 0,v,.int .i64 ((i:Nat):Int),.int .i64 ((k:Nat):Int),.int .i64 ((n:Nat):Int),x7,undef,.bool true,.bool true,x11,x12,x13]/\Aac K1 V/\n<=15/\q=15-n) (15-i % 2)
    ⟨i % 2,_,_,_,_,rfl,kZ,by omega,rfl⟩ ?_
   rintro Q3 q fr V ⟨n,x7,x11,x12,x13,rfl,kV,hn,rfl⟩ hn3 hx3 hret3
   by_cases hln:n<14
   ·have g0:(0:Int)<=(n:Int):=by omega
    have g1:(n:Int)<14:=by omega
    have hwn:IntKind.i64.wrap ((n:Int)+2)=((n+2:Nat):Int):=by rw[Aa5 (by omega) (by omega)];simp
    have hci:=hcv V kV
    obtain⟨na,ra⟩:=hci.at_ (i:=i) (by rw[l14];exact hlt)
    obtain⟨_,rk⟩:=hci.at_ (i:=k) (by rw[l14];exact hlk)
    obtain⟨_,rn⟩:=hci.at_ (i:=n) (by rw[l14];exact hln)
    have glV:=kV.at_ gl1
    have giV:=kV.at_ gi1
    have oi:=hci.c _ (A7s (i:=i) (by rw[l14];exact hlt))
    have ok:=hci.c _ (A7s (i:=k) (by rw[l14];exact hlk))
    have on:=hci.c _ (A7s (i:=n) (by rw[l14];exact hln))
    obtain⟨P,hP⟩:∃P,P=(kv cm).getD i cv0:=⟨_,rfl⟩
    obtain⟨R,hR⟩:∃P,P=(kv cm).getD k cv0:=⟨_,rfl⟩
    obtain⟨S,hS⟩:∃P,P=(kv cm).getD n cv0:=⟨_,rfl⟩
    rw[<-hP]at ra oi
    rw[<-hR]at rk ok
    rw[<-hS]at rn on
    have hcV:=hc1.keeps kV
    have hko:=kr_c hcV oi ok on
    have o8:=Aof hko
    have l8:=Aky (kr cm P R S)
    have l8':(kr cm P R S).length=8:=rfl
    rw[l8']at l8
    simp(disch:=first|assumption|omega)only[P3,seval,Aah,Aao,g1,isv,lv]
    rw[Aag]
    simp(disch:=first|assumption|omega|(simp only[LN]<;>omega)|(simp(disch:=first|assumption|omega|(simp only[LN]<;>omega))only[Aab,Aad];assumption))only[P3,seval,Aah,Aao,e0,e1,f0,f1,g0,g1,isv,lv,na,ra,rk,rn,giV,f6,fR0,fR1,fR2,fR8s,o8,l8]
    obtain⟨V1,hV1⟩:∃Z,Z=V.alloc (.cells true false 81 ((kr cm P R S).map Aa3).flatten 71):=⟨_,rfl⟩
    have kV1:Aac V V1:=by rw[hV1];exact(Aac.refl V).alloc _
    have s8:CvL V1 (slc V.n 0 8 8) (kr cm P R S):=⟨by rw[hV1];exact Ad2 (by intro r hr;obtain⟨p,_,rfl⟩:=List.mem_map.1 hr;exact Alv p) rfl rfl,fun p hp=>(hko p hp).keeps kV1⟩
    rw[<-hV1]
    have gl2:=kV1.at_ glV
    have hik:IntKind.i64.wrap ((i:Int)+(k:Int))=((i+k:Nat):Int):=by rw[Aa5 (by omega) (by omega)];simp
    have hkn:IntKind.i64.wrap ((k:Int)+(n:Int))=((k+n:Nat):Int):=by rw[Aa5 (by omega) (by omega)];simp
    simp(disch:=first|assumption|omega)only[P4,seval,hik,A5l,gl2,Aa9,ll]
    refine Aae (t4 (hlay V1 (kV.trans kV1)) yin s8 (by rw[l8'];omega) _) ?_
    rintro _ V2 ⟨rfl,k2⟩
    have kV2:=(kV.trans kV1).trans k2
    have gl3:=kV2.at_ gl1
    have hc2:=hcv V2 kV2
    obtain⟨_,ra0⟩:=hc2.at_ (i:=0) (by rw[l14];omega)
    obtain⟨_,ra1⟩:=hc2.at_ (i:=1) (by rw[l14];omega)
    obtain⟨_,ra2⟩:=hc2.at_ (i:=2) (by rw[l14];omega)
    have c2:=Bbs (hc1.keeps kV2)
    have c2':∀p∈(kq ((kv cm).getD 0 cv0) ((kv cm).getD 1 cv0) ((kv cm).getD 2 cv0)),CvO V2 p:=by
     intro p hp
     simp only[kq,List.mem_cons,List.not_mem_nil,or_false]at hp
     rcases hp with rfl|rfl|rfl<;>exact c2 _ (A7s (by rw[l14];omega))
    have o3:=Aof c2'
    have l3:((kq ((kv cm).getD 0 cv0) ((kv cm).getD 1 cv0) ((kv cm).getD 2 cv0)).map Aa3).flatten.length=3*81:=Aky (kq ((kv cm).getD 0 cv0) ((kv cm).getD 1 cv0) ((kv cm).getD 2 cv0))
    have t1:Int.toNat 1=1:=rfl
    have t2:Int.toNat 2=2:=rfl
    by_cases h4:(k+n) % 4=0
    ·have d4:((((k+n) % 4:Nat):Int)==0)=true:=An8 (by omega)
     simp(disch:=first|assumption|omega)only[P4,seval,hkn,A5m,d4,gl3,Aa9,ll,isv,lv,na,ra0,ra1,ra2,fR3s,o3,l3,t1,t2]
     have k3:Aac V2 (V2.alloc (.cells true false 81 ((kq ((kv cm).getD 0 cv0) ((kv cm).getD 1 cv0) ((kv cm).getD 2 cv0)).map Aa3).flatten 71)):=(Aac.refl _).alloc _
     have a3:AP (V2.alloc (.cells true false 81 ((kq ((kv cm).getD 0 cv0) ((kv cm).getD 1 cv0) ((kv cm).getD 2 cv0)).map Aa3).flatten 71)) 71 81 (slc V2.n 0 3 3) 3 ((kq ((kv cm).getD 0 cv0) ((kv cm).getD 1 cv0) ((kv cm).getD 2 cv0)).map Aa3).flatten:=.inr ⟨V2.n,false,rfl,l3,Aaa.Bfd V2 _⟩
     have s83:=(s8.keeps k2).keeps k3
     have q3:=c2'
     generalize V2.alloc (.cells true false 81 ((kq ((kv cm).getD 0 cv0) ((kv cm).getD 1 cv0) ((kv cm).getD 2 cv0)).map Aa3).flatten 71)=V3 at*
     refine WO.appO2 (n:=3) (m:=8) a3.wo ⟨_,_,rfl⟩ s83.s.el (by rw[Aky,l8']) (by omega) ?_
     intro v' V4 w4 c4 _
     replace c4:Chg [V2.n] V3 V4:=c4
     have nlb:=Aaa.Bfg gl3
     have gl3':=k3.at_ gl3
     have gl4:=c4.at_ gl3' (by simp;omega)
     have k24:Aac V2 V4:=k3.Bfh c4 (fun x hx=>by rw[List.mem_singleton]at hx;omega)
     have s11:CvL V4 v' (kq ((kv cm).getD 0 cv0) ((kv cm).getD 1 cv0) ((kv cm).getD 2 cv0)++kr cm P R S):=by
      refine⟨WO.sl (e:=71) (n:=3+8) ?_ (by intro r hr;obtain⟨p,_,rfl⟩:=List.mem_map.1 hr;exact Alv p) rfl,fun p hp=>?_⟩
      ·rw[List.map_append,List.flatten_append];exact w4
      ·rcases List.mem_append.1 hp with hp|hp
       ·exact(c2' p hp).keeps k24
       ·exact(hko p hp).keeps ((kV1.trans k2).trans k24)
     refine⟨by simp[Ak9,Ael,gl3',gl4],?_⟩
     simp(disch:=first|assumption|omega)only[P4,seval]
     refine Aae (t4 (hlay V4 (kV2.trans k24)) yin s11 (by rw[List.length_append,l8'];show 3+8<=_;omega) 0) ?_
     rintro _ V5 ⟨rfl,k5⟩
     simp(disch:=first|assumption|omega)only[P4,seval,hwn]
     exact hn3 _ _ _ ⟨n+2,_,_,_,_,rfl,(kV2.trans k24).trans k5,by omega,rfl⟩ (by omega)
    ·have d4:((((k+n) % 4:Nat):Int)==0)=false:=Arw (by omega)
     simp(disch:=first|assumption|omega)only[P4,seval,hkn,A5m,d4,hwn]
     exact hn3 _ _ _ ⟨n+2,_,_,_,_,rfl,kV2,by omega,rfl⟩ (by omega)
   ·have g1:¬(n:Int)<14:=by omega
    simp(disch:=first|assumption|omega)only[P4,seval,g1,isv,lv]
    refine hx3 _ _ _ ?_
    simp(disch:=first|assumption|omega)only[P4,seval,hwk]
    exact hn2 _ _ _ ⟨k+1,_,_,_,_,_,_,rfl,kV,by omega,rfl⟩ (by omega)
  ·have f1:¬(k:Int)<14:=by omega
   simp(disch:=first|assumption|omega)only[P4,seval,f1,isv,lv]
   refine hx2 _ _ _ ?_
   simp(disch:=first|assumption|omega)only[P4,seval,hw]
   exact hn' _ _ _ ⟨i+1,_,_,_,_,_,_,_,_,rfl,kZ,by omega,rfl⟩ (by omega)
 ·have e1:¬(i:Int)<14:=by omega
  have glX:=kX.at_ gl1
  have giX:=kX.at_ gi1
  simp(disch:=first|assumption|omega)only[P4,seval,e1,isv,lv]
  refine hx' _ _ _ ?_
  simp(disch:=first|assumption|omega)only[P4,seval]
  refine Aat (t27 X) ?_
  have ho2:=Ai3 (Apy X)
  have ll2:(yU X).l.length=4:=rfl
  have lu3:(yU X).l[3]? =some (slc (X.n+16) 0 5 5):=rfl
  have t1:Int.toNat 1=1:=rfl
  have gr:(yK X).get (X.n+16)=some (.cells true false 6 (yR X) 87):=Aaa.Bfd _ _
  have lt16:X.n+16<(yK X).n:=by rw[yK_n];omega
  have l30:(yR X).length=30:=rfl
  have on:(Value.slice none 0 0).oneCell'=true:=rfl
  obtain⟨C,hC⟩:∃C,C=AO.cells true false 6 ((yR X).set 8 (.slice none 0 0)) 87:=⟨_,rfl⟩
  have hb:=yK_2 (Aac.refl (yK X))
  have kB:Aac X (((yK X).set (X.n+16) (.cells true false 6 ((yR X).set 8 (.slice none 0 0)) 87)).alloc (.cells true false 4 (yU X).l 27)):=((Bbg X).set (by omega) (by omega) _).alloc _
  have kC:=(Aac.refl ((yK X).set (X.n+16) (.cells true false 6 ((yR X).set 8 (.slice none 0 0)) 87))).alloc (.cells true false 4 (yU X).l 27)
  have hbd:=hb.keeps kC
  have gb:(((yK X).set (X.n+16) (.cells true false 6 ((yR X).set 8 (.slice none 0 0)) 87)).alloc (.cells true false 4 (yU X).l 27)).get (yK X).n=some (.cells true false 4 (yU X).l 27):=Aaa.Bfd ((yK X).set (X.n+16) (.cells true false 6 ((yR X).set 8 (.slice none 0 0)) 87)) _
  have cvn:∀Z,CvL Z (.slice none 0 0) []:=fun Z=>⟨Sl.nil _ _,by simp⟩
  have r4:∀(o r:Bool) (T:Nat),Ac5 (some (.cells o r 4 (yU X).l T)) 0 4=some (yU X).l:=fun o r T=>Aa9 rfl
  have r4':∀(o r:Bool) (T:Nat),Ac5 (some (.cells o r 4 u.l T)) 0 4=some u.l:=fun o r T=>Aa9 rfl
  simp(disch:=first|assumption|omega|(simp only[LN]<;>omega)|(simp(disch:=first|assumption|omega|(simp only[LN]<;>omega))only[Aab,Aad];assumption))only[P3,seval,Aah,Aao,ho2,ll2,lu3,t1,gr,lt16,l30,on]
  generalize((yK X).set (X.n+16) (.cells true false 6 ((yR X).set 8 (.slice none 0 0)) 87)).alloc (.cells true false 4 (yU X).l 27)=Z0 at*
  refine Aae (t4 hbd Axw (cvn Z0) (by simp) 0) ?_
  rintro _ Z1 ⟨rfl,z1⟩
  have kk1:=kX.trans (kB.trans z1)
  have gl1':=kk1.at_ gl1
  simp(disch:=first|assumption|omega)only[P4,seval,gl1',r4']
  refine Aae (t4 (hlay Z1 kk1) yin (cvn Z1) (by simp) 2) ?_
  rintro _ Z2 ⟨rfl,z2⟩
  have gb2:=(z1.trans z2).at_ gb
  simp(disch:=first|assumption|omega)only[P4,seval,gb2,r4]
  refine Aae (t4 (hbd.keeps (z1.trans z2)) Axw (cvn Z2) (by simp) (-1)) ?_
  rintro _ Z3 ⟨rfl,z3⟩
  have kk3:=(kk1.trans z2).trans z3
  have gi3:=kk3.at_ gi1
  have tN:=t5 (H:=Z3) (kS 1 0 0) (x:=kI 0 3) (z:=cm) ocm
  rw[A5k]at tN
  simp(disch:=first|assumption|omega|(simp only[LN]<;>omega)|(simp(disch:=first|assumption|omega|(simp only[LN]<;>omega))only[Aab,Aad];assumption))only[P4,seval,gi3,fS5]
  refine Aae tN ?_
  rintro _ Z4 ⟨rfl,z4⟩
  have kk4:=kk3.trans z4
  have gi4:=kk4.at_ gi1
  have gl4:=kk4.at_ gl1
  have f12:∀(a b c d e f g h i j k l:Value),Aau [.int .u64 0,.int .u32 0,.int .u32 0,.slice none 0 0,.int .u64 0,.int .u32 0,.int .u32 0,.slice none 0 0,.int .u64 0,.int .u32 0,.int .u32 0,.slice none 0 0] [(0,4,.agg #[a,b,c,d]),(4,4,.agg #[e,f,g,h]),(8,4,.agg #[i,j,k,l])]=some [a,b,c,d,e,f,g,h,i,j,k,l]:=fun _ _ _ _ _ _ _ _ _ _ _ _=>rfl
  have o12:one1 cm=True:=by simp[one1,ocm]
  have lib:=Aaa.Bfg gi4
  simp(disch:=first|assumption|omega|(simp only[LN]<;>omega)|(simp(disch:=first|assumption|omega|(simp only[LN]<;>omega))only[Aab,Aad];assumption))only[P3,seval,Aah,Aao,gi4,gl4,r4',f3,f23,f12,o12,ocm,on]
  have n12:∀c∈[((1:Int),(0:Int))],0<=c.1/\c.1<256:=by simp
  have n0:∀c∈([]:List (Int×Int)),0<=c.1/\c.1<256:=by simp
  have zn:∀K,SlC K 2 (.slice none 0 0) (([]:List (Int×Int)).map Aer):=fun K=>⟨Sl.nil _ _,.inl rfl⟩
  obtain⟨Z5,hZ5⟩:∃Z,Z=Z4.alloc (.cells true false 4 [.int .u64 0,.int .u32 3,.int .u32 0,cm,.int .u64 2,.int .u32 3,.int .u32 0,.slice none 0 0,.int .u64 0,.int .u32 3,.int .u32 0,.slice none 0 0] 46):=⟨_,rfl⟩
  obtain⟨Z6,hZ6⟩:∃Z,Z=Z5.alloc (.cells true false 4 [.int .u64 0,.int .u32 3,.int .u32 0,cm,.int .u64 0,.int .u32 3,.int .u32 0,.slice none 0 0,.int .u64 0,.int .u32 3,.int .u32 0,.slice none 0 0] 46):=⟨_,rfl⟩
  have z5:Aac Z4 Z5:=by rw[hZ5];exact(Aac.refl _).alloc _
  have z6:Aac Z5 Z6:=by rw[hZ6];exact(Aac.refl _).alloc _
  have kk6:=(kk4.trans z5).trans z6
  have hcm6:SlC Z6 2 cm ([((1:Int),(0:Int))].map Aer):=hc1.keeps kk6
  have n5:Z5.n=Z4.n+1:=by rw[hZ5];rfl
  have ia:InL Z6 (slc Z4.n 0 3 3) [⟨kI 0 3,cm,[(1,0)]⟩,⟨kI 2 3,.slice none 0 0,[]⟩,⟨kI 0 3,.slice none 0 0,[]⟩]:=by
   refine⟨Sl.keeps (by rw[hZ5];exact Ad2 (by intro r hr;obtain⟨p,_,rfl⟩:=List.mem_map.1 hr;rfl) (by kernel_rfl) rfl) z6,fun p hp=>?_⟩
   simp only[List.mem_cons,List.not_mem_nil,or_false]at hp
   rcases hp with rfl|rfl|rfl
   ·exact⟨hcm6,n12⟩
   ·exact⟨zn _,n0⟩
   ·exact⟨zn _,n0⟩
  have ib2:InL Z6 (slc Z5.n 0 3 3) [⟨kI 0 3,cm,[(1,0)]⟩,⟨kI 0 3,.slice none 0 0,[]⟩,⟨kI 0 3,.slice none 0 0,[]⟩]:=by
   refine⟨by rw[hZ6];exact Ad2 (by intro r hr;obtain⟨p,_,rfl⟩:=List.mem_map.1 hr;rfl) (by kernel_rfl) rfl,fun p hp=>?_⟩
   simp only[List.mem_cons,List.not_mem_nil,or_false]at hp
   rcases hp with rfl|rfl|rfl
   ·exact⟨hcm6,n12⟩
   ·exact⟨zn _,n0⟩
   ·exact⟨zn _,n0⟩
  rw[<-hZ5,<-hZ6]
  rw[n5]at ib2
  refine Aae (t3 (hlay Z6 kk6) yin ia ib2 4) ?_
  rintro _ Z7 ⟨rfl,z7⟩
  simp(disch:=first|assumption|omega)only[P4,seval]
  refine Aat (t8 Z7) ?_
  simp(disch:=first|assumption|omega)only[P4,seval]
  exact hq2 _ _ ⟨_,rfl,rfl⟩
theorem lawCKnown:∀H args,Aji H->AVs Tryz.prog H.get [] args->∃H',Aaq Tryz.prog 0 6 args H (.bool true) H':=by
 intro H args _ h
 match args,h with
 |[],_=>
  obtain⟨_,H',a,rfl⟩:=A04 H
  exact⟨H',a⟩
end Go.AM.Fd
