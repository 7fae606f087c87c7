/- Part of the proof. -/
import Derived.Test.YtpfnjeiiajeigaaGreatGCN05
set_option linter.unusedSimpArgs false
set_option linter.unusedVariables false
set_option maxRecDepth 20000
namespace Go.AM.Fd
open Nat (reduceAdd reduceEqDiff reduceLT reduceLeDiff reduceMul reduceSub)
open Go.Proofs Go.AM.F
def cwx:Inp:=⟨fun _=>false,fun i=>(3:Nat).testBit i,fun _=>false⟩
def cwc:List (Int×Int):=[(1,0)]
theorem cwx_l(z:Value):inl cwx z=[.int .u64 0,.int .u32 3,.int .u32 0,z]:=by
 have h:Value.int .u32 3=S32 fun i=>(3:Nat).testBit i:=by
  show Value.int .u32 ((3:Nat):Int)=_
  unfold S32
  rw[bits_of (by decide)]
 show[S64 _,S32 _,S32 _,z]=_
 rw[s_zero,p_zero,h];rfl
theorem cwx_in:inR 6 2 5 cwx cwc=true:=by decide+kernel
theorem cw_rst:rstB yL Sta0 1 0=true:=by decide+kernel
def cwC(wh:Int):Ch:=⟨Sta0,1,0,sd0 wh,false,none⟩
theorem cw_rstS(C:Ch)(wh:Int):rstS yL C wh Sta0 1 0=cwC wh:=by unfold rstS;rw[cw_rst];rfl
theorem cw_rstE:rstE yL Sta0 1 0=0:=by unfold rstE;rw[cw_rst];rfl
def cwR(wh:Int):Rd:=⟨wh,1,cwx,cwc⟩
def cwD(wh:Int):Ch:={cwC wh with sd:=⟨wh,1,some (cwR wh),none,none,false⟩,tk:=false,nx:=none}
theorem cw_bgB(wh:Int):bgB yL (cwC wh) 1 cwx cwc=true:=by
 have:=cwx_in
 unfold bgB
 rw[show yL.s.length=6 from rfl,show yL.p.length=2 from rfl,show yL.r.length=5 from rfl,this];rfl
theorem cw_bgS(wh:Int):bgS yL (cwC wh) 1 cwx cwc=cwD wh:=by unfold bgS;rw[cw_bgB];rfl
theorem cw_bgR(wh:Int):bgR yL (cwC wh) 1 cwx cwc=cwR wh:=by unfold bgR;rw[cw_bgB];rfl
theorem cw_bgE(wh:Int):bgE yL (cwC wh) 1 cwx cwc=0:=by unfold bgE;rw[cw_bgB];rfl
def cwE(wh oth:Int):Ch:={cwD wh with sd:=⟨wh,1,some (cwR wh),some (cwR oth),none,false⟩}
theorem cw_hin(wh:Int):inR yL.s.length yL.p.length yL.r.length (cwR wh).x (cwR wh).c=true:=cwx_in
theorem cw_heaS:hhS yL (cwD 0) (cwR 1)=cwE 0 1∧hhS yL (cwD 1) (cwR 0)=cwE 1 0∧hhE yL (cwD 0) (cwR 1)=0∧hhE yL (cwD 1) (cwR 0)=0:=by
 unfold hhS hhE
 rw[cw_hin,cw_hin]
 exact⟨rfl,rfl,rfl,rfl⟩
def cwT:Sta:=stepD yL Sta0 (mrgX cwx cwx) (mrgC cwc cwc)
theorem cw_pr:(((bitsN (fun i=>decide (i<yL.r.length)&&proD yL (mrgX cwx cwx) cwT i) 64:Nat):Int)==1)=true:=by decide+kernel
theorem cw_lo:(((bitsN cwT.lo 64:Nat):Int)==1)=true:=by decide+kernel
theorem cwR_ok(wh:Int):ROk (cwR wh):=⟨by show cwc.length≤1000;decide,by show∀c∈cwc,_;decide⟩
theorem cs_eq1(f:Nat→Bool):binA .eql (S64 f) (.int .u64 1)=some (.bool (((bitsN f 64:Nat):Int)==1)):=by unfold S64;rw[b_eql]
theorem ceq_fr(a b c d:Int)(f:Nat→Bool)(g:Nat→Bool)(H:AHeap):asem (.eqs [1,1,1,1] false (.agg #[.int .i64 a,.int .i64 b,S64 f,S32 g]) (.agg #[.int .i64 a,.int .i64 b,S64 f,S32 g])) H=some (.bool true,H):=by
 simp[asem,eqCs,eqC,S64,S32]
theorem fillCw:fillA [.int .u8 0,.int .i64 0] [(0,1,.int .u8 1)]=some [.int .u8 1,.int .i64 0]:=rfl
theorem fillCw2:fillA [.int .u8 0,.int .i64 0] [(0,2,.agg #[.int .u8 1,.int .i64 0])]=some [.int .u8 1,.int .i64 0]:=rfl
theorem fillCi(z:Value)(h:isS z=true):fillA [.int .u64 0,.int .u32 0,.int .u32 0,.slice none 0 0] [(1,1,.int .u32 3),(3,1,z)]=some [.int .u64 0,.int .u32 3,.int .u32 0,z]:=by
 obtain⟨_,_,_,rfl⟩:=isS_inv h;rfl
set_option maxHeartbeats 8000000 in
theorem t8(H:AHeap):∃w K,ARun Tryz.prog 0 8 [] H w K∧w=.bool true∧K=H:=by
 refine gcb ?_
 refine walk2 f8_ok f8_n ?_
 intro Q hq1 hq2
 simp(disch:=first|assumption|omega)only[f8,W_block,P3,seval,initFr,clsA]
 refine callQ (t27 H) ?_
 have hul:(yU H).l=[(yU H).s,(yU H).p,(yU H).g,(yU H).r]:=rfl
 have ho:=ly_ones (yK_ly H)
 have ll:(yU H).l.length=4:=rfl
 obtain⟨K0,hK0⟩:∃X,X=(yK H).alloc (.cells true false 4 (yU H).l 27):=⟨_,rfl⟩
 have k0:Keeps (yK H) K0:=by rw[hK0];exact(Keeps.refl _).alloc _
 have gl0:K0.get (yK H).n=some (.cells true false 4 (yU H).l 27):=by rw[hK0];exact AHeap.get_alloc_new (yK H) _
 have hl0:=(yK_ly H).keeps k0
 have hs4:∀(h:AHeap) (b:Nat) (c:List Value),c.length=4→∀(r:Bool) (T:Nat),stnO h b 0 4 (yU H).l (some (.cells true r 4 c T))=some (undef,h.set b (.cells true r 4 (yU H).l T)):=fun h b c hc r T=>by
  rw[stn_full hc,if_pos ⟨ll,ho⟩]
 simp(disch:=first|assumption|omega|(simp only[LN]<;>omega)|(simp(disch:=first|assumption|omega|(simp only[LN]<;>omega))only[row_alloc,row_set];assumption))only[W_block,P3,seval,initFr,clsA,ho,ll,hs4]
 rw[←hK0]
 refine callK (u9 (wh:=0) hl0 yL_in (.inl rfl) yL_ok) ?_
 rintro _ K1 ⟨a,sa,va,rfl,na⟩
 have gl1:=na.k.at_ gl0
 have hl1:=hl0.keeps na.k
 simp(disch:=first|assumption|omega)only[W_block,P3,seval,initFr,clsA,gl1,rng_full,ll]
 refine callK (u9 (wh:=1) hl1 yL_in (.inr rfl) yL_ok) ?_
 rintro _ K2 ⟨b,sb,vb,rfl,nb⟩
 have tw:=na.two (Keeps.refl K1) nb
 obtain⟨W,hW⟩:∃W:Wd,W=⟨K2,[a,sa,b,sb]⟩:=⟨_,rfl⟩
 rw[←hW]at tw
 have kH:Keeps H K2:=((yK_k H).trans k0).trans (na.k.trans nb.k)
 simp(disch:=first|assumption|omega)only[W_block,P3,seval,initFr,clsA,Z68N_z]
 refine callK (t11 tw.ca (.inl rfl) yL_ok Sta0 1 0) ?_
 rintro _ K3 ⟨rfl,c3,sa',hs3,hA⟩
 rw[cw_rstE]
 rw[cw_rstS]at hA
 have tw:=tw.step c3 hs3 hA
 simp(disch:=first|assumption|omega)only[W_block,P3,seval,initFr,clsA,Z68N_z]
 refine callK (t11 tw.cb (.inr rfl) yL_ok Sta0 1 0) ?_
 rintro _ K4 ⟨rfl,c4,sb',hs4',hB⟩
 rw[cw_rstE]
 rw[cw_rstS]at hB
 have tw:=(tw.swap.step c4 hs4' hB).swap
 simp(disch:=first|assumption|omega)only[W_block,P3,seval,initFr,clsA,Z68N_z]
 refine callK (t15 tw.ca yL_ok) ?_
 rintro _ K5 ⟨rfl,c5,hA⟩
 have e5:thW yL (cwC 0)=.tuple #[.agg (stl Sta0).toArray,.agg (frl 0 0 [.int .u64 0,.int .u32 0]).toArray,.int .i64 4]:=rfl
 have e5':thC yL (cwC 0)=cwC 0:=rfl
 rw[e5]
 rw[e5']at hA
 have tw:=tw.step c5 (.inl rfl) hA
 have ef0:frl 0 0 [.int .u64 0,.int .u32 0]=[.int .i64 0,.int .i64 0,.int .u64 0,.int .u32 0]:=rfl
 rw[ef0]
 have fi:=fillCi (slc (K5.n+1+1) 0 1 1) rfl
 obtain⟨K6,hK6⟩:∃X,X=(((K5.alloc (.cells true false 68 (stl Sta0) 43)).alloc (.cells true false 4 [.int .i64 0,.int .i64 0,.int .u64 0,.int .u32 0] 56)).alloc (.cells true false 2 [.int .u8 1,.int .i64 0] 83)).alloc (.cells true false 4 (inl cwx (slc (K5.n+1+1) 0 1 1)) 46):=⟨_,rfl⟩
 have k6:Keeps K5 K6:=by rw[hK6];exact((((Keeps.refl _).alloc _).alloc _).alloc _).alloc _
 have n6:K6.n=K5.n+4:=by rw[hK6];rfl
 have gi6:K6.get (K5.n+1+1+1)=some (.cells true false 4 (inl cwx (slc (K5.n+1+1) 0 1 1)) 46):=by rw[hK6];exact AHeap.get_alloc_new (((K5.alloc _).alloc _).alloc _) _
 have sc6:SlC K6 2 (slc (K5.n+1+1) 0 1 1) (cwc.map cRow):=by
  rw[hK6]
  have h1:SlC (((K5.alloc (.cells true false 68 (stl Sta0) 43)).alloc (.cells true false 4 [.int .i64 0,.int .i64 0,.int .u64 0,.int .u32 0] 56)).alloc (.cells true false 2 [.int .u8 1,.int .i64 0] 83)) 2 (slc (K5.n+1+1) 0 1 1) (cwc.map cRow):=
   ⟨newSl (H:=(K5.alloc _).alloc _) (rows:=[[.int .u8 1,.int .i64 0]]) (by simp) rfl rfl,.inr (.inr ⟨_,1,1,_,_,_,_,rfl,Nat.le_refl _,AHeap.get_alloc_new ((K5.alloc _).alloc _) _⟩)⟩
  exact h1.keeps ((Keeps.refl _).alloc _)
 rw[cwx_l]at hK6 gi6
 have tw5:=tw
 have tw:=tw.keeps k6
 simp(disch:=first|assumption|omega|(simp only[LN]<;>omega)|(simp(disch:=first|assumption|omega|(simp only[LN]<;>omega))only[row_alloc,row_set];assumption))only[W_block,P3,seval,initFr,clsA,Z68N_z,stl_one,stl_len,stn68s,fillCw,fillCw2,fi]
 rw[←hK6]
 have tB:=t13 tw.ca 1 (x:=cwx) sc6 (by decide) (by decide)
 rw[cwx_l,cw_bgS,cw_bgR,cw_bgE]at tB
 refine callK tB ?_
 rintro _ K7 ⟨c7,hA,y7,rfl,hy7⟩
 have er:∀wh y,rdl (cwR wh) y=[.int .i64 wh,.int .i64 1,S64 cwx.oc,S32 cwx.nr,S32 cwx.rv,y]:=fun _ _=>rfl
 have oy7:=Sl.one hy7.s
 obtain⟨la,lsa,_⟩:=tw.ca.lt
 obtain⟨lb,lsb,_⟩:=tw.cb.lt
 obtain⟨l5a,l5sa,_⟩:=tw5.ca.lt
 obtain⟨l5b,l5sb,_⟩:=tw5.cb.lt
 have gi7:=c7.at_ gi6 (by simp;omega)
 have sc7:=sc6.oth c7 tw.ca.o2
 have tw:=tw.step c7 (.inl rfl) hA
 have n7:=c7.n
 obtain⟨K8,hK8⟩:∃X,X=K7.alloc (.cells true false 6 (rdl (cwR 0) y7) 49):=⟨_,rfl⟩
 have k8:Keeps K7 K8:=by rw[hK8];exact(Keeps.refl _).alloc _
 have g8:K8.get K7.n=some (.cells true false 6 (rdl (cwR 0) y7) 49):=by rw[hK8];exact AHeap.get_alloc_new K7 _
 have gi8:=k8.at_ gi7
 have tw:=tw.keeps k8
 have tB:=t13 tw.cb 1 (x:=cwx) (sc7.keeps k8) (by decide) (by decide)
 rw[cwx_l,cw_bgS,cw_bgR,cw_bgE]at tB
 rw[er]at hK8 g8 ⊢
 simp(disch:=first|assumption|omega|(simp only[LN]<;>omega)|(simp(disch:=first|assumption|omega|(simp only[LN]<;>omega))only[row_alloc,row_set];assumption))only[W_block,P3,seval,initFr,clsA,oy7,gi7,o_s64,o_s32,one_s64,one_s32]
 rw[←hK8]
 refine callK tB ?_
 rintro _ K9 ⟨c9,hB,y9,rfl,hy9⟩
 have oy9:=Sl.one hy9.s
 have n8:=k8.n
 have n9:=c9.n
 have g9:=c9.at_ g8 (by simp;omega)
 have h7:=(hy7.keeps k8).oth c9 tw.cb.o2
 have tw:=(tw.swap.step c9 (.inl rfl) hB).swap
 obtain⟨K10,hK10⟩:∃X,X=K9.alloc (.cells true false 6 (rdl (cwR 1) y9) 49):=⟨_,rfl⟩
 have k10:Keeps K9 K10:=by rw[hK10];exact(Keeps.refl _).alloc _
 have g10:K10.get K9.n=some (.cells true false 6 (rdl (cwR 1) y9) 49):=by rw[hK10];exact AHeap.get_alloc_new K9 _
 have g10':=k10.at_ g9
 have tw:=tw.keeps k10
 have tH:=t14 tw.ca (cwR_ok 1) (hy9.keeps k10)
 obtain⟨w1,w2,w3,w4⟩:=cw_heaS
 rw[w1,w3]at tH
 rw[er]at hK10 g10 tH ⊢
 simp(disch:=first|assumption|omega|(simp only[LN]<;>omega)|(simp(disch:=first|assumption|omega|(simp only[LN]<;>omega))only[row_alloc,row_set];assumption))only[W_block,P3,seval,initFr,clsA,oy9,o_s64,o_s32,one_s64,one_s32]
 rw[←hK10]
 refine callK tH ?_
 rintro _ K11 ⟨rfl,c11,hA⟩
 have g11:=c11.at_ g10' (by simp;omega)
 have n10:=k10.n
 have l7:K7.n<K10.n:=AHeap.get_lt g10'
 have h8:=(h7.keeps k10).oth c11 tw.ca.o2
 have tw:=tw.step c11 (.inl rfl) hA
 have tH:=t14 tw.cb (cwR_ok 0) h8
 rw[w2,w4,er]at tH
 simp(disch:=first|assumption|omega|(simp only[LN]<;>omega)|(simp(disch:=first|assumption|omega|(simp only[LN]<;>omega))only[row_alloc,row_set];assumption))only[W_block,P3,seval,initFr,clsA,g11,l7]
 refine⟨g10'.symm,callK tH ?_⟩
 rintro _ K12 ⟨rfl,c12,hB⟩
 have tw:=(tw.swap.step c12 (.inl rfl) hB).swap
 have n11:=c11.n
 have n12:=c12.n
 simp(disch:=first|assumption|omega)only[W_block,P3,seval,initFr,clsA]
 refine callK (t15 tw.ca yL_ok) ?_
 rintro _ K13 ⟨rfl,c13,hA⟩
 have n13:=c13.n
 have tw:=tw.step c13 (.inl rfl) hA
 have ew:∀p q,thW yL (cwE p q)=.tuple #[.agg (stl cwT).toArray,.agg #[.int .i64 1,.int .i64 1,S64 fun i=>decide (i<yL.r.length)&&proD yL (mrgX cwx cwx) cwT i,S32 cwT.po],.int .i64 0]:=fun _ _=>rfl
 rw[ew]
 obtain⟨f,hf⟩:∃f:Nat→Bool,f=fun i=>decide (i<yL.r.length)&&proD yL (mrgX cwx cwx) cwT i:=⟨_,rfl⟩
 rw[←hf]
 obtain⟨K14,hK14⟩:∃X,X=(K13.alloc (.cells true false 68 (stl cwT) 43)).alloc (.cells true false 4 [.int .i64 1,.int .i64 1,S64 f,S32 cwT.po] 56):=⟨_,rfl⟩
 have k14:Keeps K13 K14:=by rw[hK14];exact((Keeps.refl _).alloc _).alloc _
 have gs14:K14.get K13.n=some (.cells true false 68 (stl cwT) 43):=by rw[hK14];exact((Keeps.refl _).alloc _).at_ (AHeap.get_alloc_new K13 _)
 have gf14:K14.get (K13.n+1)=some (.cells true false 4 [.int .i64 1,.int .i64 1,S64 f,S32 cwT.po] 56):=by rw[hK14];exact AHeap.get_alloc_new (K13.alloc _) _
 have tw:=tw.keeps k14
 simp(disch:=first|assumption|omega|(simp only[LN]<;>omega)|(simp(disch:=first|assumption|omega|(simp only[LN]<;>omega))only[row_alloc,row_set];assumption))only[W_block,P3,seval,initFr,clsA,Z68N_z,stl_one,stl_len,stn68s,o_s64,o_s32,one_s64,one_s32]
 rw[←hK14]
 refine callK (t15 tw.cb yL_ok) ?_
 rintro _ K15 ⟨rfl,c15,hB⟩
 have n14:=k14.n
 have n15:=c15.n
 have gs15:=c15.at_ gs14 (by simp;omega)
 have gf15:=c15.at_ gf14 (by simp;omega)
 have tw:=(tw.swap.step c15 (.inl rfl) hB).swap
 rw[ew,←hf]
 obtain⟨K16,hK16⟩:∃X,X=(K15.alloc (.cells true false 68 (stl cwT) 43)).alloc (.cells true false 4 [.int .i64 1,.int .i64 1,S64 f,S32 cwT.po] 56):=⟨_,rfl⟩
 have k16:Keeps K15 K16:=by rw[hK16];exact((Keeps.refl _).alloc _).alloc _
 have tw:=tw.keeps k16
 have ls15:=AHeap.get_lt gs15
 have lf15:=AHeap.get_lt gf15
 have eqs:∀K,asem (.eqs O68N false (.agg (stl cwT).toArray) (.agg (stl cwT).toArray)) K=some (.bool true,K):=fun K=>(eq_stl K false cwT cwT).trans (by rw[staB_rfl];rfl)
 have eqf:=fun K=>ceq_fr 1 1 0 0 f cwT.po K
 have pr:=cw_pr
 rw[←hf]at pr
 simp(disch:=first|assumption|omega|(simp only[LN]<;>omega)|(simp(disch:=first|assumption|omega|(simp only[LN]<;>omega))only[row_alloc,row_set];assumption))only[W_block,P3,seval,initFr,clsA,Z68N_z,stl_one,stl_len,stn68s,o_s64,o_s32,one_s64,one_s32,gs15,gf15,rng68,eqs,eqf,cs_eq1,pr]
 rw[←hK16]
 refine callK (t17 tw.ca) ?_
 rintro _ K17 ⟨rfl,c17,hA⟩
 have et:tkE (thC yL (cwE 0 1))=0:=rfl
 have es:tkS (thC yL (cwE 0 1))={cwE 0 1 with s:=cwT,nx:=none,tk:=true}:=rfl
 rw[es]at hA
 rw[et]
 simp(disch:=first|assumption|omega)only[W_block,P3,seval,initFr,clsA]
 refine callQ (t18 hA) ?_
 have lo:=cw_lo
 have a0:=na.lc
 have s0:=na.ls
 have b0:=nb.lc
 have t0:=nb.ls
 have nk0:=(yK_k H).n
 have nk1:=k0.n
 have nk2:=na.k.n
 have nk3:=nb.k.n
 have nk4:=c3.n
 have j3:=kH.chg_trans c3 (by simp;omega)
 have j4:=j3.chg_trans c4 (by simp;omega)
 have j5:=j4.chg_trans c5 (by simp;omega)
 have j7:=(j5.trans k6).chg_trans c7 (by simp;omega)
 have j9:=(j7.trans k8).chg_trans c9 (by simp;omega)
 have j11:=(j9.trans k10).chg_trans c11 (by simp;omega)
 have j12:=j11.chg_trans c12 (by simp;omega)
 have j13:=j12.chg_trans c13 (by simp;omega)
 have j15:=(j13.trans k14).chg_trans c15 (by simp;omega)
 have j17:=(j15.trans k16).chg_trans c17 (by simp;omega)
 simp(disch:=first|assumption|omega)only[W_block,P3,seval,initFr,clsA,stl_0,cs_eq1,lo]
 exact hq2 _ _ ⟨.bool true,rfl,rfl,j17⟩
end Go.AM.Fd

set_option maxRecDepth 20000
namespace Go.AM.Fd
open Nat (reduceAdd reduceEqDiff reduceLT reduceLeDiff reduceMul reduceSub)
open Go.Proofs Go.AM.F
theorem n26{H:AHeap}(s:Sta):∃w K,ARun Tryz.prog 0 26 [.pointer none,.agg (stl s).toArray] H w K∧w=.tuple #[]∧Keeps H K:=by
 refine walk2 f26_ok f26_n ?_
 intro Q hq1 hq2
 have k:=(Keeps.refl H).alloc (.cells true false 68 (stl s) 43)
 simp(disch:=first|assumption|omega)only[f26,W_block,P3,seval,initFr,clsA,stl_one,stl_len]
 exact hq2 _ _ ⟨.tuple #[],rfl,rfl,k⟩
theorem n13{H:AHeap}(cy:Int){x:Inp}{z:Value}(hz:z.oneCell'=true):∃w K,ARun Tryz.prog 0 13 [.pointer none,.int .i64 cy,.agg (inl x z).toArray] H w K∧w=.tuple #[.agg #[.int .i64 0,.int .i64 0,.int .u64 0,.int .u32 0,.int .u32 0,.slice none 0 0],.int .i64 1]∧Keeps H K:=by
 refine walk2 f13_ok f13_n ?_
 intro Q hq1 hq2
 have e:inl x z=[S64 x.oc,S32 x.nr,S32 x.rv,z]:=rfl
 have k:=((Keeps.refl H).alloc (.cells true false 4 [S64 x.oc,S32 x.nr,S32 x.rv,z] 46)).alloc (.cells true false 6 [.int .i64 0,.int .i64 0,.int .u64 0,.int .u32 0,.int .u32 0,.slice none 0 0] 49)
 rw[e]
 simp(disch:=first|assumption|omega|(simp only[LN]<;>omega)|(simp(disch:=first|assumption|omega|(simp only[LN]<;>omega))only[row_alloc,row_set];assumption))only[f13,W_block,P3,seval,initFr,clsA,hz,o_s64,o_s32,one_s64,one_s32,fillRz]
 exact hq2 _ _ ⟨_,res_ct (p:=H.n+1) (AHeap.get_alloc_new (H.alloc _) _) rfl rfl rfl,rfl,k⟩
theorem n15{H:AHeap}:∃w K,ARun Tryz.prog 0 15 [.pointer none] H w K∧w=.tuple #[.agg (stl Sta0).toArray,.agg #[.int .i64 0,.int .i64 0,.int .u64 0,.int .u32 0],.int .i64 1]∧Keeps H K:=by
 refine walk2 f15_ok f15_n ?_
 intro Q hq1 hq2
 have k:=((Keeps.refl H).alloc (.cells true false 68 (stl Sta0) 43)).alloc (.cells true false 4 [.int .i64 0,.int .i64 0,.int .u64 0,.int .u32 0] 56)
 simp(disch:=first|assumption|omega|(simp only[LN]<;>omega)|(simp(disch:=first|assumption|omega|(simp only[LN]<;>omega))only[row_alloc,row_set];assumption))only[f15,W_block,P3,seval,initFr,clsA,Z68N_z,stl_one,stl_len,stn68s,fillF0,fill0]
 exact hq2 _ _ ⟨_,res_cct (p:=H.n) (q:=H.n+1) (((Keeps.refl _).alloc _).at_ (AHeap.get_alloc_new H _)) (stl_len _) (AHeap.get_alloc_new (H.alloc _) _) rfl rfl rfl rfl,rfl,k⟩
theorem n23{H:AHeap}:∃w K,ARun Tryz.prog 0 23 [.pointer none] H w K∧w=.tuple #[.agg #[.int .u64 0,.int .u32 0,.int .u32 0,.slice none 0 0],.bool false]∧Keeps H K:=by
 refine walk2 f23_ok f23_n ?_
 intro Q hq1 hq2
 have k:=(Keeps.refl H).alloc (.cells true false 4 [.int .u64 0,.int .u32 0,.int .u32 0,.slice none 0 0] 46)
 simp(disch:=first|assumption|omega|(simp only[LN]<;>omega)|(simp(disch:=first|assumption|omega|(simp only[LN]<;>omega))only[row_alloc,row_set];assumption))only[f23,W_block,P3,seval,initFr,clsA,fillI0]
 exact hq2 _ _ ⟨_,res_ct (p:=H.n) (AHeap.get_alloc_new H _) rfl rfl rfl,rfl,k⟩
theorem n17{H:AHeap}:∃w K,ARun Tryz.prog 0 17 [.pointer none] H w K∧w=.int .i64 1∧Keeps H K:=by
 refine walk2 f17_ok f17_n ?_
 intro Q hq1 hq2
 simp(disch:=first|assumption|omega)only[f17,W_block,P3,seval,initFr,clsA]
 exact hq2 _ _ ⟨.int .i64 1,rfl,rfl,Keeps.refl H⟩
theorem n14{H:AHeap}(v:Value):∃w K,ARun Tryz.prog 0 14 [.pointer none,v] H w K∧w=.int .i64 1∧Keeps H K:=by
 refine walk2 f14_ok f14_n ?_
 intro Q hq1 hq2
 simp(disch:=first|assumption|omega)only[f14,W_block,P3,seval,initFr,clsA]
 exact hq2 _ _ ⟨.int .i64 1,rfl,rfl,Keeps.refl H⟩
theorem n11{H:AHeap}(s:Sta)(ep cy:Int):∃w K,ARun Tryz.prog 0 11 [.pointer none,.agg (stl s).toArray,.int .i64 ep,.int .i64 cy] H w K∧w=.int .i64 1∧Keeps H K:=by
 refine walk2 f11_ok f11_n ?_
 intro Q hq1 hq2
 have k:=(Keeps.refl H).alloc (.cells true false 68 (stl s) 43)
 simp(disch:=first|assumption|omega)only[f11,W_block,P3,seval,initFr,clsA,stl_one,stl_len]
 exact hq2 _ _ ⟨.int .i64 1,rfl,rfl,k⟩
theorem n18{H:AHeap}:∃w K,ARun Tryz.prog 0 18 [.pointer none] H w K∧w=.agg (stl Sta0).toArray∧Keeps H K:=by
 refine walk2 f18_ok f18_n ?_
 intro Q hq1 hq2
 have k:=(Keeps.refl H).alloc (.cells true false 68 (stl Sta0) 43)
 simp(disch:=first|assumption|omega)only[f18,W_block,P3,seval,initFr,clsA,Z68N_z,stl_one,stl_len,stn68s,fill0]
 exact hq2 _ _ ⟨_,by show resO [.cn 68 1] _ _=_;rw[resC];show celln 68 (ptr H.n 0) _=_;rw[cellnp,rangeA_e,AHeap.get_alloc_new,rng68];rfl,rfl,k⟩
set_option maxHeartbeats 4000000 in
theorem t5{H:AHeap}(s:Sta){x:Inp}{z:Value}(hz:z.oneCell'=true):∃w K,ARun Tryz.prog 0 5 [.agg (stl s).toArray,.agg (inl x z).toArray] H w K∧w=.bool true∧Keeps H K:=by
 refine walk2 f5_ok f5_n ?_
 intro Q hq1 hq2
 have e:inl x z=[S64 x.oc,S32 x.nr,S32 x.rv,z]:=rfl
 obtain⟨K0,hK0⟩:∃X,X=(H.alloc (.cells true false 68 (stl s) 43)).alloc (.cells true false 4 [S64 x.oc,S32 x.nr,S32 x.rv,z] 46):=⟨_,rfl⟩
 have k0:Keeps H K0:=by rw[hK0];exact((Keeps.refl H).alloc _).alloc _
 have gs0:K0.get H.n=some (.cells true false 68 (stl s) 43):=by rw[hK0];exact((Keeps.refl _).alloc _).at_ (AHeap.get_alloc_new H _)
 have gi0:K0.get (H.n+1)=some (.cells true false 4 [S64 x.oc,S32 x.nr,S32 x.rv,z] 46):=by rw[hK0];exact AHeap.get_alloc_new (H.alloc _) _
 have tB:=fun K=>n13 (H:=K) 1 (x:=x) hz
 rw[e]at tB ⊢
 simp(disch:=first|assumption|omega|(simp only[LN]<;>omega)|(simp(disch:=first|assumption|omega|(simp only[LN]<;>omega))only[row_alloc,row_set];assumption))only[f5,W_block,P3,seval,initFr,clsA,hz,o_s64,o_s32,one_s64,one_s32,stl_one,stl_len,rng68]
 rw[←hK0]
 refine callK (n26 s) ?_
 rintro _ K1 ⟨rfl,k1⟩
 have gi1:=k1.at_ gi0
 simp(disch:=first|assumption|omega|(simp only[LN]<;>omega)|(simp(disch:=first|assumption|omega|(simp only[LN]<;>omega))only[row_alloc,row_set];assumption))only[W_block,P3,seval,initFr,clsA,gi1]
 refine callK (tB _) ?_
 rintro _ K2 ⟨rfl,k2⟩
 simp(disch:=first|assumption|omega|(simp only[LN]<;>omega)|(simp(disch:=first|assumption|omega|(simp only[LN]<;>omega))only[row_alloc,row_set];assumption))only[W_block,P3,seval,initFr,clsA]
 refine callK n15 ?_
 rintro _ K3 ⟨rfl,k3⟩
 simp(disch:=first|assumption|omega|(simp only[LN]<;>omega)|(simp(disch:=first|assumption|omega|(simp only[LN]<;>omega))only[row_alloc,row_set];assumption))only[W_block,P3,seval,initFr,clsA,Z68N_z,stl_one,stl_len,stn68s]
 refine callK n23 ?_
 rintro _ K4 ⟨rfl,k4⟩
 have gr:=k4.at_ ((((Keeps.refl K3).alloc (.cells true false 68 (stl Sta0) 43)).alloc (.cells true false 4 [.int .i64 0,.int .i64 0,.int .u64 0,.int .u32 0] 56)).at_ (k3.at_ (AHeap.get_alloc_new K2 (.cells true false 6 [.int .i64 0,.int .i64 0,.int .u64 0,.int .u32 0,.int .u32 0,.slice none 0 0] 49))))
 have gs3:=k4.at_ (((Keeps.refl (K3.alloc (.cells true false 68 (stl Sta0) 43))).alloc (.cells true false 4 [.int .i64 0,.int .i64 0,.int .u64 0,.int .u32 0] 56)).at_ (AHeap.get_alloc_new K3 (.cells true false 68 (stl Sta0) 43)))
 have gf3:=k4.at_ (AHeap.get_alloc_new (K3.alloc (.cells true false 68 (stl Sta0) 43)) (.cells true false 4 [.int .i64 0,.int .i64 0,.int .u64 0,.int .u32 0] 56))
 rw[show(K3.alloc (.cells true false 68 (stl Sta0) 43)).n=K3.n+1 from rfl]at gf3
 have kk3:Keeps H K3:=(((k0.trans k1).trans k2).trans ((Keeps.refl K2).alloc (.cells true false 6 [.int .i64 0,.int .i64 0,.int .u64 0,.int .u32 0,.int .u32 0,.slice none 0 0] 49))).trans k3
 have kk4:Keeps K0 K4:=((((k1.trans k2).trans ((Keeps.refl K2).alloc _)).trans k3).trans (((Keeps.refl K3).alloc _).alloc _)).trans k4
 have gs4:=kk4.at_ gs0
 obtain⟨K5,hK5⟩:∃X,X=K4.alloc (.cells true false 4 [.int .u64 0,.int .u32 0,.int .u32 0,.slice none 0 0] 46):=⟨_,rfl⟩
 have k5:Keeps K4 K5:=by rw[hK5];exact(Keeps.refl _).alloc _
 have gi5:K5.get K4.n=some (.cells true false 4 [.int .u64 0,.int .u32 0,.int .u32 0,.slice none 0 0] 46):=by rw[hK5];exact AHeap.get_alloc_new K4 _
 have l1:=AHeap.get_lt gr
 have l2:=AHeap.get_lt gs3
 have l3:=AHeap.get_lt gf3
 have eqs:∀K,asem (.eqs O68N false (.agg (stl Sta0).toArray) (.agg (stl Sta0).toArray)) K=some (.bool true,K):=fun K=>(eq_stl K false Sta0 Sta0).trans (by rw[staB_rfl];rfl)
 have eqf:∀K,asem (.eqs [1,1,1,1] false (.agg #[.int .i64 0,.int .i64 0,.int .u64 0,.int .u32 0]) (.agg #[.int .i64 0,.int .i64 0,.int .u64 0,.int .u32 0])) K=some (.bool true,K):=fun K=>by simp[asem,eqCs,eqC]
 simp(disch:=first|assumption|omega|(simp only[LN]<;>omega)|(simp(disch:=first|assumption|omega|(simp only[LN]<;>omega))only[row_alloc,row_set];assumption))only[W_block,P3,seval,initFr,clsA,Z68N_z,stl_one,stl_len,stn68s,gr,gs3,gf3,rng68,eqs,eqf,fillF0,fill0]
 rw[←hK5]
 refine callK n17 ?_
 rintro _ K6 ⟨rfl,k6⟩
 have gr6:=(k5.trans k6).at_ gr
 simp(disch:=first|assumption|omega|(simp only[LN]<;>omega)|(simp(disch:=first|assumption|omega|(simp only[LN]<;>omega))only[row_alloc,row_set];assumption))only[W_block,P3,seval,initFr,clsA,gr6]
 refine callK (n14 _) ?_
 rintro _ K7 ⟨rfl,k7⟩
 have gs7:=((k5.trans k6).trans k7).at_ gs4
 simp(disch:=first|assumption|omega)only[W_block,P3,seval,initFr,clsA,gs7,rng68]
 refine callK (n11 s 0 0) ?_
 rintro _ K8 ⟨rfl,k8⟩
 simp(disch:=first|assumption|omega)only[W_block,P3,seval,initFr,clsA]
 refine callK n18 ?_
 rintro _ K9 ⟨rfl,k9⟩
 have gi9:=(((k6.trans k7).trans k8).trans k9).at_ gi5
 simp(disch:=first|assumption|omega)only[W_block,P3,seval,initFr,clsA,Z68N_z,eqs,gi9,fill0]
 refine callQ (t8 _) ?_
 simp(disch:=first|assumption|omega)only[W_block,P3,seval,initFr,clsA]
 exact hq2 _ _ ⟨.bool true,rfl,rfl,k0.trans (kk4.trans (((((k5.trans k6).trans k7).trans k8).trans k9)))⟩
theorem lawCNone:∀H args,NoOwn H→AVs Tryz.prog H.get [43,46] args→∃H',ARun Tryz.prog 0 5 args H (.bool true) H':=by
 intro H args _ h
 match args,h with
 |[z,y],⟨h1,h2,_⟩=>
  obtain⟨s,rfl⟩:=av_state h1
  obtain⟨x,cv,cs,rfl,hc,hcl,hkd⟩:=av_inp2 h2
  obtain⟨_,K,a,rfl,_⟩:=t5 s (Sl.one hc.s)
  exact⟨K,a⟩
end Go.AM.Fd
