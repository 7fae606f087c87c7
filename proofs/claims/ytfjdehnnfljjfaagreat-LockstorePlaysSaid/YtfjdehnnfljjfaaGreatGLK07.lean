/- Part of the proof. -/
import Derived.Test.YtfjdehnnfljjfaaGreatGLK06
set_option linter.unusedSimpArgs false
set_option linter.unusedVariables false
set_option linter.unusedSimpArgs false
set_option linter.unusedVariables false
namespace Go.AM.Fd
open Nat (reduceAdd reduceEqDiff reduceLT reduceLeDiff reduceMul reduceSub)
open Go.Proofs Go.AM.F
section
variable {H K:AHeap} {b sb e:Nat} {vb:Value} {D:Dk} {lo:Option (Lg×Option Lo)} {w0:Nat} {p5 p7:Value} {er n:Int} {v:Value} {l:List CK}
theorem lockLoop{Q:AQ}{x9 x10 x11 x12 x13 x14 x15 x16 x17 x18 x19 x20:Value}(h:S4 H K b sb e vb D lo w0 p5 p7 er)(hb:Bnd5 D lo w0 1)(hc:CkL H v l)(hl:l.length≤60)
 (hq2:∀fr H2,(∃w,resO f7.res fr H2=some w∧w=.bool true)→Q .ret fr H2):
 W Go.Proofs.Tryz.prog 0 (cpost 5 f7.body) Q [.int .i64 n,v,.bool false,ptr b 0,ptr e 0,p5,.int .i64 er,p7,.int .i64 er,x9,x10,x11,x12,x13,x14,x15,x16,x17,x18,x19,x20] K:=by
 have isv:=Sl.is hc.s
 have lv:lenS v=l.length:=by have:=Sl.len hc.s;simpa using this
 simp(disch:=first|assumption|omega|(simp only[LN]<;>omega)|(simp(disch:=first|assumption|omega|(simp only[LN]<;>omega))only[row_alloc,row_set];assumption))only[f7,P3,↓reduceIte,reduceAdd,reduceEqDiff,reduceCtorEq,initFr,reduceLT,clsA,reduceLeDiff,reduceMul,reduceSub,reduceIte,cpost]
 rw[W_block]
 refine W_loop2 (fun q fr K=>∃i D lo w0 p5 p7 er,∃y10 y11 y12 y13 y14 y15 y16 y17 y18 y19 y20,fr=[.int .i64 n,v,.bool false,ptr b 0,ptr e 0,p5,.int .i64 er,p7,.int .i64 er,.int .i64 ((i:Nat):Int),y10,y11,y12,y13,y14,y15,y16,y17,y18,y19,y20]∧S4 H K b sb e vb D lo w0 p5 p7 er∧Bnd5 D lo w0 (i+1)∧i≤l.length∧q=l.length-i) l.length
  ⟨0,D,lo,w0,p5,p7,er,_,_,_,_,_,_,_,_,_,_,_,rfl,h,hb,by omega,rfl⟩ ?_
 clear h hb
 rintro Q2 q fr K1 ⟨i,D,lo,w0,p5,p7,er,y10,y11,y12,y13,y14,y15,y16,y17,y18,y19,y20,rfl,h,hb,hi,rfl⟩ hnx hx hret
 by_cases hlt:i<l.length
 ·have e1:(i:Int)<((l.length:Nat):Int):=by omega
  have e0:(0:Int)≤(i:Int):=by omega
  have hw:IntKind.i64.wrap ((i:Int)+1)=((i+1:Nat):Int):=by rw[wrap_i64 (by omega) (by omega)];simp
  obtain⟨nn,ra0⟩:=hc.at_ hlt
  have mem:=List.getElem_mem hlt
  have oc0:=hc.c _ mem
  obtain⟨v0,ab0,vo0,in0,d⟩:=h.d2
  have oc:=oc0.keeps d.kp
  have ra:rowA K1 72 v i=some (ckRow l[i]):=((hc.keeps d.kp).at_ hlt).2
  obtain⟨P,eP⟩:∃P,l[i]=P:=⟨_,rfl⟩
  rw[eP]at ra oc oc0
  have hrem:binA .rem (.int .u8 (P.k:Nat)) (.int .u8 8)=some (.int .u8 ((P.k % 8:Nat):Int)):=b_remn (kd:=.u8) (n:=P.k) (m:=8) (by omega)
  have of_:=one_isS oc.f.isS
  have lrow:=ckRow_len oc.x
  have oo:(ckRow P).all Value.oneCell'=true:=by simp only[ckRow,List.all_cons,List.all_append,cSt_one,of_];rfl
  have lz:Z72N.length=72:=rfl
  have ozz:Z72N.all Value.oneCell'=true:=rfl
  obtain⟨K2,hK2⟩:∃Y,Y=K1.alloc (.cells true false 72 (ckRow P) 91):=⟨_,rfl⟩
  have k2:Keeps K1 K2:=by rw[hK2];exact(Keeps.refl K1).alloc _
  have g2:K2.get K1.n=some (.cells true false 72 (ckRow P) 91):=by rw[hK2];exact AHeap.get_alloc_new K1 _
  have ckf:=ckRow_f oc.x
  have cke:=ckRow_e oc.x
  have ckc:=ckRow_c oc.x
  have cks:=ckRow_s oc.x
  simp(disch:=first|assumption|omega|(simp only[LN]<;>omega)|(simp(disch:=first|assumption|omega|(simp only[LN]<;>omega))only[row_alloc,row_set];assumption))only[P3,↓reduceIte,reduceAdd,reduceEqDiff,reduceCtorEq,initFr,reduceLT,clsA,reduceLeDiff,reduceMul,reduceSub,reduceIte,isv,lv]
  rw[W_block]
  refine W_part 2 (fun fr K3=>∃z12 z13,fr=[.int .i64 n,v,.bool false,ptr b 0,ptr e 0,p5,.int .i64 er,p7,.int .i64 er,.int .i64 ((i:Nat):Int),ptr K1.n 0,y11,z12,z13,y14,y15,y16,y17,y18,y19,y20]∧Keeps K2 K3) (by kernel_rfl) ?_ ?_
  ·intro Q3 hk3 hex3 hret3
   have d0:(er != er)=false:=bnei_no rfl
   have d2:=d.keeps k2
   simp(disch:=first|assumption|omega|(simp only[LN]<;>omega)|(simp(disch:=first|assumption|omega|(simp only[LN]<;>omega))only[row_alloc,row_set];assumption))only[cpre,P3,↓reduceIte,reduceAdd,reduceEqDiff,reduceCtorEq,initFr,reduceLT,clsA,reduceLeDiff,reduceMul,reduceSub,reduceIte,isv,lv,nn,ra,oo,lz,ozz,lrow,d0]
   rw[←hK2]
   refine callK (t55 d2.dk d2.ek) ?_
   rintro _ K3 ⟨rfl,k3⟩
   have h3:=h.keeps (k2.trans k3)
   have g3:=k3.at_ g2
   match lo,h3 with
   |none,h3=>
    obtain⟨q1,rfl,rfl,_⟩:=id h3
    have d1:(er==0)=false:=beqi_no q1
    simp(disch:=first|assumption|omega|(simp only[LN]<;>omega)|(simp(disch:=first|assumption|omega|(simp only[LN]<;>omega))only[row_alloc,row_set];assumption))only[W_block,P3,↓reduceIte,reduceAdd,reduceEqDiff,reduceCtorEq,initFr,reduceLT,clsA,reduceLeDiff,reduceMul,reduceSub,reduceIte,d1]
    exact hk3 _ _ ⟨_,_,rfl,k3⟩
   |some (L,o),h3=>
    obtain⟨rfl,s,c,lb,t,d',le,va,ab,rv,items,vo,inn,vl,rfl,rfl,tt⟩:=id h3
    have r0:ckRow_0 P=ckRow_0 P:=rfl
    simp(disch:=first|assumption|omega|(simp only[LN]<;>omega)|(simp(disch:=first|assumption|omega|(simp only[LN]<;>omega))only[row_alloc,row_set];assumption))only[W_block,P3,↓reduceIte,reduceAdd,reduceEqDiff,reduceCtorEq,initFr,reduceLT,clsA,reduceLeDiff,reduceMul,reduceSub,reduceIte,g3,cks,lrow]
    refine callK (t56 tt.lk.gs (tt.mk_ tt.u.sep).gs tt.r P.x oc.x) ?_
    rintro _ K4 ⟨rfl,k4⟩
    simp(disch:=first|assumption|omega|(simp only[LN]<;>omega)|(simp(disch:=first|assumption|omega|(simp only[LN]<;>omega))only[row_alloc,row_set];assumption))only[W_block,P3,↓reduceIte,reduceAdd,reduceEqDiff,reduceCtorEq,initFr,reduceLT,clsA,reduceLeDiff,reduceMul,reduceSub,reduceIte]
    exact hk3 _ _ ⟨_,_,rfl,k3.trans k4⟩
  ·rintro fr K3 ⟨z12,z13,rfl,k3⟩
   have kk:=k2.trans k3
   have h3:=h.keeps kk
   have oc3:=oc.keeps (k2.trans k3)
   have g3:=k3.at_ g2
   have n3:K2.n=K1.n+1:=by rw[hK2];rfl
   have m3:=k3.n
   simp(disch:=first|assumption|omega|(simp only[LN]<;>omega)|(simp(disch:=first|assumption|omega|(simp only[LN]<;>omega))only[row_alloc,row_set];assumption))only[cpost,P3,↓reduceIte,reduceAdd,reduceEqDiff,reduceCtorEq,initFr,reduceLT,clsA,reduceLeDiff,reduceMul,reduceSub,reduceIte,g3,ckRow_0,lrow,hrem]
   have hbs:=hb.s
   have hbo:=hb.o
   have hr8:binA .rem (.int .i64 P.c) (.int .i64 8)=some (.int .i64 (P.c.tmod 8)):=b_rem _ _ _ (by decide)
   have hn8:P.c.tmod 8≤9223372036854775807:=by have:=Int.tmod_lt_of_pos P.c (show(0:Int)<8 by omega);omega
   by_cases c5:P.k % 8=5
   ·have d5:(((P.k % 8:Nat):Int)==5)=true:=beqi_yes (by omega)
    simp(disch:=first|assumption|omega|(simp only[LN]<;>omega)|(simp(disch:=first|assumption|omega|(simp only[LN]<;>omega))only[row_alloc,row_set];assumption))only[W_block,P3,↓reduceIte,reduceAdd,reduceEqDiff,reduceCtorEq,initFr,reduceLT,clsA,reduceLeDiff,reduceMul,reduceSub,reduceIte,d5,g3,hr8,ckc,lrow]
    match lo,h,hb with
    |none,h,hb=>
     obtain⟨q1,rfl,rfl,va,ab,vo,inn,d2⟩:=id h
     have d3:=d2.keeps kk
     have nfp:∀z∈fp (dkT b sb va ab D),z<K1.n:=fun z hz=>d2.u.sep.lt (by rw[fp_app];exact List.mem_append_left _ hz)
     refine callK (t17 d3.dk (P.c.tmod 8)) ?_
     rintro w1 Z1 ⟨ab',u1⟩
     have U1:=d3.u.trans (u1.ext d3.u.sep)
     have g4:=u1.chg.at_ g3 (fun hz=>by have:=nfp _ hz;omega)
     simp(disch:=first|assumption|omega|(simp only[LN]<;>omega)|(simp(disch:=first|assumption|omega|(simp only[LN]<;>omega))only[row_alloc,row_set];assumption))only[W_block,P3,↓reduceIte,reduceAdd,reduceEqDiff,reduceCtorEq,initFr,reduceLT,clsA,reduceLeDiff,reduceMul,reduceSub,reduceIte,g4,hr8,ckc,lrow]
     refine callK (t18 ⟨U1.sep.right,d3.ok,d3.i⟩ (P.c.tmod 8) hn8) ?_
     rintro w2 Z2 ⟨inn',e2,u2⟩
     have U2:=U1.trans (u2.extR U1.sep)
     simp(disch:=first|assumption|omega|(simp only[LN]<;>omega)|(simp(disch:=first|assumption|omega|(simp only[LN]<;>omega))only[row_alloc,row_set];assumption))only[W_block,P3,↓reduceIte,reduceAdd,reduceEqDiff,reduceCtorEq,initFr,reduceLT,clsA,reduceLeDiff,reduceMul,reduceSub,reduceIte]
     rw[hw]
     exact hnx _ _ _ ⟨i+1,failD D (P.c.tmod 8),none,w0,_,_,er,_,_,_,_,_,_,_,_,_,_,_,rfl,⟨q1,rfl,rfl,va,ab',vo,inn',U2,e2.ok,e2.i⟩,failD_b5 hb _,by omega,rfl⟩ (by omega)
    |some (L,o),h,hb=>
     obtain⟨rfl,s,c,lb,t,d',le,va,ab,rv,items,vo,inn,vl,rfl,rfl,tt⟩:=id h
     have t3:=tt.keeps kk
     have nfp:∀z∈fp (dkT b sb va ab D),z<K1.n:=fun z hz=>tt.lk.ck.lg.d.s.lt hz
     refine callK (t17 t3.lk.ck.lg.d (P.c.tmod 8)) ?_
     rintro w1 Z1 ⟨ab',u1⟩
     have U1:=t3.u.trans ((u1.extR (A:=thB s (lsC c o w0)::thB c (ckC lb)::lgT lb b rv items L) t3.u.sep.left).ext t3.u.sep)
     have g4:=u1.chg.at_ g3 (fun hz=>by have:=nfp _ hz;omega)
     simp(disch:=first|assumption|omega|(simp only[LN]<;>omega)|(simp(disch:=first|assumption|omega|(simp only[LN]<;>omega))only[row_alloc,row_set];assumption))only[W_block,P3,↓reduceIte,reduceAdd,reduceEqDiff,reduceCtorEq,initFr,reduceLT,clsA,reduceLeDiff,reduceMul,reduceSub,reduceIte,g4,hr8,ckc,lrow]
     have hE:Sep Z1 ((thB t (rsC d' o w0)::thB d' (rkC le)::rlT le e vl L)++ekT e vb vo inn D):=U1.sep.right
     refine callK (t18 ⟨hE.right,t3.ok,t3.i⟩ (P.c.tmod 8) hn8) ?_
     rintro w2 Z2 ⟨inn',e2,u2⟩
     have U2:=U1.trans ((u2.extR hE).extR U1.sep)
     simp(disch:=first|assumption|omega|(simp only[LN]<;>omega)|(simp(disch:=first|assumption|omega|(simp only[LN]<;>omega))only[row_alloc,row_set];assumption))only[W_block,P3,↓reduceIte,reduceAdd,reduceEqDiff,reduceCtorEq,initFr,reduceLT,clsA,reduceLeDiff,reduceMul,reduceSub,reduceIte]
     rw[hw]
     exact hnx _ _ _ ⟨i+1,failD D (P.c.tmod 8),some (L,o),w0,_,_,0,_,_,_,_,_,_,_,_,_,_,_,rfl,⟨rfl,s,c,lb,t,d',le,va,ab',rv,items,vo,inn',vl,rfl,rfl,U2,e2.ok,t3.n3,t3.it,t3.lok,e2.i,t3.r,t3.hw⟩,failD_b5 hb _,by omega,rfl⟩ (by omega)
   have d5:(((P.k % 8:Nat):Int)==5)=false:=beqi_no (by omega)
   by_cases c6:P.k % 8=6
   ·have d6:(((P.k % 8:Nat):Int)==6)=true:=beqi_yes (by omega)
    obtain⟨va,ab,vo,inn,d2⟩:=h.d2
    have d3:=d2.keeps kk
    have nf1:∀z∈fp (dkT b sb va ab D),z<K1.n:=fun z hz=>d2.u.sep.lt (by rw[fp_app];exact List.mem_append_left _ hz)
    have nf2:∀z∈fp (ekT e vb vo inn D),z<K1.n:=fun z hz=>d2.u.sep.lt (by rw[fp_app];exact List.mem_append_right _ hz)
    simp(disch:=first|assumption|omega|(simp only[LN]<;>omega)|(simp(disch:=first|assumption|omega|(simp only[LN]<;>omega))only[row_alloc,row_set];assumption))only[W_block,P3,↓reduceIte,reduceAdd,reduceEqDiff,reduceCtorEq,initFr,reduceLT,clsA,reduceLeDiff,reduceMul,reduceSub,reduceIte,d5,d6,g3,hrem,ckRow_0,lrow]
    refine callK (t19 d3.dk) ?_
    rintro w1 Z1 u1
    have U1:=d3.u.trans (u1.ext d3.u.sep)
    have g4:=u1.chg.at_ g3 (fun hz=>by have:=nf1 _ hz;omega)
    simp(disch:=first|assumption|omega|(simp only[LN]<;>omega)|(simp(disch:=first|assumption|omega|(simp only[LN]<;>omega))only[row_alloc,row_set];assumption))only[W_block,P3,↓reduceIte,reduceAdd,reduceEqDiff,reduceCtorEq,initFr,reduceLT,clsA,reduceLeDiff,reduceMul,reduceSub,reduceIte]
    refine callK (t20 ⟨U1.sep.right,d3.ok,d3.i⟩) ?_
    rintro w2 Z2 ⟨e2,u2⟩
    have U2:=U1.trans (u2.extR U1.sep)
    have g5:=u2.chg.at_ g4 (fun hz=>by have:=nf2 _ hz;omega)
    have d4:D2 H Z2 b sb va none e vb vo inn (crashD D):=⟨U2,e2.ok,e2.i⟩
    simp(disch:=first|assumption|omega|(simp only[LN]<;>omega)|(simp(disch:=first|assumption|omega|(simp only[LN]<;>omega))only[row_alloc,row_set];assumption))only[W_block,P3,↓reduceIte,reduceAdd,reduceEqDiff,reduceCtorEq,initFr,reduceLT,clsA,reduceLeDiff,reduceMul,reduceSub,reduceIte,g5,ckf,lrow]
    refine callK (t21 d4.dk (oc0.f.keeps d4.kp) (fun y hy hy2=>by have:=d4.far (by rw[fp_app];exact List.mem_append_left _ hy2);have:=oc0.fl y hy;omega)) ?_
    rintro w3 Z3 ⟨v6,u3⟩
    have U3:=d4.u.trans (u3.ext d4.u.sep)
    have kH3:Keeps H Z3:=⟨U3.chg.n,fun y hy=>U3.chg.get y hy (by simp[fp])⟩
    have g6:=u3.chg.at_ g5 (fun hz=>by have:=Upd.new u1 (fun h=>by have:=nf1 _ h;omega) (by omega) hz;exact this)
    simp(disch:=first|assumption|omega|(simp only[LN]<;>omega)|(simp(disch:=first|assumption|omega|(simp only[LN]<;>omega))only[row_alloc,row_set];assumption))only[W_block,P3,↓reduceIte,reduceAdd,reduceEqDiff,reduceCtorEq,initFr,reduceLT,clsA,reduceLeDiff,reduceMul,reduceSub,reduceIte,g6,ckf,lrow]
    refine callK (t22 ⟨U3.sep.right,e2.ok,e2.i⟩ (oc0.f.keeps kH3) (fun y hy hy2=>by have:=d4.far (by rw[fp_app];exact List.mem_append_right _ hy2);have:=oc0.fl y hy;omega)) ?_
    rintro w4 Z4 ⟨vo7,e4,u4⟩
    have U4:=U3.trans (u4.extR U3.sep)
    have d7:D2 H Z4 b sb v6 none e vb vo7 inn (onD (crashD D) P.fs):=⟨U4,e4.ok,e4.i⟩
    have hob:=onD_b D P.fs
    have bn:(onD (crashD D) P.fs).st<999999∧(onD (crashD D) P.fs).op.length<999999:=⟨by omega,by omega⟩
    simp(disch:=first|assumption|omega|(simp only[LN]<;>omega)|(simp(disch:=first|assumption|omega|(simp only[LN]<;>omega))only[row_alloc,row_set];assumption))only[W_block,P3,↓reduceIte,reduceAdd,reduceEqDiff,reduceCtorEq,initFr,reduceLT,clsA,reduceLeDiff,reduceMul,reduceSub,reduceIte]
    refine callK (t53 d7.dk (by have:=bn.1;omega) (by have:=bn.2;omega)) ?_
    rintro w1 Z1 ho
    obtain⟨p,rfl,ek1,kz1,fin⟩:=S4.open1 d7 ho
    simp(disch:=first|assumption|omega|(simp only[LN]<;>omega)|(simp(disch:=first|assumption|omega|(simp only[LN]<;>omega))only[row_alloc,row_set];assumption))only[P3,↓reduceIte,reduceAdd,reduceEqDiff,reduceCtorEq,initFr,reduceLT,clsA,reduceLeDiff,reduceMul,reduceSub,reduceIte]
    refine callK (t54 ek1 (by have:=bn.1;omega) (by have:=bn.2;omega)) ?_
    rintro w2 Z2 ho2
    obtain⟨p2,rfl,sw2⟩:=fin ho2
    simp(disch:=first|assumption|omega|(simp only[LN]<;>omega)|(simp(disch:=first|assumption|omega|(simp only[LN]<;>omega))only[row_alloc,row_set];assumption))only[W_block,P3,↓reduceIte,reduceAdd,reduceEqDiff,reduceCtorEq,initFr,reduceLT,clsA,reduceLeDiff,reduceMul,reduceSub,reduceIte]
    rw[hw]
    exact hnx _ _ _ ⟨i+1,_,_,_,_,_,_,_,_,_,_,_,_,_,_,_,_,_,rfl,sw2,openL_b5 e4.ok (by omega) (by omega) bn.1 bn.2,by omega,rfl⟩ (by omega)
   have d6:(((P.k % 8:Nat):Int)==6)=false:=beqi_no (by omega)
   by_cases c7:P.k % 8=7
   ·have d7:(((P.k % 8:Nat):Int)==7)=true:=beqi_yes (by omega)
    obtain⟨va,ab,vo,inn,d2⟩:=h.d2
    have d3:=d2.keeps kk
    have bn:D.st<999999∧D.op.length<999999:=⟨by omega,by omega⟩
    simp(disch:=first|assumption|omega|(simp only[LN]<;>omega)|(simp(disch:=first|assumption|omega|(simp only[LN]<;>omega))only[row_alloc,row_set];assumption))only[W_block,P3,↓reduceIte,reduceAdd,reduceEqDiff,reduceCtorEq,initFr,reduceLT,clsA,reduceLeDiff,reduceMul,reduceSub,reduceIte,d5,d6,d7,g3,hrem,ckRow_0,lrow]
    refine callK (t53 d3.dk (by have:=bn.1;omega) (by have:=bn.2;omega)) ?_
    rintro w1 Z1 ho
    obtain⟨p,rfl,ek1,kz1,fin⟩:=S4.open1 d3 ho
    simp(disch:=first|assumption|omega|(simp only[LN]<;>omega)|(simp(disch:=first|assumption|omega|(simp only[LN]<;>omega))only[row_alloc,row_set];assumption))only[P3,↓reduceIte,reduceAdd,reduceEqDiff,reduceCtorEq,initFr,reduceLT,clsA,reduceLeDiff,reduceMul,reduceSub,reduceIte]
    refine callK (t54 ek1 (by have:=bn.1;omega) (by have:=bn.2;omega)) ?_
    rintro w2 Z2 ho2
    obtain⟨p2,rfl,sw2⟩:=fin ho2
    simp(disch:=first|assumption|omega|(simp only[LN]<;>omega)|(simp(disch:=first|assumption|omega|(simp only[LN]<;>omega))only[row_alloc,row_set];assumption))only[W_block,P3,↓reduceIte,reduceAdd,reduceEqDiff,reduceCtorEq,initFr,reduceLT,clsA,reduceLeDiff,reduceMul,reduceSub,reduceIte]
    rw[hw]
    exact hnx _ _ _ ⟨i+1,_,_,_,_,_,_,_,_,_,_,_,_,_,_,_,_,_,rfl,sw2,openL_b5 d3.ok (by omega) (by omega) bn.1 bn.2,by omega,rfl⟩ (by omega)
   have d7:(((P.k % 8:Nat):Int)==7)=false:=beqi_no (by omega)
   match lo,h,hb with
   |none,h,hb=>
    obtain⟨q1,rfl,rfl,va,ab,vo,inn,d2⟩:=id h
    have e9:(er==0)=false:=beqi_no q1
    have d3:=d2.keeps kk
    by_cases c4:P.k % 8=4
    ·have d4:(((P.k % 8:Nat):Int)==4)=true:=beqi_yes (by omega)
     simp(disch:=first|assumption|omega|(simp only[LN]<;>omega)|(simp(disch:=first|assumption|omega|(simp only[LN]<;>omega))only[row_alloc,row_set];assumption))only[W_block,P3,↓reduceIte,reduceAdd,reduceEqDiff,reduceCtorEq,initFr,reduceLT,clsA,reduceLeDiff,reduceMul,reduceSub,reduceIte,d5,d6,d7,e9,d4]
     rw[hw]
     exact hnx _ _ _ ⟨i+1,D,none,w0,_,_,er,_,_,_,_,_,_,_,_,_,_,_,rfl,⟨q1,rfl,rfl,va,ab,vo,inn,d3⟩,hb.up,by omega,rfl⟩ (by omega)
    ·have d4:(((P.k % 8:Nat):Int)==4)=false:=beqi_no (by omega)
     simp(disch:=first|assumption|omega|(simp only[LN]<;>omega)|(simp(disch:=first|assumption|omega|(simp only[LN]<;>omega))only[row_alloc,row_set];assumption))only[W_block,P3,↓reduceIte,reduceAdd,reduceEqDiff,reduceCtorEq,initFr,reduceLT,clsA,reduceLeDiff,reduceMul,reduceSub,reduceIte,d5,d6,d7,e9,d4]
     rw[hw]
     exact hnx _ _ _ ⟨i+1,D,none,w0,_,_,er,_,_,_,_,_,_,_,_,_,_,_,rfl,⟨q1,rfl,rfl,va,ab,vo,inn,d3⟩,hb.up,by omega,rfl⟩ (by omega)
   |some (L,o),h,hb=>
    obtain⟨rfl,s,c,lb,t,d',le,va,ab,rv,items,vo,inn,vl,rfl,rfl,tt⟩:=id h
    obtain⟨b1,b2⟩:=hb.l (L,o) rfl
    simp only at b1 b2
    have hw0:=hb.w
    have t3:=tt.keeps kk
    have e9:((0:Int)==0)=true:=rfl
    have fp1:∀z∈fp (thB s (lsC c o w0)::cT c lb b sb va ab rv items D L),H.n≤z∧z<K1.n:=fun z hz=>tt.far (by rw[fp_app];exact List.mem_append_left _ hz)
    have fp2:∀z∈fp (thB t (rsC d' o w0)::kT d' le e vb vo inn vl D L),H.n≤z∧z<K1.n:=fun z hz=>tt.far (by rw[fp_app];exact List.mem_append_right _ hz)
    by_cases c4:P.k % 8=4
    ·have d4:(((P.k % 8:Nat):Int)==4)=true:=beqi_yes (by omega)
     simp(disch:=first|assumption|omega|(simp only[LN]<;>omega)|(simp(disch:=first|assumption|omega|(simp only[LN]<;>omega))only[row_alloc,row_set];assumption))only[W_block,P3,↓reduceIte,reduceAdd,reduceEqDiff,reduceCtorEq,initFr,reduceLT,clsA,reduceLeDiff,reduceMul,reduceSub,reduceIte,d5,d6,d7,e9,d4]
     refine callK (t3.lk.check (by omega) (by omega) (by omega) (by omega)) ?_
     rintro _ Z1 ⟨rfl,va1,ab1,rv1,it1,s1⟩
     have U1:=t3.u.trans (s1.u.ext t3.u.sep)
     have m1:=t3.mk_ U1.sep
     have gt0:=(t3.mk_ t3.u.sep).gs
     have gt1:=m1.gs
     unfold rsC at gt0 gt1
     have ltt:=AHeap.get_lt gt0
     simp(disch:=first|assumption|omega|(simp only[LN]<;>omega)|(simp(disch:=first|assumption|omega|(simp only[LN]<;>omega))only[row_alloc,row_set];assumption))only[W_block,P3,↓reduceIte,reduceAdd,reduceEqDiff,reduceCtorEq,initFr,reduceLT,clsA,reduceLeDiff,reduceMul,reduceSub,reduceIte,gt0,gt1,rsL_0,rsL_len t3.r]
     refine callK (m1.rk.check (by omega) (by omega) (by omega) (by omega)) ?_
     rintro _ Z2 ⟨rfl,vo2,in2,vl2,s2⟩
     have U2:=U1.trans ((s2.u.extR (A:=[thB t (rsC d' o w0)]) m1.u.sep).extR U1.sep)
     have d8:((checkW D L).2.2 != (checkW D L).2.2)=false:=bnei_no rfl
     simp(disch:=first|assumption|omega|(simp only[LN]<;>omega)|(simp(disch:=first|assumption|omega|(simp only[LN]<;>omega))only[row_alloc,row_set];assumption))only[W_block,P3,↓reduceIte,reduceAdd,reduceEqDiff,reduceCtorEq,initFr,reduceLT,clsA,reduceLeDiff,reduceMul,reduceSub,reduceIte,d8]
     rw[hw]
     exact hnx _ _ _ ⟨i+1,_,some ((checkW D L).2.1,o),w0,_,_,0,_,_,_,_,_,_,_,_,_,_,_,rfl,⟨rfl,s,c,lb,t,d',le,va1,ab1,rv1,it1,vo2,in2,vl2,rfl,rfl,U2,s1.ok,s1.n3,s1.it,s1.lok,s2.i,t3.r,t3.hw⟩,(checkW_bl hb.b4).b5 (by omega),by omega,rfl⟩ (by omega)
    ·have d4:(((P.k % 8:Nat):Int)==4)=false:=beqi_no (by omega)
     simp(disch:=first|assumption|omega|(simp only[LN]<;>omega)|(simp(disch:=first|assumption|omega|(simp only[LN]<;>omega))only[row_alloc,row_set];assumption))only[W_block,P3,↓reduceIte,reduceAdd,reduceEqDiff,reduceCtorEq,initFr,reduceLT,clsA,reduceLeDiff,reduceMul,reduceSub,reduceIte,d5,d6,d7,e9,d4,g3,cks,cke,ckc,lrow]
     refine callK (t3.lk.save (by omega) (by omega) (by omega) (by omega) (by omega) oc.x P.e P.c) ?_
     rintro _ Z1 ⟨rfl,va1,ab1,rv1,it1,s1⟩
     have U1:=t3.u.trans (s1.u.ext t3.u.sep)
     have m1:=t3.mk_ U1.sep
     have gx1:=s1.u.chg.at_ g3 (fun hz=>by have:=fp1 _ hz;omega)
     simp(disch:=first|assumption|omega|(simp only[LN]<;>omega)|(simp(disch:=first|assumption|omega|(simp only[LN]<;>omega))only[row_alloc,row_set];assumption))only[W_block,P3,↓reduceIte,reduceAdd,reduceEqDiff,reduceCtorEq,initFr,reduceLT,clsA,reduceLeDiff,reduceMul,reduceSub,reduceIte,gx1,g3,cks,cke,ckc,lrow]
     refine callK (m1.save (by omega) (by omega) (by omega) (by omega) (by omega) oc.x P.e P.c) ?_
     rintro _ Z2 ⟨rfl,vo2,in2,vl2,s2⟩
     have U2:=U1.trans (s2.u.extR U1.sep)
     have d8:((saveL D L o w0 P.x P.e P.c).2.2.2.2 != (saveL D L o w0 P.x P.e P.c).2.2.2.2)=false:=bnei_no rfl
     simp(disch:=first|assumption|omega|(simp only[LN]<;>omega)|(simp(disch:=first|assumption|omega|(simp only[LN]<;>omega))only[row_alloc,row_set];assumption))only[W_block,P3,↓reduceIte,reduceAdd,reduceEqDiff,reduceCtorEq,initFr,reduceLT,clsA,reduceLeDiff,reduceMul,reduceSub,reduceIte,d8]
     rw[hw]
     exact hnx _ _ _ ⟨i+1,_,some ((saveL D L o w0 P.x P.e P.c).2.1,(saveL D L o w0 P.x P.e P.c).2.2.1),_,_,_,0,_,_,_,_,_,_,_,_,_,_,_,rfl,⟨rfl,s,c,lb,t,d',le,va1,ab1,rv1,it1,vo2,in2,vl2,rfl,rfl,U2,s1.ok,s1.n3,s1.it,s1.lok,s2.i,s1.r,s1.hw⟩,saveL_b5 hb _ _ _,by omega,rfl⟩ (by omega)
 ·have e1:¬(i:Int)<((l.length:Nat):Int):=by omega
  simp(disch:=first|assumption|omega|(simp only[LN]<;>omega)|(simp(disch:=first|assumption|omega|(simp only[LN]<;>omega))only[row_alloc,row_set];assumption))only[W_block,P3,↓reduceIte,reduceAdd,reduceEqDiff,reduceCtorEq,initFr,reduceLT,clsA,reduceLeDiff,reduceMul,reduceSub,reduceIte,isv,lv]
  refine hx 0 _ _ (show W Go.Proofs.Tryz.prog 0 _ Q _ _ from ?_)
  obtain⟨v0,ab0,vo0,in0,d⟩:=h.d2
  have d0:(er==er)=true:=beqi_yes rfl
  simp(disch:=first|assumption|omega|(simp only[LN]<;>omega)|(simp(disch:=first|assumption|omega|(simp only[LN]<;>omega))only[row_alloc,row_set];assumption))only[W_block,P3,↓reduceIte,reduceAdd,reduceEqDiff,reduceCtorEq,initFr,reduceLT,clsA,reduceLeDiff,reduceMul,reduceSub,reduceIte,d0]
  refine callK (t55 d.dk d.ek) ?_
  rintro _ K2 ⟨rfl,k2⟩
  have h2:=h.keeps k2
  match lo,h2 with
  |none,h2=>
   obtain⟨q1,rfl,rfl,_⟩:=id h2
   have d1:(er != 0)=true:=bnei_yes q1
   simp(disch:=first|assumption|omega|(simp only[LN]<;>omega)|(simp(disch:=first|assumption|omega|(simp only[LN]<;>omega))only[row_alloc,row_set];assumption))only[W_block,P3,↓reduceIte,reduceAdd,reduceEqDiff,reduceCtorEq,initFr,reduceLT,clsA,reduceLeDiff,reduceMul,reduceSub,reduceIte,d1]
   refine callK (t52 K2) ?_
   rintro _ K3 rfl
   simp(disch:=first|assumption|omega|(simp only[LN]<;>omega)|(simp(disch:=first|assumption|omega|(simp only[LN]<;>omega))only[row_alloc,row_set];assumption))only[W_block,P3,↓reduceIte,reduceAdd,reduceEqDiff,reduceCtorEq,initFr,reduceLT,clsA,reduceLeDiff,reduceMul,reduceSub,reduceIte]
   exact hq2 _ _ ⟨_,rfl,rfl⟩
  |some (L,o),h2=>
   obtain⟨rfl,s,c,lb,t,d',le,va,ab,rv,items,vo,inn,vl,rfl,rfl,tt⟩:=id h2
   have z0:Z68N=cSt (x8 0):=rfl
   simp(disch:=first|assumption|omega|(simp only[LN]<;>omega)|(simp(disch:=first|assumption|omega|(simp only[LN]<;>omega))only[row_alloc,row_set];assumption))only[W_block,P3,↓reduceIte,reduceAdd,reduceEqDiff,reduceCtorEq,initFr,reduceLT,clsA,reduceLeDiff,reduceMul,reduceSub,reduceIte]
   rw[z0]
   refine callK (t56 tt.lk.gs (tt.mk_ tt.u.sep).gs tt.r (x8 0) (x8_rg (by omega))) ?_
   rintro _ K3 ⟨rfl,k3⟩
   simp(disch:=first|assumption|omega|(simp only[LN]<;>omega)|(simp(disch:=first|assumption|omega|(simp only[LN]<;>omega))only[row_alloc,row_set];assumption))only[W_block,P3,↓reduceIte,reduceAdd,reduceEqDiff,reduceCtorEq,initFr,reduceLT,clsA,reduceLeDiff,reduceMul,reduceSub,reduceIte]
   refine callK (t52 K3) ?_
   rintro _ K4 rfl
   simp(disch:=first|assumption|omega|(simp only[LN]<;>omega)|(simp(disch:=first|assumption|omega|(simp only[LN]<;>omega))only[row_alloc,row_set];assumption))only[W_block,P3,↓reduceIte,reduceAdd,reduceEqDiff,reduceCtorEq,initFr,reduceLT,clsA,reduceLeDiff,reduceMul,reduceSub,reduceIte]
   exact hq2 _ _ ⟨_,rfl,rfl⟩
end
end Go.AM.Fd

set_option linter.unusedSimpArgs false
set_option linter.unusedVariables false
namespace Go.AM.Fd
open Nat (reduceAdd reduceEqDiff reduceLT reduceLeDiff reduceMul reduceSub)
open Go.Proofs Go.AM.F
theorem t7{H:AHeap}{v:Value}{l:List CK}(hc:CkL H v l)(n:Int):∃w K,ARun Go.Proofs.Tryz.prog 0 7 [.int .i64 n,v] H w K∧w=.bool true:=by
 refine walk2 f7_ok f7_n ?_
 intro Q hq1 hq2
 refine W_part 5 (fun fr K=>∃b e p5 er p7 y9 y10 y11 y12 y13 y14 y15 y16 y17 y18 y19 y20 sb vb D lo w0,fr=[.int .i64 n,v,.bool false,ptr b 0,ptr e 0,p5,.int .i64 er,p7,.int .i64 er,y9,y10,y11,y12,y13,y14,y15,y16,y17,y18,y19,y20]∧S4 H K b sb e vb D lo w0 p5 p7 er∧Bnd5 D lo w0 1∧l.length≤60) (by kernel_rfl) ?_ ?_
 rotate_left
 ·rintro fr K ⟨b,e,p5,er,p7,y9,y10,y11,y12,y13,y14,y15,y16,y17,y18,y19,y20,sb,vb,D,lo,w0,rfl,sw,bnd,hl⟩
  exact lockLoop sw bnd hc hl hq2
 intro Q' hk hex hret
 replace hq2:=fun fr H2 h=>hret fr H2 (hq2 fr H2 h)
 simp(disch:=first|assumption|omega|(simp only[LN]<;>omega)|(simp(disch:=first|assumption|omega|(simp only[LN]<;>omega))only[row_alloc,row_set];assumption))only[f7,W_block,P3,↓reduceIte,reduceAdd,reduceEqDiff,reduceCtorEq,initFr,reduceLT,clsA,reduceLeDiff,reduceMul,reduceSub,reduceIte,cpre]
 refine callK (t51 hc) ?_
 rintro _ X ⟨⟨bb,rfl,hbb⟩,hX⟩
 rw[hX]
 cases bb with
 |false=>
  simp(disch:=first|assumption|omega|(simp only[LN]<;>omega)|(simp(disch:=first|assumption|omega|(simp only[LN]<;>omega))only[row_alloc,row_set];assumption))only[W_block,P3,↓reduceIte,reduceAdd,reduceEqDiff,reduceCtorEq,initFr,reduceLT,clsA,reduceLeDiff,reduceMul,reduceSub,reduceIte]
  refine callK (t52 H) ?_
  rintro _ K3 rfl
  simp(disch:=first|assumption|omega|(simp only[LN]<;>omega)|(simp(disch:=first|assumption|omega|(simp only[LN]<;>omega))only[row_alloc,row_set];assumption))only[W_block,P3,↓reduceIte,reduceAdd,reduceEqDiff,reduceCtorEq,initFr,reduceLT,clsA,reduceLeDiff,reduceMul,reduceSub,reduceIte]
  exact hq2 _ _ ⟨_,rfl,rfl⟩
 |true=>
  have hl:=hbb rfl
  by_cases hn:(30:Int)<n
  ·simp(disch:=first|assumption|omega|(simp only[LN]<;>omega)|(simp(disch:=first|assumption|omega|(simp only[LN]<;>omega))only[row_alloc,row_set];assumption))only[W_block,P3,↓reduceIte,reduceAdd,reduceEqDiff,reduceCtorEq,initFr,reduceLT,clsA,reduceLeDiff,reduceMul,reduceSub,reduceIte]
   refine callK (t52 H) ?_
   rintro _ K3 rfl
   simp(disch:=first|assumption|omega|(simp only[LN]<;>omega)|(simp(disch:=first|assumption|omega|(simp only[LN]<;>omega))only[row_alloc,row_set];assumption))only[W_block,P3,↓reduceIte,reduceAdd,reduceEqDiff,reduceCtorEq,initFr,reduceLT,clsA,reduceLeDiff,reduceMul,reduceSub,reduceIte]
   exact hq2 _ _ ⟨_,rfl,rfl⟩
  ·simp(disch:=first|assumption|omega|(simp only[LN]<;>omega)|(simp(disch:=first|assumption|omega|(simp only[LN]<;>omega))only[row_alloc,row_set];assumption))only[W_block,P3,↓reduceIte,reduceAdd,reduceEqDiff,reduceCtorEq,initFr,reduceLT,clsA,reduceLeDiff,reduceMul,reduceSub,reduceIte]
   refine callK (t11 H n) ?_
   rintro _ K1 ⟨k1,b,sb,rfl,hd,hfd⟩
   simp(disch:=first|assumption|omega|(simp only[LN]<;>omega)|(simp(disch:=first|assumption|omega|(simp only[LN]<;>omega))only[row_alloc,row_set];assumption))only[W_block,P3,↓reduceIte,reduceAdd,reduceEqDiff,reduceCtorEq,initFr,reduceLT,clsA,reduceLeDiff,reduceMul,reduceSub,reduceIte]
   refine callK (t12 K1 n) ?_
   rintro _ K2 ⟨k2,e,vb,rfl,he,hfe⟩
   have d:D2 H K2 b sb (.slice none 0 0) none e vb (.slice none 0 0) 0 (newD n):=by
    refine⟨⟨Sep.join2 (H:=H) hd.s k2 he.s hfe,(k1.trans k2).chg _,fun y hy=>.inr ?_⟩,hd.ok,he.i⟩
    rw[fp_app]at hy
    rcases List.mem_append.1 hy with hy|hy
    ·exact hfd y hy
    ·have:=hfe y hy;have:=k1.n;omega
   have bn:(newD n).st<999999∧(newD n).op.length<999999:=⟨by show 0<999999;omega,by show 0<999999;omega⟩
   simp(disch:=first|assumption|omega|(simp only[LN]<;>omega)|(simp(disch:=first|assumption|omega|(simp only[LN]<;>omega))only[row_alloc,row_set];assumption))only[W_block,P3,↓reduceIte,reduceAdd,reduceEqDiff,reduceCtorEq,initFr,reduceLT,clsA,reduceLeDiff,reduceMul,reduceSub,reduceIte]
   refine callK (t53 d.dk bn.1 bn.2) ?_
   rintro w1 Z1 ho
   obtain⟨p,rfl,ek1,kz1,fin⟩:=S4.open1 d ho
   simp(disch:=first|assumption|omega|(simp only[LN]<;>omega)|(simp(disch:=first|assumption|omega|(simp only[LN]<;>omega))only[row_alloc,row_set];assumption))only[P3,↓reduceIte,reduceAdd,reduceEqDiff,reduceCtorEq,initFr,reduceLT,clsA,reduceLeDiff,reduceMul,reduceSub,reduceIte]
   refine callK (t54 ek1 bn.1 bn.2) ?_
   rintro w2 Z2 ho2
   obtain⟨p2,rfl,sw2⟩:=fin ho2
   have bnd:=openL_b5 (m:=0) hd.ok (by show 0≤_;omega) (by show 0≤_;omega) bn.1 bn.2
   simp(disch:=first|assumption|omega|(simp only[LN]<;>omega)|(simp(disch:=first|assumption|omega|(simp only[LN]<;>omega))only[row_alloc,row_set];assumption))only[P3,↓reduceIte,reduceAdd,reduceEqDiff,reduceCtorEq,initFr,reduceLT,clsA,reduceLeDiff,reduceMul,reduceSub,reduceIte]
   exact hk _ _ ⟨b,e,p,_,p2,_,_,_,_,_,_,_,_,_,_,_,_,sb,vb,_,_,_,rfl,sw2,bnd,hl⟩
theorem lawLkPlays:∀H args,NoOwn H→AVs Go.Proofs.Tryz.prog H.get [3,77] args→∃H',ARun Go.Proofs.Tryz.prog 0 7 args H (.bool true) H':=by
 intro H args _ h
 match args,h with
 |[e,v],⟨h1,h2,_⟩=>
  obtain⟨n,rfl,_⟩:=h1.int_inv (k:=.i64) (by kernel_rfl)
  obtain⟨l,hc⟩:=av_calls17 h2
  obtain⟨_,K,r,rfl⟩:=t7 hc n
  exact⟨K,r⟩
end Go.AM.Fd
